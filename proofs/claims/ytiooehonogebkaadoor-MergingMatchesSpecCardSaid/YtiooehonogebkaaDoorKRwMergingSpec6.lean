/-
  Texts that the proof stands on.
-/
import Derived.Test.YtiooehonogebkaaDoorKRwMergingSpec5
set_option linter.all false
section
namespace Ab
open Go Go.Proofs
set_option maxHeartbeats 4000000
set_option linter.all false
attribute [local irreducible] AWP AOps thn inB Done PureOk FreshOk Sub
theorem partialorder_Interfere_ok {t : TTask} {av : Int} {bv : Int} {r : Bool} (h : partialorder_Interfere t av bv = some r) : PureOk Tryd.prog 33 [.agg [int t.facts, row 1 intI t.init, row 1 intI t.goal, row 4 eTOperator t.operators], .c (int av), .c (int bv)] (.c (bool r)) := by
  unfold PureOk
  refine FnOk.enter (rs := [.t 6]) Tryd.func33 rfl Tryd.ntmps33 Tryd.results33 rfl ⟨trivial, trivial⟩ (by kernel_rfl) rfl ?_
  unfold partialorder_Interfere at h
  refine AWP.seq ?_
  refine AWP.region ?_
  refine W.box rfl rfl rfl rfl rfl rfl ?_
  refine AOps.assign rfl rfl ?_
  refine AOps.nil ?_
  refine thn_normal ?_
  refine AWP.seq ?_
  obtain ⟨a12, ha12, h⟩ := bind_some h
  obtain ⟨a17, ha17, h⟩ := bind_some h
  refine AWP.sub (s' := ⟨[(0, .agg [int t.facts, row 1 intI t.init, row 1 intI t.goal, row 4 eTOperator t.operators]), (1, .c (int av)), (2, .c (int bv)), (3, .c (.ptr 0 0 0)), (6, .c (bool false))], [.one (.cells 4 [[int t.facts, row 1 intI t.init, row 1 intI t.goal, row 4 eTOperator t.operators]]), .dead, .dead]⟩) (Sub.cut ⟨rfl, rfl, rfl, rfl, rfl, trivial⟩ rfl ⟨.one rfl, .dead, .dead, trivial⟩ rfl) ?_
  refine AWP.drawTI [.c (.ptr 0 0 3), .c (row 4 eTOperator t.operators), .c (int av), .c (.imm (.ipt [.sl 1 (List.map intI a12.pre), .sl 1 (List.map intI a12.add), .sl 1 (List.map intI a12.del), .val (.int .i64 a12.cost)])), .agg [row 1 intI a12.pre, row 1 intI a12.add, row 1 intI a12.del, int a12.cost], .c (.ptr 0 0 3), .c (row 4 eTOperator t.operators), .c (int bv), .c (.imm (.ipt [.sl 1 (List.map intI a17.pre), .sl 1 (List.map intI a17.add), .sl 1 (List.map intI a17.del), .val (.int .i64 a17.cost)])), .agg [row 1 intI a17.pre, row 1 intI a17.add, row 1 intI a17.del, int a17.cost], .c (.ptr 1 0 0), .c (.ptr 2 0 0), .undef, .undef] [10, 11, 12, 13] [([], [.one (.cells 4 [[int t.facts, row 1 intI t.init, row 1 intI t.goal, row 4 eTOperator t.operators]]), .dead, .dead]), ([10], [.one (.cells 4 [[int t.facts, row 1 intI t.init, row 1 intI t.goal, row 4 eTOperator t.operators]]), .one (.cells 4 [[.imm (.val (.slice none 0 0)), .imm (.val (.slice none 0 0)), .imm (.val (.slice none 0 0)), int 0]]), .dead]), ([11], [.one (.cells 4 [[int t.facts, row 1 intI t.init, row 1 intI t.goal, row 4 eTOperator t.operators]]), .dead, .one (.cells 4 [[.imm (.val (.slice none 0 0)), .imm (.val (.slice none 0 0)), .imm (.val (.slice none 0 0)), int 0]])]), ([10, 11], [.one (.cells 4 [[int t.facts, row 1 intI t.init, row 1 intI t.goal, row 4 eTOperator t.operators]]), .one (.cells 4 [[.imm (.val (.slice none 0 0)), .imm (.val (.slice none 0 0)), .imm (.val (.slice none 0 0)), int 0]]), .one (.cells 4 [[.imm (.val (.slice none 0 0)), .imm (.val (.slice none 0 0)), .imm (.val (.slice none 0 0)), int 0]])]), ([10, 11, 12], [.one (.cells 4 [[int t.facts, row 1 intI t.init, row 1 intI t.goal, row 4 eTOperator t.operators]]), .one (.cells 4 [[row 1 intI a12.pre, row 1 intI a12.add, row 1 intI a12.del, int a12.cost]]), .one (.cells 4 [[.imm (.val (.slice none 0 0)), .imm (.val (.slice none 0 0)), .imm (.val (.slice none 0 0)), int 0]])]), ([10, 11, 12, 13], [.one (.cells 4 [[int t.facts, row 1 intI t.init, row 1 intI t.goal, row 4 eTOperator t.operators]]), .one (.cells 4 [[row 1 intI a12.pre, row 1 intI a12.add, row 1 intI a12.del, int a12.cost]]), .one (.cells 4 [[row 1 intI a17.pre, row 1 intI a17.add, row 1 intI a17.del, int a17.cost]])])] [.one (.cells 4 [[int t.facts, row 1 intI t.init, row 1 intI t.goal, row 4 eTOperator t.operators]]), .one (.cells 4 [[row 1 intI a12.pre, row 1 intI a12.add, row 1 intI a12.del, int a12.cost]]), .one (.cells 4 [[row 1 intI a17.pre, row 1 intI a17.add, row 1 intI a17.del, int a17.cost]])] mixed rfl rfl rfl rfl rfl ?_ ?_
  · refine TabOk.cons ?_ ?_
    · apply EntOps.go; exact rfl; exact rfl; exact rfl; intro E hE; (refine W.fieldAddr rfl rfl rfl rfl ?_); exact AOps.nil ⟨rfl, rfl⟩
      apply EntOps.go; exact rfl; exact rfl; exact rfl; intro E hE; (refine AOps.load rfl rfl rfl rfl rfl rfl ?_); exact AOps.nil ⟨rfl, rfl⟩
      apply EntOps.go; exact rfl; exact rfl; exact rfl; intro E hE; (refine AOps.move rfl rfl ?_); exact AOps.nil ⟨rfl, rfl⟩
      apply EntOps.go; exact rfl; exact rfl; exact rfl; intro E hE; (refine S.idx ha12 rfl rfl rfl rfl ?_); exact AOps.nil ⟨rfl, rfl⟩
      apply EntOps.go; exact rfl; exact rfl; exact rfl; intro E hE; (refine W.loadIAgg rfl rfl rfl rfl rfl ?_); exact AOps.nil ⟨rfl, rfl⟩
      apply EntOps.go; exact rfl; exact rfl; exact rfl; intro E hE; (refine W.fieldAddr rfl rfl rfl rfl ?_); exact AOps.nil ⟨rfl, rfl⟩
      apply EntOps.go; exact rfl; exact rfl; exact rfl; intro E hE; (refine AOps.load rfl rfl rfl rfl rfl rfl ?_); exact AOps.nil ⟨rfl, rfl⟩
      apply EntOps.go; exact rfl; exact rfl; exact rfl; intro E hE; (refine AOps.move rfl rfl ?_); exact AOps.nil ⟨rfl, rfl⟩
      apply EntOps.go; exact rfl; exact rfl; exact rfl; intro E hE; (refine S.idx ha17 rfl rfl rfl rfl ?_); exact AOps.nil ⟨rfl, rfl⟩
      apply EntOps.go; exact rfl; exact rfl; exact rfl; intro E hE; (refine W.loadIAgg rfl rfl rfl rfl rfl ?_); exact AOps.nil ⟨rfl, rfl⟩
      apply EntOps.eff; exact rfl; exact rfl; exact rfl; exact rfl; intro E hE; (refine AOps.allocAt 1 hE rfl rfl rfl rfl rfl rfl rfl ⟨.one rfl, .dead, .dead, trivial⟩ rfl ?_); exact AOps.nil ⟨rfl, rfl⟩
      apply EntOps.eff; exact rfl; exact rfl; exact rfl; exact rfl; intro E hE; (refine AOps.allocAt 2 hE rfl rfl rfl rfl rfl rfl rfl ⟨.one rfl, .dead, .dead, trivial⟩ rfl ?_); exact AOps.nil ⟨rfl, rfl⟩
      refine EntOps.no rfl ?_
      refine EntOps.no rfl ?_
      exact EntOps.nil
    refine TabOk.cons ?_ ?_
    · apply EntOps.go; exact rfl; exact rfl; exact rfl; intro E hE; (refine W.fieldAddr rfl rfl rfl rfl ?_); exact AOps.nil ⟨rfl, rfl⟩
      apply EntOps.go; exact rfl; exact rfl; exact rfl; intro E hE; (refine AOps.load rfl rfl rfl rfl rfl rfl ?_); exact AOps.nil ⟨rfl, rfl⟩
      apply EntOps.go; exact rfl; exact rfl; exact rfl; intro E hE; (refine AOps.move rfl rfl ?_); exact AOps.nil ⟨rfl, rfl⟩
      apply EntOps.go; exact rfl; exact rfl; exact rfl; intro E hE; (refine S.idx ha12 rfl rfl rfl rfl ?_); exact AOps.nil ⟨rfl, rfl⟩
      apply EntOps.go; exact rfl; exact rfl; exact rfl; intro E hE; (refine W.loadIAgg rfl rfl rfl rfl rfl ?_); exact AOps.nil ⟨rfl, rfl⟩
      apply EntOps.go; exact rfl; exact rfl; exact rfl; intro E hE; (refine W.fieldAddr rfl rfl rfl rfl ?_); exact AOps.nil ⟨rfl, rfl⟩
      apply EntOps.go; exact rfl; exact rfl; exact rfl; intro E hE; (refine AOps.load rfl rfl rfl rfl rfl rfl ?_); exact AOps.nil ⟨rfl, rfl⟩
      apply EntOps.go; exact rfl; exact rfl; exact rfl; intro E hE; (refine AOps.move rfl rfl ?_); exact AOps.nil ⟨rfl, rfl⟩
      apply EntOps.go; exact rfl; exact rfl; exact rfl; intro E hE; (refine S.idx ha17 rfl rfl rfl rfl ?_); exact AOps.nil ⟨rfl, rfl⟩
      apply EntOps.go; exact rfl; exact rfl; exact rfl; intro E hE; (refine W.loadIAgg rfl rfl rfl rfl rfl ?_); exact AOps.nil ⟨rfl, rfl⟩
      refine EntOps.no rfl ?_
      apply EntOps.eff; exact rfl; exact rfl; exact rfl; exact rfl; intro E hE; (refine AOps.allocAt 2 hE rfl rfl rfl rfl rfl rfl rfl ⟨.one rfl, .one rfl, .dead, trivial⟩ rfl ?_); exact AOps.nil ⟨rfl, rfl⟩
      refine EntOps.no rfl ?_
      refine EntOps.no rfl ?_
      exact EntOps.nil
    refine TabOk.cons ?_ ?_
    · apply EntOps.go; exact rfl; exact rfl; exact rfl; intro E hE; (refine W.fieldAddr rfl rfl rfl rfl ?_); exact AOps.nil ⟨rfl, rfl⟩
      apply EntOps.go; exact rfl; exact rfl; exact rfl; intro E hE; (refine AOps.load rfl rfl rfl rfl rfl rfl ?_); exact AOps.nil ⟨rfl, rfl⟩
      apply EntOps.go; exact rfl; exact rfl; exact rfl; intro E hE; (refine AOps.move rfl rfl ?_); exact AOps.nil ⟨rfl, rfl⟩
      apply EntOps.go; exact rfl; exact rfl; exact rfl; intro E hE; (refine S.idx ha12 rfl rfl rfl rfl ?_); exact AOps.nil ⟨rfl, rfl⟩
      apply EntOps.go; exact rfl; exact rfl; exact rfl; intro E hE; (refine W.loadIAgg rfl rfl rfl rfl rfl ?_); exact AOps.nil ⟨rfl, rfl⟩
      apply EntOps.go; exact rfl; exact rfl; exact rfl; intro E hE; (refine W.fieldAddr rfl rfl rfl rfl ?_); exact AOps.nil ⟨rfl, rfl⟩
      apply EntOps.go; exact rfl; exact rfl; exact rfl; intro E hE; (refine AOps.load rfl rfl rfl rfl rfl rfl ?_); exact AOps.nil ⟨rfl, rfl⟩
      apply EntOps.go; exact rfl; exact rfl; exact rfl; intro E hE; (refine AOps.move rfl rfl ?_); exact AOps.nil ⟨rfl, rfl⟩
      apply EntOps.go; exact rfl; exact rfl; exact rfl; intro E hE; (refine S.idx ha17 rfl rfl rfl rfl ?_); exact AOps.nil ⟨rfl, rfl⟩
      apply EntOps.go; exact rfl; exact rfl; exact rfl; intro E hE; (refine W.loadIAgg rfl rfl rfl rfl rfl ?_); exact AOps.nil ⟨rfl, rfl⟩
      apply EntOps.eff; exact rfl; exact rfl; exact rfl; exact rfl; intro E hE; (refine AOps.allocAt 1 hE rfl rfl rfl rfl rfl rfl rfl ⟨.one rfl, .dead, .one rfl, trivial⟩ rfl ?_); exact AOps.nil ⟨rfl, rfl⟩
      refine EntOps.no rfl ?_
      refine EntOps.no rfl ?_
      refine EntOps.no rfl ?_
      exact EntOps.nil
    refine TabOk.cons ?_ ?_
    · apply EntOps.go; exact rfl; exact rfl; exact rfl; intro E hE; (refine W.fieldAddr rfl rfl rfl rfl ?_); exact AOps.nil ⟨rfl, rfl⟩
      apply EntOps.go; exact rfl; exact rfl; exact rfl; intro E hE; (refine AOps.load rfl rfl rfl rfl rfl rfl ?_); exact AOps.nil ⟨rfl, rfl⟩
      apply EntOps.go; exact rfl; exact rfl; exact rfl; intro E hE; (refine AOps.move rfl rfl ?_); exact AOps.nil ⟨rfl, rfl⟩
      apply EntOps.go; exact rfl; exact rfl; exact rfl; intro E hE; (refine S.idx ha12 rfl rfl rfl rfl ?_); exact AOps.nil ⟨rfl, rfl⟩
      apply EntOps.go; exact rfl; exact rfl; exact rfl; intro E hE; (refine W.loadIAgg rfl rfl rfl rfl rfl ?_); exact AOps.nil ⟨rfl, rfl⟩
      apply EntOps.go; exact rfl; exact rfl; exact rfl; intro E hE; (refine W.fieldAddr rfl rfl rfl rfl ?_); exact AOps.nil ⟨rfl, rfl⟩
      apply EntOps.go; exact rfl; exact rfl; exact rfl; intro E hE; (refine AOps.load rfl rfl rfl rfl rfl rfl ?_); exact AOps.nil ⟨rfl, rfl⟩
      apply EntOps.go; exact rfl; exact rfl; exact rfl; intro E hE; (refine AOps.move rfl rfl ?_); exact AOps.nil ⟨rfl, rfl⟩
      apply EntOps.go; exact rfl; exact rfl; exact rfl; intro E hE; (refine S.idx ha17 rfl rfl rfl rfl ?_); exact AOps.nil ⟨rfl, rfl⟩
      apply EntOps.go; exact rfl; exact rfl; exact rfl; intro E hE; (refine W.loadIAgg rfl rfl rfl rfl rfl ?_); exact AOps.nil ⟨rfl, rfl⟩
      refine EntOps.no rfl ?_
      refine EntOps.no rfl ?_
      apply EntOps.eff; exact rfl; exact rfl; exact rfl; exact rfl; intro E hE; (refine W.storeAgg rfl rfl rfl rfl rfl rfl rfl ?_); exact AOps.nil ⟨rfl, rfl⟩
      refine EntOps.no rfl ?_
      exact EntOps.nil
    refine TabOk.cons ?_ ?_
    · refine EntOps.no rfl ?_
      refine EntOps.no rfl ?_
      refine EntOps.no rfl ?_
      refine EntOps.no rfl ?_
      refine EntOps.no rfl ?_
      apply EntOps.go; exact rfl; exact rfl; exact rfl; intro E hE; (refine W.fieldAddr rfl rfl rfl rfl ?_); exact AOps.nil ⟨rfl, rfl⟩
      apply EntOps.go; exact rfl; exact rfl; exact rfl; intro E hE; (refine AOps.load rfl rfl rfl rfl rfl rfl ?_); exact AOps.nil ⟨rfl, rfl⟩
      apply EntOps.go; exact rfl; exact rfl; exact rfl; intro E hE; (refine AOps.move rfl rfl ?_); exact AOps.nil ⟨rfl, rfl⟩
      apply EntOps.go; exact rfl; exact rfl; exact rfl; intro E hE; (refine S.idx ha17 rfl rfl rfl rfl ?_); exact AOps.nil ⟨rfl, rfl⟩
      apply EntOps.go; exact rfl; exact rfl; exact rfl; intro E hE; (refine W.loadIAgg rfl rfl rfl rfl rfl ?_); exact AOps.nil ⟨rfl, rfl⟩
      refine EntOps.no rfl ?_
      refine EntOps.no rfl ?_
      refine EntOps.no rfl ?_
      apply EntOps.eff; exact rfl; exact rfl; exact rfl; exact rfl; intro E hE; (refine W.storeAgg rfl rfl rfl rfl rfl rfl rfl ?_); exact AOps.nil ⟨rfl, rfl⟩
      exact EntOps.nil
    refine TabOk.cons ?_ ?_
    · refine EntOps.no rfl ?_
      refine EntOps.no rfl ?_
      refine EntOps.no rfl ?_
      refine EntOps.no rfl ?_
      refine EntOps.no rfl ?_
      refine EntOps.no rfl ?_
      refine EntOps.no rfl ?_
      refine EntOps.no rfl ?_
      refine EntOps.no rfl ?_
      refine EntOps.no rfl ?_
      refine EntOps.no rfl ?_
      refine EntOps.no rfl ?_
      refine EntOps.no rfl ?_
      refine EntOps.no rfl ?_
      exact EntOps.nil
    exact TabOk.nil
  dsimp only [envEnd]
  refine thn_normal ?_
  obtain ⟨t4, hx5, h⟩ := bind_some h
  refine AWP.seqJ (⟨[(6, .c (bool t4))], []⟩) ?_ ?_
  · obtain ⟨a23, ha23, hx5⟩ := bind_some hx5
    rcases Bool.eq_false_or_eq_true (a23) with hb6 | hb6
    · replace hx5 := iteBT hb6 hx5
      refine AWP.region ?_
      refine W.fieldAddr rfl rfl rfl rfl ?_
      refine AOps.load rfl rfl rfl rfl rfl rfl ?_
      refine W.fieldAddr rfl rfl rfl rfl ?_
      refine AOps.load rfl rfl rfl rfl rfl rfl ?_
      refine AOps.callR rfl rfl rfl rfl (strips_Meets_ok ha23) rfl ?_
      refine AOps.move rfl rfl ?_
      refine AOps.guardF rfl rfl rfl hb6 ?_
      refine AOps.guardF rfl rfl rfl hb6 ?_
      refine AOps.guardF rfl rfl rfl hb6 ?_
      refine AOps.guardF rfl rfl rfl hb6 ?_
      refine AOps.guardF rfl rfl rfl hb6 ?_
      refine AOps.pickT rfl hb6 rfl rfl ?_
      refine AOps.move rfl rfl ?_
      refine AOps.guardF rfl rfl rfl rfl ?_
      refine AOps.guardF rfl rfl rfl rfl ?_
      refine AOps.guardF rfl rfl rfl rfl ?_
      refine AOps.guardF rfl rfl rfl rfl ?_
      refine AOps.guardF rfl rfl rfl rfl ?_
      refine AOps.pickT rfl rfl rfl rfl ?_
      refine AOps.move rfl rfl ?_
      refine AOps.guardF rfl rfl rfl rfl ?_
      refine AOps.guardF rfl rfl rfl rfl ?_
      refine AOps.guardF rfl rfl rfl rfl ?_
      refine AOps.guardF rfl rfl rfl rfl ?_
      refine AOps.guardF rfl rfl rfl rfl ?_
      refine AOps.pickT rfl rfl rfl rfl ?_
      refine AOps.move rfl rfl ?_
      refine AOps.guardF rfl rfl rfl rfl ?_
      refine AOps.guardF rfl rfl rfl rfl ?_
      refine AOps.guardF rfl rfl rfl rfl ?_
      refine AOps.guardF rfl rfl rfl rfl ?_
      refine AOps.guardF rfl rfl rfl rfl ?_
      refine AOps.pickT rfl rfl rfl rfl ?_
      refine AOps.move rfl rfl ?_
      refine AOps.guardF rfl rfl rfl rfl ?_
      refine AOps.guardF rfl rfl rfl rfl ?_
      refine AOps.guardF rfl rfl rfl rfl ?_
      refine AOps.guardF rfl rfl rfl rfl ?_
      refine AOps.guardF rfl rfl rfl rfl ?_
      refine AOps.pickT rfl rfl rfl rfl ?_
      refine AOps.assign rfl rfl ?_
      refine AOps.nil ?_
      have ej := Option.some.inj hx5
      subst ej
      refine thn_normal ?_
      exact Sub.cut ⟨rfl, trivial⟩ rfl trivial rfl
    · replace hx5 := iteBF hb6 hx5
      obtain ⟨a29, ha29, hx5⟩ := bind_some hx5
      rcases Bool.eq_false_or_eq_true (a29) with hb7 | hb7
      · replace hx5 := iteBT hb7 hx5
        refine AWP.region ?_
        refine W.fieldAddr rfl rfl rfl rfl ?_
        refine AOps.load rfl rfl rfl rfl rfl rfl ?_
        refine W.fieldAddr rfl rfl rfl rfl ?_
        refine AOps.load rfl rfl rfl rfl rfl rfl ?_
        refine AOps.callR rfl rfl rfl rfl (strips_Meets_ok ha23) rfl ?_
        refine AOps.move rfl rfl ?_
        refine AOps.guardT rfl rfl rfl hb6 ?_; refine W.fieldAddr rfl rfl rfl rfl ?_
        refine AOps.guardT rfl rfl rfl hb6 ?_; refine AOps.load rfl rfl rfl rfl rfl rfl ?_
        refine AOps.guardT rfl rfl rfl hb6 ?_; refine W.fieldAddr rfl rfl rfl rfl ?_
        refine AOps.guardT rfl rfl rfl hb6 ?_; refine AOps.load rfl rfl rfl rfl rfl rfl ?_
        refine AOps.guardT rfl rfl rfl hb6 ?_; refine AOps.callR rfl rfl rfl rfl (strips_Meets_ok ha29) rfl ?_
        refine AOps.pickF rfl hb6 rfl rfl ?_
        refine AOps.move rfl rfl ?_
        refine AOps.guardF rfl rfl rfl hb7 ?_
        refine AOps.guardF rfl rfl rfl hb7 ?_
        refine AOps.guardF rfl rfl rfl hb7 ?_
        refine AOps.guardF rfl rfl rfl hb7 ?_
        refine AOps.guardF rfl rfl rfl hb7 ?_
        refine AOps.pickT rfl hb7 rfl rfl ?_
        refine AOps.move rfl rfl ?_
        refine AOps.guardF rfl rfl rfl rfl ?_
        refine AOps.guardF rfl rfl rfl rfl ?_
        refine AOps.guardF rfl rfl rfl rfl ?_
        refine AOps.guardF rfl rfl rfl rfl ?_
        refine AOps.guardF rfl rfl rfl rfl ?_
        refine AOps.pickT rfl rfl rfl rfl ?_
        refine AOps.move rfl rfl ?_
        refine AOps.guardF rfl rfl rfl rfl ?_
        refine AOps.guardF rfl rfl rfl rfl ?_
        refine AOps.guardF rfl rfl rfl rfl ?_
        refine AOps.guardF rfl rfl rfl rfl ?_
        refine AOps.guardF rfl rfl rfl rfl ?_
        refine AOps.pickT rfl rfl rfl rfl ?_
        refine AOps.move rfl rfl ?_
        refine AOps.guardF rfl rfl rfl rfl ?_
        refine AOps.guardF rfl rfl rfl rfl ?_
        refine AOps.guardF rfl rfl rfl rfl ?_
        refine AOps.guardF rfl rfl rfl rfl ?_
        refine AOps.guardF rfl rfl rfl rfl ?_
        refine AOps.pickT rfl rfl rfl rfl ?_
        refine AOps.assign rfl rfl ?_
        refine AOps.nil ?_
        have ej := Option.some.inj hx5
        subst ej
        refine thn_normal ?_
        exact Sub.cut ⟨rfl, trivial⟩ rfl trivial rfl
      · replace hx5 := iteBF hb7 hx5
        obtain ⟨a36, ha36, hx5⟩ := bind_some hx5
        rcases Bool.eq_false_or_eq_true (a36) with hb8 | hb8
        · replace hx5 := iteBT hb8 hx5
          refine AWP.region ?_
          refine W.fieldAddr rfl rfl rfl rfl ?_
          refine AOps.load rfl rfl rfl rfl rfl rfl ?_
          refine W.fieldAddr rfl rfl rfl rfl ?_
          refine AOps.load rfl rfl rfl rfl rfl rfl ?_
          refine AOps.callR rfl rfl rfl rfl (strips_Meets_ok ha23) rfl ?_
          refine AOps.move rfl rfl ?_
          refine AOps.guardT rfl rfl rfl hb6 ?_; refine W.fieldAddr rfl rfl rfl rfl ?_
          refine AOps.guardT rfl rfl rfl hb6 ?_; refine AOps.load rfl rfl rfl rfl rfl rfl ?_
          refine AOps.guardT rfl rfl rfl hb6 ?_; refine W.fieldAddr rfl rfl rfl rfl ?_
          refine AOps.guardT rfl rfl rfl hb6 ?_; refine AOps.load rfl rfl rfl rfl rfl rfl ?_
          refine AOps.guardT rfl rfl rfl hb6 ?_; refine AOps.callR rfl rfl rfl rfl (strips_Meets_ok ha29) rfl ?_
          refine AOps.pickF rfl hb6 rfl rfl ?_
          refine AOps.move rfl rfl ?_
          refine AOps.guardT rfl rfl rfl hb7 ?_; refine W.fieldAddr rfl rfl rfl rfl ?_
          refine AOps.guardT rfl rfl rfl hb7 ?_; refine AOps.load rfl rfl rfl rfl rfl rfl ?_
          refine AOps.guardT rfl rfl rfl hb7 ?_; refine W.fieldAddr rfl rfl rfl rfl ?_
          refine AOps.guardT rfl rfl rfl hb7 ?_; refine AOps.load rfl rfl rfl rfl rfl rfl ?_
          refine AOps.guardT rfl rfl rfl hb7 ?_; refine AOps.callR rfl rfl rfl rfl (strips_Meets_ok ha36) rfl ?_
          refine AOps.pickF rfl hb7 rfl rfl ?_
          refine AOps.move rfl rfl ?_
          refine AOps.guardF rfl rfl rfl hb8 ?_
          refine AOps.guardF rfl rfl rfl hb8 ?_
          refine AOps.guardF rfl rfl rfl hb8 ?_
          refine AOps.guardF rfl rfl rfl hb8 ?_
          refine AOps.guardF rfl rfl rfl hb8 ?_
          refine AOps.pickT rfl hb8 rfl rfl ?_
          refine AOps.move rfl rfl ?_
          refine AOps.guardF rfl rfl rfl rfl ?_
          refine AOps.guardF rfl rfl rfl rfl ?_
          refine AOps.guardF rfl rfl rfl rfl ?_
          refine AOps.guardF rfl rfl rfl rfl ?_
          refine AOps.guardF rfl rfl rfl rfl ?_
          refine AOps.pickT rfl rfl rfl rfl ?_
          refine AOps.move rfl rfl ?_
          refine AOps.guardF rfl rfl rfl rfl ?_
          refine AOps.guardF rfl rfl rfl rfl ?_
          refine AOps.guardF rfl rfl rfl rfl ?_
          refine AOps.guardF rfl rfl rfl rfl ?_
          refine AOps.guardF rfl rfl rfl rfl ?_
          refine AOps.pickT rfl rfl rfl rfl ?_
          refine AOps.assign rfl rfl ?_
          refine AOps.nil ?_
          have ej := Option.some.inj hx5
          subst ej
          refine thn_normal ?_
          exact Sub.cut ⟨rfl, trivial⟩ rfl trivial rfl
        · replace hx5 := iteBF hb8 hx5
          obtain ⟨a43, ha43, hx5⟩ := bind_some hx5
          rcases Bool.eq_false_or_eq_true (a43) with hb9 | hb9
          · replace hx5 := iteBT hb9 hx5
            refine AWP.region ?_
            refine W.fieldAddr rfl rfl rfl rfl ?_
            refine AOps.load rfl rfl rfl rfl rfl rfl ?_
            refine W.fieldAddr rfl rfl rfl rfl ?_
            refine AOps.load rfl rfl rfl rfl rfl rfl ?_
            refine AOps.callR rfl rfl rfl rfl (strips_Meets_ok ha23) rfl ?_
            refine AOps.move rfl rfl ?_
            refine AOps.guardT rfl rfl rfl hb6 ?_; refine W.fieldAddr rfl rfl rfl rfl ?_
            refine AOps.guardT rfl rfl rfl hb6 ?_; refine AOps.load rfl rfl rfl rfl rfl rfl ?_
            refine AOps.guardT rfl rfl rfl hb6 ?_; refine W.fieldAddr rfl rfl rfl rfl ?_
            refine AOps.guardT rfl rfl rfl hb6 ?_; refine AOps.load rfl rfl rfl rfl rfl rfl ?_
            refine AOps.guardT rfl rfl rfl hb6 ?_; refine AOps.callR rfl rfl rfl rfl (strips_Meets_ok ha29) rfl ?_
            refine AOps.pickF rfl hb6 rfl rfl ?_
            refine AOps.move rfl rfl ?_
            refine AOps.guardT rfl rfl rfl hb7 ?_; refine W.fieldAddr rfl rfl rfl rfl ?_
            refine AOps.guardT rfl rfl rfl hb7 ?_; refine AOps.load rfl rfl rfl rfl rfl rfl ?_
            refine AOps.guardT rfl rfl rfl hb7 ?_; refine W.fieldAddr rfl rfl rfl rfl ?_
            refine AOps.guardT rfl rfl rfl hb7 ?_; refine AOps.load rfl rfl rfl rfl rfl rfl ?_
            refine AOps.guardT rfl rfl rfl hb7 ?_; refine AOps.callR rfl rfl rfl rfl (strips_Meets_ok ha36) rfl ?_
            refine AOps.pickF rfl hb7 rfl rfl ?_
            refine AOps.move rfl rfl ?_
            refine AOps.guardT rfl rfl rfl hb8 ?_; refine W.fieldAddr rfl rfl rfl rfl ?_
            refine AOps.guardT rfl rfl rfl hb8 ?_; refine AOps.load rfl rfl rfl rfl rfl rfl ?_
            refine AOps.guardT rfl rfl rfl hb8 ?_; refine W.fieldAddr rfl rfl rfl rfl ?_
            refine AOps.guardT rfl rfl rfl hb8 ?_; refine AOps.load rfl rfl rfl rfl rfl rfl ?_
            refine AOps.guardT rfl rfl rfl hb8 ?_; refine AOps.callR rfl rfl rfl rfl (strips_Meets_ok ha43) rfl ?_
            refine AOps.pickF rfl hb8 rfl rfl ?_
            refine AOps.move rfl rfl ?_
            refine AOps.guardF rfl rfl rfl hb9 ?_
            refine AOps.guardF rfl rfl rfl hb9 ?_
            refine AOps.guardF rfl rfl rfl hb9 ?_
            refine AOps.guardF rfl rfl rfl hb9 ?_
            refine AOps.guardF rfl rfl rfl hb9 ?_
            refine AOps.pickT rfl hb9 rfl rfl ?_
            refine AOps.move rfl rfl ?_
            refine AOps.guardF rfl rfl rfl rfl ?_
            refine AOps.guardF rfl rfl rfl rfl ?_
            refine AOps.guardF rfl rfl rfl rfl ?_
            refine AOps.guardF rfl rfl rfl rfl ?_
            refine AOps.guardF rfl rfl rfl rfl ?_
            refine AOps.pickT rfl rfl rfl rfl ?_
            refine AOps.assign rfl rfl ?_
            refine AOps.nil ?_
            have ej := Option.some.inj hx5
            subst ej
            refine thn_normal ?_
            exact Sub.cut ⟨rfl, trivial⟩ rfl trivial rfl
          · replace hx5 := iteBF hb9 hx5
            obtain ⟨a50, ha50, hx5⟩ := bind_some hx5
            rcases Bool.eq_false_or_eq_true (a50) with hb10 | hb10
            · replace hx5 := iteBT hb10 hx5
              refine AWP.region ?_
              refine W.fieldAddr rfl rfl rfl rfl ?_
              refine AOps.load rfl rfl rfl rfl rfl rfl ?_
              refine W.fieldAddr rfl rfl rfl rfl ?_
              refine AOps.load rfl rfl rfl rfl rfl rfl ?_
              refine AOps.callR rfl rfl rfl rfl (strips_Meets_ok ha23) rfl ?_
              refine AOps.move rfl rfl ?_
              refine AOps.guardT rfl rfl rfl hb6 ?_; refine W.fieldAddr rfl rfl rfl rfl ?_
              refine AOps.guardT rfl rfl rfl hb6 ?_; refine AOps.load rfl rfl rfl rfl rfl rfl ?_
              refine AOps.guardT rfl rfl rfl hb6 ?_; refine W.fieldAddr rfl rfl rfl rfl ?_
              refine AOps.guardT rfl rfl rfl hb6 ?_; refine AOps.load rfl rfl rfl rfl rfl rfl ?_
              refine AOps.guardT rfl rfl rfl hb6 ?_; refine AOps.callR rfl rfl rfl rfl (strips_Meets_ok ha29) rfl ?_
              refine AOps.pickF rfl hb6 rfl rfl ?_
              refine AOps.move rfl rfl ?_
              refine AOps.guardT rfl rfl rfl hb7 ?_; refine W.fieldAddr rfl rfl rfl rfl ?_
              refine AOps.guardT rfl rfl rfl hb7 ?_; refine AOps.load rfl rfl rfl rfl rfl rfl ?_
              refine AOps.guardT rfl rfl rfl hb7 ?_; refine W.fieldAddr rfl rfl rfl rfl ?_
              refine AOps.guardT rfl rfl rfl hb7 ?_; refine AOps.load rfl rfl rfl rfl rfl rfl ?_
              refine AOps.guardT rfl rfl rfl hb7 ?_; refine AOps.callR rfl rfl rfl rfl (strips_Meets_ok ha36) rfl ?_
              refine AOps.pickF rfl hb7 rfl rfl ?_
              refine AOps.move rfl rfl ?_
              refine AOps.guardT rfl rfl rfl hb8 ?_; refine W.fieldAddr rfl rfl rfl rfl ?_
              refine AOps.guardT rfl rfl rfl hb8 ?_; refine AOps.load rfl rfl rfl rfl rfl rfl ?_
              refine AOps.guardT rfl rfl rfl hb8 ?_; refine W.fieldAddr rfl rfl rfl rfl ?_
              refine AOps.guardT rfl rfl rfl hb8 ?_; refine AOps.load rfl rfl rfl rfl rfl rfl ?_
              refine AOps.guardT rfl rfl rfl hb8 ?_; refine AOps.callR rfl rfl rfl rfl (strips_Meets_ok ha43) rfl ?_
              refine AOps.pickF rfl hb8 rfl rfl ?_
              refine AOps.move rfl rfl ?_
              refine AOps.guardT rfl rfl rfl hb9 ?_; refine W.fieldAddr rfl rfl rfl rfl ?_
              refine AOps.guardT rfl rfl rfl hb9 ?_; refine AOps.load rfl rfl rfl rfl rfl rfl ?_
              refine AOps.guardT rfl rfl rfl hb9 ?_; refine W.fieldAddr rfl rfl rfl rfl ?_
              refine AOps.guardT rfl rfl rfl hb9 ?_; refine AOps.load rfl rfl rfl rfl rfl rfl ?_
              refine AOps.guardT rfl rfl rfl hb9 ?_; refine AOps.callR rfl rfl rfl rfl (strips_Meets_ok ha50) rfl ?_
              refine AOps.pickF rfl hb9 rfl rfl ?_
              refine AOps.move rfl rfl ?_
              refine AOps.guardF rfl rfl rfl hb10 ?_
              refine AOps.guardF rfl rfl rfl hb10 ?_
              refine AOps.guardF rfl rfl rfl hb10 ?_
              refine AOps.guardF rfl rfl rfl hb10 ?_
              refine AOps.guardF rfl rfl rfl hb10 ?_
              refine AOps.pickT rfl hb10 rfl rfl ?_
              refine AOps.assign rfl rfl ?_
              refine AOps.nil ?_
              have ej := Option.some.inj hx5
              subst ej
              refine thn_normal ?_
              exact Sub.cut ⟨rfl, trivial⟩ rfl trivial rfl
            · replace hx5 := iteBF hb10 hx5
              obtain ⟨a57, ha57, hx5⟩ := bind_some hx5
              refine AWP.region ?_
              refine W.fieldAddr rfl rfl rfl rfl ?_
              refine AOps.load rfl rfl rfl rfl rfl rfl ?_
              refine W.fieldAddr rfl rfl rfl rfl ?_
              refine AOps.load rfl rfl rfl rfl rfl rfl ?_
              refine AOps.callR rfl rfl rfl rfl (strips_Meets_ok ha23) rfl ?_
              refine AOps.move rfl rfl ?_
              refine AOps.guardT rfl rfl rfl hb6 ?_; refine W.fieldAddr rfl rfl rfl rfl ?_
              refine AOps.guardT rfl rfl rfl hb6 ?_; refine AOps.load rfl rfl rfl rfl rfl rfl ?_
              refine AOps.guardT rfl rfl rfl hb6 ?_; refine W.fieldAddr rfl rfl rfl rfl ?_
              refine AOps.guardT rfl rfl rfl hb6 ?_; refine AOps.load rfl rfl rfl rfl rfl rfl ?_
              refine AOps.guardT rfl rfl rfl hb6 ?_; refine AOps.callR rfl rfl rfl rfl (strips_Meets_ok ha29) rfl ?_
              refine AOps.pickF rfl hb6 rfl rfl ?_
              refine AOps.move rfl rfl ?_
              refine AOps.guardT rfl rfl rfl hb7 ?_; refine W.fieldAddr rfl rfl rfl rfl ?_
              refine AOps.guardT rfl rfl rfl hb7 ?_; refine AOps.load rfl rfl rfl rfl rfl rfl ?_
              refine AOps.guardT rfl rfl rfl hb7 ?_; refine W.fieldAddr rfl rfl rfl rfl ?_
              refine AOps.guardT rfl rfl rfl hb7 ?_; refine AOps.load rfl rfl rfl rfl rfl rfl ?_
              refine AOps.guardT rfl rfl rfl hb7 ?_; refine AOps.callR rfl rfl rfl rfl (strips_Meets_ok ha36) rfl ?_
              refine AOps.pickF rfl hb7 rfl rfl ?_
              refine AOps.move rfl rfl ?_
              refine AOps.guardT rfl rfl rfl hb8 ?_; refine W.fieldAddr rfl rfl rfl rfl ?_
              refine AOps.guardT rfl rfl rfl hb8 ?_; refine AOps.load rfl rfl rfl rfl rfl rfl ?_
              refine AOps.guardT rfl rfl rfl hb8 ?_; refine W.fieldAddr rfl rfl rfl rfl ?_
              refine AOps.guardT rfl rfl rfl hb8 ?_; refine AOps.load rfl rfl rfl rfl rfl rfl ?_
              refine AOps.guardT rfl rfl rfl hb8 ?_; refine AOps.callR rfl rfl rfl rfl (strips_Meets_ok ha43) rfl ?_
              refine AOps.pickF rfl hb8 rfl rfl ?_
              refine AOps.move rfl rfl ?_
              refine AOps.guardT rfl rfl rfl hb9 ?_; refine W.fieldAddr rfl rfl rfl rfl ?_
              refine AOps.guardT rfl rfl rfl hb9 ?_; refine AOps.load rfl rfl rfl rfl rfl rfl ?_
              refine AOps.guardT rfl rfl rfl hb9 ?_; refine W.fieldAddr rfl rfl rfl rfl ?_
              refine AOps.guardT rfl rfl rfl hb9 ?_; refine AOps.load rfl rfl rfl rfl rfl rfl ?_
              refine AOps.guardT rfl rfl rfl hb9 ?_; refine AOps.callR rfl rfl rfl rfl (strips_Meets_ok ha50) rfl ?_
              refine AOps.pickF rfl hb9 rfl rfl ?_
              refine AOps.move rfl rfl ?_
              refine AOps.guardT rfl rfl rfl hb10 ?_; refine W.fieldAddr rfl rfl rfl rfl ?_
              refine AOps.guardT rfl rfl rfl hb10 ?_; refine AOps.load rfl rfl rfl rfl rfl rfl ?_
              refine AOps.guardT rfl rfl rfl hb10 ?_; refine W.fieldAddr rfl rfl rfl rfl ?_
              refine AOps.guardT rfl rfl rfl hb10 ?_; refine AOps.load rfl rfl rfl rfl rfl rfl ?_
              refine AOps.guardT rfl rfl rfl hb10 ?_; refine AOps.callR rfl rfl rfl rfl (strips_Meets_ok ha57) rfl ?_
              refine AOps.pickF rfl hb10 rfl rfl ?_
              refine AOps.assign rfl rfl ?_
              refine AOps.nil ?_
              have ej := Option.some.inj hx5
              subst ej
              refine thn_normal ?_
              exact Sub.cut ⟨rfl, trivial⟩ rfl trivial rfl
  · refine AWP.ret ?_
    have ej := Option.some.inj h
    subst ej
    exact Done.ret rfl rfl
theorem merging_Conflicts_ok {t : TTask} {plans : List (List Int)} {r : (List (Int × Int × Int × Int)) × TFault} (h : merging_Conflicts t plans = some r) : PureOk Tryd.prog 15 [.agg [int t.facts, row 1 intI t.init, row 1 intI t.goal, row 4 eTOperator t.operators], .c (row 1 eLi64 plans)] (.tup [.c (row 4 eA4i64 r.1), .agg [int r.2.code, int r.2.index]]) := by
  unfold PureOk
  refine FnOk.enter (rs := [.t 4, .cell 5 28 2]) Tryd.func15 rfl Tryd.ntmps15 Tryd.results15 rfl ⟨trivial, rv _ rfl, trivial⟩ (by kernel_rfl) rfl ?_
  unfold merging_Conflicts at h
  refine AWP.seq ?_
  refine AWP.region ?_
  refine W.box rfl rfl rfl rfl rfl rfl ?_
  refine AOps.assign rfl rfl ?_
  refine W.alloc rfl rfl rfl rfl ?_
  refine AOps.nil ?_
  refine thn_normal ?_
  refine AWP.seq ?_
  refine AWP.seq ?_
  obtain ⟨a17, ha17, h⟩ := bind_some h
  obtain ⟨a19, ha19, h⟩ := bind_some h
  refine AWP.sub (s' := ⟨[(0, .agg [int t.facts, row 1 intI t.init, row 1 intI t.goal, row 4 eTOperator t.operators]), (1, .c (row 1 eLi64 plans)), (2, .c (.ptr 0 0 0)), (4, .c (.imm (.val (.slice none 0 0)))), (5, .c (.ptr 1 0 0))], [.one (.cells 4 [[int t.facts, row 1 intI t.init, row 1 intI t.goal, row 4 eTOperator t.operators]]), .one (.cells 2 [[int 0, int 0]]), .dead, .dead]⟩) (Sub.cut ⟨rfl, rfl, rfl, rfl, rfl, trivial⟩ rfl ⟨.one rfl, .one rfl, .dead, .dead, trivial⟩ rfl) ?_
  refine AWP.drawTI [.agg [int t.facts, row 1 intI t.init, row 1 intI t.goal, row 4 eTOperator t.operators], .c (row 1 eLi64 plans), .c (int (plans.length : Int)), .c (.own 2 0 a17.length), .c (row 1 eLi64 plans), .agg [int a19.code, int a19.index], .c (.ptr 3 0 0), .undef] [3, 6, 7] [([], [.one (.cells 4 [[int t.facts, row 1 intI t.init, row 1 intI t.goal, row 4 eTOperator t.operators]]), .one (.cells 2 [[int 0, int 0]]), .dead, .dead]), ([3], [.one (.cells 4 [[int t.facts, row 1 intI t.init, row 1 intI t.goal, row 4 eTOperator t.operators]]), .one (.cells 2 [[int 0, int 0]]), .one (vec 1 eLi64 a17), .dead]), ([6], [.one (.cells 4 [[int t.facts, row 1 intI t.init, row 1 intI t.goal, row 4 eTOperator t.operators]]), .one (.cells 2 [[int 0, int 0]]), .dead, .one (.cells 2 [[int 0, int 0]])]), ([3, 6], [.one (.cells 4 [[int t.facts, row 1 intI t.init, row 1 intI t.goal, row 4 eTOperator t.operators]]), .one (.cells 2 [[int 0, int 0]]), .one (vec 1 eLi64 a17), .one (.cells 2 [[int 0, int 0]])]), ([3, 6, 7], [.one (.cells 4 [[int t.facts, row 1 intI t.init, row 1 intI t.goal, row 4 eTOperator t.operators]]), .one (.cells 2 [[int 0, int 0]]), .one (vec 1 eLi64 a17), .one (.cells 2 [[int a19.code, int a19.index]])])] [.one (.cells 4 [[int t.facts, row 1 intI t.init, row 1 intI t.goal, row 4 eTOperator t.operators]]), .one (.cells 2 [[int 0, int 0]]), .one (vec 1 eLi64 a17), .one (.cells 2 [[int a19.code, int a19.index]])] mixed rfl rfl rfl rfl rfl ?_ ?_
  · refine TabOk.cons ?_ ?_
    · apply EntOps.go; exact rfl; exact rfl; exact rfl; intro E hE; (refine W.loadAgg rfl rfl rfl rfl rfl rfl rfl ?_); exact AOps.nil ⟨rfl, rfl⟩
      apply EntOps.go; exact rfl; exact rfl; exact rfl; intro E hE; (refine AOps.move rfl rfl ?_); exact AOps.nil ⟨rfl, rfl⟩
      apply EntOps.go; exact rfl; exact rfl; exact rfl; intro E hE; (refine S.len rfl rfl (fun hl16 => ?_)); exact AOps.nil ⟨rfl, rfl⟩
      apply EntOps.eff; exact rfl; exact rfl; exact rfl; exact rfl; intro E hE; (refine AOps.newAt 2 (.c (.own 2 0 a17.length)) (vec 1 eLi64 a17) (.inl rfl) rfl hE rfl rfl rfl rfl (.vec) (.vec) rfl rfl rfl ⟨.one rfl, .one rfl, .dead, .dead, trivial⟩ (fun hh => by (refine S.make (f := eLi64) ha17 (.row .nil) rfl rfl rfl rfl rfl rfl ?_; exact hh)) ?_); exact AOps.nil ⟨rfl, rfl⟩
      apply EntOps.go; exact rfl; exact rfl; exact rfl; intro E hE; (refine AOps.move rfl rfl ?_); exact AOps.nil ⟨rfl, rfl⟩
      refine EntOps.no rfl ?_
      apply EntOps.eff; exact rfl; exact rfl; exact rfl; exact rfl; intro E hE; (refine AOps.allocAt 3 hE rfl rfl rfl rfl rfl rfl rfl ⟨.one rfl, .one rfl, .dead, .dead, trivial⟩ rfl ?_); exact AOps.nil ⟨rfl, rfl⟩
      refine EntOps.no rfl ?_
      exact EntOps.nil
    refine TabOk.cons ?_ ?_
    · apply EntOps.go; exact rfl; exact rfl; exact rfl; intro E hE; (refine W.loadAgg rfl rfl rfl rfl rfl rfl rfl ?_); exact AOps.nil ⟨rfl, rfl⟩
      refine EntOps.no rfl ?_
      refine EntOps.no rfl ?_
      refine EntOps.no rfl ?_
      apply EntOps.go; exact rfl; exact rfl; exact rfl; intro E hE; (refine AOps.move rfl rfl ?_); exact AOps.nil ⟨rfl, rfl⟩
      apply EntOps.go; exact rfl; exact rfl; exact rfl; intro E hE; (refine AOps.callL rfl rfl (.cons (.agg (.cons .imm (.cons .imm (.cons .imm (.cons .imm .nil))))) (.cons (.c (.own rfl rfl)) (.cons (.c .imm) .nil))) rfl (merging_check_ok ha19) rfl ?_); exact AOps.nil ⟨rfl, rfl⟩
      apply EntOps.eff; exact rfl; exact rfl; exact rfl; exact rfl; intro E hE; (refine AOps.allocAt 3 hE rfl rfl rfl rfl rfl rfl rfl ⟨.one rfl, .one rfl, .vec, .dead, trivial⟩ rfl ?_); exact AOps.nil ⟨rfl, rfl⟩
      refine EntOps.no rfl ?_
      exact EntOps.nil
    refine TabOk.cons ?_ ?_
    · apply EntOps.go; exact rfl; exact rfl; exact rfl; intro E hE; (refine W.loadAgg rfl rfl rfl rfl rfl rfl rfl ?_); exact AOps.nil ⟨rfl, rfl⟩
      apply EntOps.go; exact rfl; exact rfl; exact rfl; intro E hE; (refine AOps.move rfl rfl ?_); exact AOps.nil ⟨rfl, rfl⟩
      apply EntOps.go; exact rfl; exact rfl; exact rfl; intro E hE; (refine S.len rfl rfl (fun hl16 => ?_)); exact AOps.nil ⟨rfl, rfl⟩
      apply EntOps.eff; exact rfl; exact rfl; exact rfl; exact rfl; intro E hE; (refine AOps.newAt 2 (.c (.own 2 0 a17.length)) (vec 1 eLi64 a17) (.inl rfl) rfl hE rfl rfl rfl rfl (.vec) (.vec) rfl rfl rfl ⟨.one rfl, .one rfl, .dead, .one rfl, trivial⟩ (fun hh => by (refine S.make (f := eLi64) ha17 (.row .nil) rfl rfl rfl rfl rfl rfl ?_; exact hh)) ?_); exact AOps.nil ⟨rfl, rfl⟩
      apply EntOps.go; exact rfl; exact rfl; exact rfl; intro E hE; (refine AOps.move rfl rfl ?_); exact AOps.nil ⟨rfl, rfl⟩
      refine EntOps.no rfl ?_
      refine EntOps.no rfl ?_
      refine EntOps.no rfl ?_
      exact EntOps.nil
    refine TabOk.cons ?_ ?_
    · apply EntOps.go; exact rfl; exact rfl; exact rfl; intro E hE; (refine W.loadAgg rfl rfl rfl rfl rfl rfl rfl ?_); exact AOps.nil ⟨rfl, rfl⟩
      refine EntOps.no rfl ?_
      refine EntOps.no rfl ?_
      refine EntOps.no rfl ?_
      apply EntOps.go; exact rfl; exact rfl; exact rfl; intro E hE; (refine AOps.move rfl rfl ?_); exact AOps.nil ⟨rfl, rfl⟩
      apply EntOps.go; exact rfl; exact rfl; exact rfl; intro E hE; (refine AOps.callL rfl rfl (.cons (.agg (.cons .imm (.cons .imm (.cons .imm (.cons .imm .nil))))) (.cons (.c (.own rfl rfl)) (.cons (.c .imm) .nil))) rfl (merging_check_ok ha19) rfl ?_); exact AOps.nil ⟨rfl, rfl⟩
      refine EntOps.no rfl ?_
      apply EntOps.eff; exact rfl; exact rfl; exact rfl; exact rfl; intro E hE; (refine W.storeAgg rfl rfl rfl rfl rfl rfl rfl ?_); exact AOps.nil ⟨rfl, rfl⟩
      exact EntOps.nil
    refine TabOk.cons ?_ ?_
    · refine EntOps.no rfl ?_
      refine EntOps.no rfl ?_
      refine EntOps.no rfl ?_
      refine EntOps.no rfl ?_
      refine EntOps.no rfl ?_
      refine EntOps.no rfl ?_
      refine EntOps.no rfl ?_
      refine EntOps.no rfl ?_
      exact EntOps.nil
    exact TabOk.nil
  dsimp only [envEnd]
  refine thn_normal ?_
  refine AWP.seq ?_
  refine AWP.region ?_
  refine W.loadAgg rfl rfl rfl rfl rfl rfl rfl ?_
  refine W.build rfl rfl rfl rfl ?_
  refine AOps.neqP rfl rfl rfl rfl rfl rfl rfl ?_
  refine AOps.nil ?_
  refine thn_normal ?_
  refine AWP.iteB rfl h (fun hc3 h => ?_) (fun hc3 h => ?_)
  · refine AWP.seq ?_
    refine AWP.drawEI [2] mixed rfl rfl rfl ?_
    apply DrawSeqE.consN; exact rfl; exact rfl; intro E
    refine W.loadAgg rfl rfl rfl rfl rfl rfl rfl ?_
    exact AOps.nil ⟨rfl, rfl⟩
    exact rfl
    apply DrawSeqE.consN; exact rfl; exact rfl; intro E
    refine AOps.assign rfl rfl ?_
    exact AOps.nil ⟨rfl, rfl⟩
    exact rfl
    apply DrawSeqE.consE (v := .undef); exact rfl; exact rfl; intro E
    refine W.storeAgg rfl rfl rfl rfl rfl rfl rfl ?_
    exact AOps.nil ⟨rfl, rfl⟩
    exact rfl
    exact rfl
    refine DrawSeqE.done rfl ?_ ?_
    · apply RestI.cons; exact rfl; exact rfl
      first | refine RestK.skip rfl ?_ | (apply RestK.go; exact rfl; exact rfl; intro E; (refine W.loadAgg rfl rfl rfl rfl rfl rfl rfl ?_); exact AOps.nil ⟨rfl, rfl⟩)
      first | refine RestK.skip rfl ?_ | (apply RestK.go; exact rfl; exact rfl; intro E; (refine W.loadAgg rfl rfl rfl rfl rfl rfl rfl ?_); exact AOps.nil ⟨rfl, rfl⟩)
      exact RestK.nil
      apply RestI.cons; exact rfl; exact rfl
      first | refine RestK.skip rfl ?_ | (apply RestK.go; exact rfl; exact rfl; intro E; (refine AOps.assign rfl rfl ?_); exact AOps.nil ⟨rfl, rfl⟩)
      first | refine RestK.skip rfl ?_ | (apply RestK.go; exact rfl; exact rfl; intro E; (refine AOps.assign rfl rfl ?_); exact AOps.nil ⟨rfl, rfl⟩)
      exact RestK.nil
      refine RestI.skip rfl ?_
      exact RestI.nil
    dsimp only [envEnd]
    refine thn_normal ?_
    refine AWP.nilrow 4 4 rfl ?_
    refine AWP.ret ?_
    refine thn_ret ?_
    have ej := Option.some.inj h
    subst ej
    exact Done.ret rfl rfl
  · refine AWP.skip ?_
    refine thn_normal ?_
    refine AWP.seq ?_
    refine AWP.region ?_
    refine AOps.assign rfl rfl ?_
    refine AOps.nil ?_
    refine thn_normal ?_
    refine AWP.seq ?_
    refine AWP.seq ?_
    refine AWP.region ?_
    refine AOps.move rfl rfl ?_
    refine S.len rfl rfl (fun hl25 => ?_)
    refine AOps.move rfl rfl ?_
    refine AOps.nil ?_
    refine thn_normal ?_
    refine AWP.block ?_
    refine AWP.virtV 4 eA4i64 7 rfl rfl rfl ?_
    obtain ⟨c4, ho1, h⟩ := bind_some h
    refine AWP.forS ho1 (fun t5 c4 => ⟨[(1, .c (row 1 eLi64 plans)), (2, .c (.ptr 0 0 0)), (5, .c (.ptr 1 0 0)), (7, .c (.own 4 0 c4.length)), (25, .c (int (plans.length : Int))), (26, .c (int t5))], [.one (.cells 4 [[int t.facts, row 1 intI t.init, row 1 intI t.goal, row 4 eTOperator t.operators]]), .one (.cells 2 [[int 0, int 0]]), .dead, .dead, .one (vec 4 eA4i64 c4)]⟩) (fun c4 e st => e = .exit 0 ∧ Sub [] st ⟨[(5, .c (.ptr 1 0 0)), (7, .c (.own 4 0 c4.length))], [.one (.cells 4 [[int t.facts, row 1 intI t.init, row 1 intI t.goal, row 4 eTOperator t.operators]]), .one (.cells 2 [[int 0, int 0]]), .dead, .dead, .one (vec 4 eA4i64 c4)]⟩) ?_ ?_ ?_ ?_
    · try dsimp only
      exact Sub.cut ⟨rfl, rfl, rfl, (own_len (by first | rfl | simp only [List.length_set])), rfl, rfl, trivial⟩ rfl ⟨.one rfl, .one rfl, .dead, .dead, .vec, trivial⟩ rfl
    · intro t5 c4 hlot5 hltt5 _
      try dsimp only
      refine AWP.seq ?_
      refine AWP.region ?_
      refine AOps.lss rfl rfl rfl ?_
      refine AOps.nil ?_
      refine thn_normal ?_
      refine AWP.seq ?_
      refine AWP.condNP rfl hltt5 ?_
      refine AWP.exit ?_
      refine thn_exit ?_
      refine thn_exit ⟨rfl, ?_⟩
      exact Sub.env ⟨rfl, rfl, trivial⟩
    · intro t5 c4 o hlot5 hltt5 h
      unfold merging_Conflicts_l1 at h
      try dsimp only at h ⊢
      refine AWP.seq ?_
      refine AWP.region ?_
      refine AOps.lss rfl rfl rfl ?_
      refine AOps.nil ?_
      refine thn_normal ?_
      refine AWP.seq ?_
      refine AWP.condP rfl hltt5 ?_
      refine AWP.skip ?_
      refine thn_normal ?_
      refine AWP.seq ?_
      refine AWP.block ?_
      refine AWP.seq ?_
      refine AWP.region ?_
      refine AOps.move rfl rfl ?_
      refine AOps.assign rfl rfl ?_
      refine AOps.nil ?_
      refine thn_normal ?_
      refine AWP.seq ?_
      refine AWP.region ?_
      refine AOps.move rfl rfl ?_
      refine AOps.add rfl rfl rfl (by omega) ?_
      refine AOps.assign rfl rfl ?_
      refine AOps.nil ?_
      refine thn_normal ?_
      refine AWP.block ?_
      obtain ⟨c6, ho2, h⟩ := bind_some h
      refine AWP.forS ho2 (fun bv7 c6 => ⟨[(1, .c (row 1 eLi64 plans)), (2, .c (.ptr 0 0 0)), (5, .c (.ptr 1 0 0)), (7, .c (.own 4 0 c6.length)), (8, .c (int t5)), (9, .c (int bv7)), (25, .c (int (plans.length : Int))), (26, .c (int t5))], [.one (.cells 4 [[int t.facts, row 1 intI t.init, row 1 intI t.goal, row 4 eTOperator t.operators]]), .one (.cells 2 [[int 0, int 0]]), .dead, .dead, .one (vec 4 eA4i64 c6)]⟩) (fun c6 e st => e = .exit 2 ∧ Sub [] st ⟨[(1, .c (row 1 eLi64 plans)), (2, .c (.ptr 0 0 0)), (5, .c (.ptr 1 0 0)), (7, .c (.own 4 0 c6.length)), (25, .c (int (plans.length : Int))), (26, .c (int t5))], [.one (.cells 4 [[int t.facts, row 1 intI t.init, row 1 intI t.goal, row 4 eTOperator t.operators]]), .one (.cells 2 [[int 0, int 0]]), .dead, .dead, .one (vec 4 eA4i64 c6)]⟩) ?_ ?_ ?_ ?_
      · try dsimp only
        exact Sub.env ⟨rfl, rfl, rfl, rfl, rfl, rfl, rfl, rfl, trivial⟩
      · intro bv7 c6 hlobv7 hltbv7 _
        try dsimp only
        refine AWP.seq ?_
        refine AWP.seq ?_
        refine AWP.region ?_
        refine AOps.move rfl rfl ?_
        refine AOps.move rfl rfl ?_
        refine S.len rfl rfl (fun hl33 => ?_)
        refine AOps.lss rfl rfl rfl ?_
        refine AOps.nil ?_
        refine thn_normal ?_
        refine AWP.condNP rfl hltbv7 ?_
        refine AWP.exit ?_
        refine thn_exit ?_
        refine thn_exit ⟨rfl, ?_⟩
        exact Sub.env ⟨rfl, rfl, rfl, rfl, rfl, rfl, trivial⟩
      · intro bv7 c6 o hlobv7 hltbv7 h
        unfold merging_Conflicts_l2 at h
        try dsimp only at h ⊢
        refine AWP.seq ?_
        refine AWP.seq ?_
        refine AWP.region ?_
        refine AOps.move rfl rfl ?_
        refine AOps.move rfl rfl ?_
        refine S.len rfl rfl (fun hl33 => ?_)
        refine AOps.lss rfl rfl rfl ?_
        refine AOps.nil ?_
        refine thn_normal ?_
        refine AWP.condP rfl hltbv7 ?_
        refine AWP.skip ?_
        refine thn_normal ?_
        refine AWP.seq ?_
        refine AWP.block ?_
        refine AWP.seq ?_
        obtain ⟨a39, ha39, h⟩ := bind_some h
        refine AWP.region ?_
        refine AOps.move rfl rfl ?_
        refine AOps.move rfl rfl ?_
        refine S.idx ha39 rfl rfl rfl rfl ?_
        refine AOps.loadI rfl rfl rfl rfl ?_
        refine S.len rfl rfl (fun hl41 => ?_)
        refine AOps.move rfl rfl ?_
        refine AOps.nil ?_
        refine thn_normal ?_
        refine AWP.block ?_
        obtain ⟨c8, ho3, h⟩ := bind_some h
        refine AWP.forS ho3 (fun t9 c8 => ⟨[(1, .c (row 1 eLi64 plans)), (2, .c (.ptr 0 0 0)), (5, .c (.ptr 1 0 0)), (7, .c (.own 4 0 c8.length)), (8, .c (int t5)), (9, .c (int bv7)), (25, .c (int (plans.length : Int))), (26, .c (int t5)), (40, .c (row 1 intI a39)), (41, .c (int (a39.length : Int))), (42, .c (int t9))], [.one (.cells 4 [[int t.facts, row 1 intI t.init, row 1 intI t.goal, row 4 eTOperator t.operators]]), .one (.cells 2 [[int 0, int 0]]), .dead, .dead, .one (vec 4 eA4i64 c8)]⟩) (fun c8 e st => e = .exit 4 ∧ Sub [] st ⟨[(1, .c (row 1 eLi64 plans)), (2, .c (.ptr 0 0 0)), (5, .c (.ptr 1 0 0)), (7, .c (.own 4 0 c8.length)), (8, .c (int t5)), (9, .c (int bv7)), (25, .c (int (plans.length : Int))), (26, .c (int t5))], [.one (.cells 4 [[int t.facts, row 1 intI t.init, row 1 intI t.goal, row 4 eTOperator t.operators]]), .one (.cells 2 [[int 0, int 0]]), .dead, .dead, .one (vec 4 eA4i64 c8)]⟩) ?_ ?_ ?_ ?_
        · try dsimp only
          exact Sub.env ⟨rfl, rfl, rfl, rfl, rfl, rfl, rfl, rfl, rfl, rfl, rfl, trivial⟩
        · intro t9 c8 hlot9 hltt9 _
          try dsimp only
          refine AWP.seq ?_
          refine AWP.region ?_
          refine AOps.lss rfl rfl rfl ?_
          refine AOps.nil ?_
          refine thn_normal ?_
          refine AWP.seq ?_
          refine AWP.condNP rfl hltt9 ?_
          refine AWP.exit ?_
          refine thn_exit ?_
          refine thn_exit ⟨rfl, ?_⟩
          exact Sub.env ⟨rfl, rfl, rfl, rfl, rfl, rfl, rfl, rfl, trivial⟩
        · intro t9 c8 o hlot9 hltt9 h
          unfold merging_Conflicts_l3 at h
          try dsimp only at h ⊢
          refine AWP.seq ?_
          refine AWP.region ?_
          refine AOps.lss rfl rfl rfl ?_
          refine AOps.nil ?_
          refine thn_normal ?_
          refine AWP.seq ?_
          refine AWP.condP rfl hltt9 ?_
          refine AWP.skip ?_
          refine thn_normal ?_
          refine AWP.seq ?_
          refine AWP.block ?_
          refine AWP.seq ?_
          obtain ⟨a45, ha45, h⟩ := bind_some h
          refine AWP.region ?_
          refine AOps.move rfl rfl ?_
          refine S.idx ha45 rfl rfl rfl rfl ?_
          refine AOps.loadI rfl rfl rfl rfl ?_
          refine AOps.assign rfl rfl ?_
          refine AOps.assign rfl rfl ?_
          refine AOps.nil ?_
          refine thn_normal ?_
          refine AWP.seq ?_
          obtain ⟨a49, ha49, h⟩ := bind_some h
          refine AWP.region ?_
          refine AOps.move rfl rfl ?_
          refine AOps.move rfl rfl ?_
          refine S.idx ha49 rfl rfl rfl rfl ?_
          refine AOps.loadI rfl rfl rfl rfl ?_
          refine S.len rfl rfl (fun hl51 => ?_)
          refine AOps.move rfl rfl ?_
          refine AOps.nil ?_
          refine thn_normal ?_
          refine AWP.block ?_
          obtain ⟨c10, ho4, h⟩ := bind_some h
          refine AWP.forS ho4 (fun t11 c10 => ⟨[(1, .c (row 1 eLi64 plans)), (2, .c (.ptr 0 0 0)), (5, .c (.ptr 1 0 0)), (7, .c (.own 4 0 c10.length)), (8, .c (int t5)), (9, .c (int bv7)), (10, .c (int t9)), (11, .c (int a45)), (25, .c (int (plans.length : Int))), (26, .c (int t5)), (40, .c (row 1 intI a39)), (41, .c (int (a39.length : Int))), (42, .c (int t9)), (50, .c (row 1 intI a49)), (51, .c (int (a49.length : Int))), (52, .c (int t11))], [.one (.cells 4 [[int t.facts, row 1 intI t.init, row 1 intI t.goal, row 4 eTOperator t.operators]]), .one (.cells 2 [[int 0, int 0]]), .dead, .dead, .one (vec 4 eA4i64 c10)]⟩) (fun c10 e st => e = .exit 6 ∧ Sub [] st ⟨[(1, .c (row 1 eLi64 plans)), (2, .c (.ptr 0 0 0)), (5, .c (.ptr 1 0 0)), (7, .c (.own 4 0 c10.length)), (8, .c (int t5)), (9, .c (int bv7)), (25, .c (int (plans.length : Int))), (26, .c (int t5)), (40, .c (row 1 intI a39)), (41, .c (int (a39.length : Int))), (42, .c (int t9))], [.one (.cells 4 [[int t.facts, row 1 intI t.init, row 1 intI t.goal, row 4 eTOperator t.operators]]), .one (.cells 2 [[int 0, int 0]]), .dead, .dead, .one (vec 4 eA4i64 c10)]⟩) ?_ ?_ ?_ ?_
          · try dsimp only
            exact Sub.env ⟨rfl, rfl, rfl, rfl, rfl, rfl, rfl, rfl, rfl, rfl, rfl, rfl, rfl, rfl, rfl, rfl, trivial⟩
          · intro t11 c10 hlot11 hltt11 _
            try dsimp only
            refine AWP.seq ?_
            refine AWP.region ?_
            refine AOps.lss rfl rfl rfl ?_
            refine AOps.nil ?_
            refine thn_normal ?_
            refine AWP.seq ?_
            refine AWP.condNP rfl hltt11 ?_
            refine AWP.exit ?_
            refine thn_exit ?_
            refine thn_exit ⟨rfl, ?_⟩
            exact Sub.env ⟨rfl, rfl, rfl, rfl, rfl, rfl, rfl, rfl, rfl, rfl, rfl, trivial⟩
          · intro t11 c10 o hlot11 hltt11 h
            unfold merging_Conflicts_l4 at h
            try dsimp only at h ⊢
            refine AWP.seq ?_
            refine AWP.region ?_
            refine AOps.lss rfl rfl rfl ?_
            refine AOps.nil ?_
            refine thn_normal ?_
            refine AWP.seq ?_
            refine AWP.condP rfl hltt11 ?_
            refine AWP.skip ?_
            refine thn_normal ?_
            obtain ⟨c12, hx13, h⟩ := bind_some h
            refine AWP.seqJ (⟨[(1, .c (row 1 eLi64 plans)), (2, .c (.ptr 0 0 0)), (5, .c (.ptr 1 0 0)), (7, .c (.own 6 0 c12.length)), (8, .c (int t5)), (9, .c (int bv7)), (10, .c (int t9)), (11, .c (int a45)), (25, .c (int (plans.length : Int))), (26, .c (int t5)), (40, .c (row 1 intI a39)), (41, .c (int (a39.length : Int))), (42, .c (int t9)), (50, .c (row 1 intI a49)), (51, .c (int (a49.length : Int))), (52, .c (int t11))], [.one (.cells 4 [[int t.facts, row 1 intI t.init, row 1 intI t.goal, row 4 eTOperator t.operators]]), .one (.cells 2 [[int 0, int 0]]), .dead, .dead, .dead, .dead, .one (vec 4 eA4i64 c12)]⟩) ?_ ?_
            · refine AWP.block ?_
              refine AWP.seq ?_
              obtain ⟨a55, ha55, hx13⟩ := bind_some hx13
              refine AWP.region ?_
              refine AOps.move rfl rfl ?_
              refine S.idx ha55 rfl rfl rfl rfl ?_
              refine AOps.loadI rfl rfl rfl rfl ?_
              refine AOps.assign rfl rfl ?_
              refine AOps.assign rfl rfl ?_
              refine AOps.nil ?_
              refine thn_normal ?_
              refine AWP.seq ?_
              obtain ⟨a60, ha60, hx13⟩ := bind_some hx13
              refine AWP.region ?_
              refine W.loadAgg rfl rfl rfl rfl rfl rfl rfl ?_
              refine AOps.move rfl rfl ?_
              refine AOps.move rfl rfl ?_
              refine AOps.callR rfl rfl rfl rfl (partialorder_Interfere_ok ha60) rfl ?_
              refine AOps.nil ?_
              refine thn_normal ?_
              refine AWP.iteB rfl hx13 (fun hc14 hx13 => ?_) (fun hc14 hx13 => ?_)
              · obtain ⟨a68, ha68, hx13⟩ := bind_some hx13
                refine AWP.region ?_
                refine AOps.move rfl rfl ?_
                refine AOps.move rfl rfl ?_
                refine AOps.move rfl rfl ?_
                refine AOps.move rfl rfl ?_
                refine AOps.move rfl rfl ?_
                refine AOps.buildA rfl rfl rfl rfl ?_
                refine S.lit (f := eA4i64) (l := [(t5, t9, bv7, t11)]) (ess := [[int t5, int t9, int bv7, int t11]]) rfl rfl rfl rfl rfl rfl rfl ⟨⟨.inl rfl, .inl rfl, .inl rfl, .inl rfl, trivial⟩, trivial⟩ rfl rfl rfl ?_
                refine S.append (f := eA4i64) ha68 rfl rfl rfl rfl rfl rfl (.own rfl rfl) rfl rfl rfl rfl ?_
                refine AOps.assign rfl rfl ?_
                refine AOps.nil ?_
                refine inB_normal ?_
                have ej := Option.some.inj hx13
                subst ej
                refine thn_normal ?_
                exact Sub.cut ⟨rfl, rfl, rfl, rfl, rfl, rfl, rfl, rfl, rfl, rfl, rfl, rfl, rfl, rfl, rfl, rfl, trivial⟩ rfl ⟨.one rfl, .one rfl, .dead, .dead, .dead, .dead, .vec, trivial⟩ rfl
              · refine AWP.skip ?_
                refine inB_normal ?_
                have ej := Option.some.inj hx13
                subst ej
                refine thn_normal ?_
                exact (Sub.move (env' := [(1, .c (row 1 eLi64 plans)), (2, .c (.ptr 0 0 0)), (5, .c (.ptr 1 0 0)), (7, .c (.own 6 0 c10.length)), (8, .c (int t5)), (9, .c (int bv7)), (10, .c (int t9)), (11, .c (int a45)), (25, .c (int (plans.length : Int))), (26, .c (int t5)), (40, .c (row 1 intI a39)), (41, .c (int (a39.length : Int))), (42, .c (int t9)), (50, .c (row 1 intI a49)), (51, .c (int (a49.length : Int))), (52, .c (int t11))]) (σ' := [.one (.cells 4 [[int t.facts, row 1 intI t.init, row 1 intI t.goal, row 4 eTOperator t.operators]]), .one (.cells 2 [[int 0, int 0]]), .dead, .dead, .dead, .dead, .one (vec 4 eA4i64 c10)]) 6 4 rfl rfl rfl ⟨rfl, rfl, rfl, rfl, rfl, rfl, rfl, rfl, rfl, rfl, rfl, rfl, rfl, rfl, rfl, rfl, trivial⟩ rfl ⟨⟨rfl, rfl⟩, ⟨rfl, rfl⟩, trivial, trivial, trivial, trivial, ⟨Blk.im_ok _ _ _, vec_mv rfl⟩, trivial⟩).trans (Sub.env ⟨rfl, rfl, rfl, rfl, rfl, rfl, rfl, rfl, rfl, rfl, rfl, rfl, rfl, rfl, rfl, rfl, trivial⟩)
            · refine AWP.region ?_
              refine AOps.add rfl rfl rfl (by omega) ?_
              refine AOps.move rfl rfl ?_
              refine AOps.nil ?_
              have ej := Option.some.inj h
              subst ej
              refine thn_normal ?_
              exact (Sub.move (env' := [(1, .c (row 1 eLi64 plans)), (2, .c (.ptr 0 0 0)), (5, .c (.ptr 1 0 0)), (7, .c (.own 4 0 c12.length)), (8, .c (int t5)), (9, .c (int bv7)), (10, .c (int t9)), (11, .c (int a45)), (25, .c (int (plans.length : Int))), (26, .c (int t5)), (40, .c (row 1 intI a39)), (41, .c (int (a39.length : Int))), (42, .c (int t9)), (50, .c (row 1 intI a49)), (51, .c (int (a49.length : Int))), (52, .c (int (t11 + 1)))]) (σ' := [.one (.cells 4 [[int t.facts, row 1 intI t.init, row 1 intI t.goal, row 4 eTOperator t.operators]]), .one (.cells 2 [[int 0, int 0]]), .dead, .dead, .one (vec 4 eA4i64 c12), .dead]) 4 6 rfl rfl rfl ⟨rfl, rfl, rfl, rfl, rfl, rfl, rfl, rfl, rfl, rfl, rfl, rfl, rfl, rfl, rfl, rfl, trivial⟩ rfl ⟨⟨rfl, rfl⟩, ⟨rfl, rfl⟩, trivial, trivial, ⟨Blk.im_ok _ _ _, vec_mv rfl⟩, trivial, trivial⟩).trans (Sub.cut ⟨rfl, rfl, rfl, rfl, rfl, rfl, rfl, rfl, rfl, rfl, rfl, rfl, rfl, rfl, rfl, rfl, trivial⟩ rfl ⟨.one rfl, .one rfl, .dead, .dead, .vec, trivial⟩ rfl)
          · intro e s hq
            obtain ⟨rfl, hs⟩ := hq
            refine ⟨_, hs, ?_⟩
            refine inB_exit ?_
            refine inB_normal ?_
            refine thn_normal ?_
            refine AWP.region ?_
            refine AOps.add rfl rfl rfl (by omega) ?_
            refine AOps.move rfl rfl ?_
            refine AOps.nil ?_
            have ej := Option.some.inj h
            subst ej
            refine thn_normal ?_
            exact Sub.env ⟨rfl, rfl, rfl, rfl, rfl, rfl, rfl, rfl, rfl, rfl, rfl, trivial⟩
        · intro e s hq
          obtain ⟨rfl, hs⟩ := hq
          refine ⟨_, hs, ?_⟩
          refine inB_exit ?_
          refine inB_normal ?_
          refine thn_normal ?_
          refine AWP.region ?_
          refine AOps.move rfl rfl ?_
          refine AOps.add rfl rfl rfl (by omega) ?_
          refine AOps.assign rfl rfl ?_
          refine AOps.nil ?_
          have ej := Option.some.inj h
          subst ej
          refine thn_normal ?_
          exact Sub.env ⟨rfl, rfl, rfl, rfl, rfl, rfl, rfl, rfl, trivial⟩
      · intro e s hq
        obtain ⟨rfl, hs⟩ := hq
        refine ⟨_, hs, ?_⟩
        refine inB_exit ?_
        refine inB_normal ?_
        refine thn_normal ?_
        refine AWP.region ?_
        refine AOps.add rfl rfl rfl (by omega) ?_
        refine AOps.move rfl rfl ?_
        refine AOps.nil ?_
        have ej := Option.some.inj h
        subst ej
        refine thn_normal ?_
        exact Sub.env ⟨rfl, rfl, rfl, rfl, rfl, rfl, trivial⟩
    · intro e s hq
      obtain ⟨rfl, hs⟩ := hq
      refine ⟨_, hs, ?_⟩
      refine inB_exit ?_
      refine thn_normal ?_
      refine AWP.seq ?_
      refine AWP.region ?_
      refine AOps.move rfl rfl ?_
      refine W.build rfl rfl rfl rfl ?_
      refine AOps.assign rfl rfl ?_
      refine W.storeAgg rfl rfl rfl rfl rfl rfl rfl ?_
      refine AOps.nil ?_
      refine thn_normal ?_
      refine AWP.frzV (id := 4) (l := c4) (env2 := [(4, .c (row 4 eA4i64 c4)), (5, .c (.ptr 1 0 0))]) (σ2 := [.one (.cells 4 [[int t.facts, row 1 intI t.init, row 1 intI t.goal, row 4 eTOperator t.operators]]), .one (.cells 2 [[int 0, int 0]]), .dead, .dead, .dead]) rfl rfl (by exact ⟨⟨_, rfl, .inr ⟨_, rfl, rfl, rfl⟩⟩, ⟨_, rfl, .inl ⟨rfl, rfl⟩⟩, trivial⟩) rfl (by exact ⟨⟨rfl, .inl ⟨rfl, rfl⟩, .inl ⟨rfl, rfl⟩, .inl ⟨rfl, rfl⟩, .inl ⟨rfl, rfl⟩, trivial⟩, ⟨rfl, .inl ⟨rfl, rfl⟩, .inl ⟨rfl, rfl⟩, trivial⟩, trivial, trivial, trivial, trivial⟩) ?_
      refine AWP.ret ?_
      have ej := Option.some.inj h
      subst ej
      exact Done.ret rfl rfl
theorem ref7_Interfering_ok {t : TTask} {av : Int} {bv : Int} {r : Bool} (h : ref7_Interfering t av bv = some r) : PureOk Tryd.prog 34 [.agg [int t.facts, row 1 intI t.init, row 1 intI t.goal, row 4 eTOperator t.operators], .c (int av), .c (int bv)] (.c (bool r)) := by
  unfold PureOk
  refine FnOk.enter (rs := [.t 6]) Tryd.func34 rfl Tryd.ntmps34 Tryd.results34 rfl ⟨trivial, trivial⟩ (by kernel_rfl) rfl ?_
  unfold ref7_Interfering at h
  refine AWP.seq ?_
  refine AWP.region ?_
  refine W.box rfl rfl rfl rfl rfl rfl ?_
  refine AOps.assign rfl rfl ?_
  refine AOps.nil ?_
  refine thn_normal ?_
  refine AWP.seq ?_
  obtain ⟨a12, ha12, h⟩ := bind_some h
  refine AWP.region ?_
  refine W.fieldAddr rfl rfl rfl rfl ?_
  refine AOps.load rfl rfl rfl rfl rfl rfl ?_
  refine AOps.move rfl rfl ?_
  refine S.idx ha12 rfl rfl rfl rfl ?_
  refine W.loadIAgg rfl rfl rfl rfl rfl ?_
  refine W.alloc rfl rfl rfl rfl ?_
  refine W.storeAgg rfl rfl rfl rfl rfl rfl rfl ?_
  refine AOps.nil ?_
  refine thn_normal ?_
  refine AWP.seq ?_
  obtain ⟨a17, ha17, h⟩ := bind_some h
  refine AWP.region ?_
  refine W.fieldAddr rfl rfl rfl rfl ?_
  refine AOps.load rfl rfl rfl rfl rfl rfl ?_
  refine AOps.move rfl rfl ?_
  refine S.idx ha17 rfl rfl rfl rfl ?_
  refine W.loadIAgg rfl rfl rfl rfl rfl ?_
  refine W.alloc rfl rfl rfl rfl ?_
  refine W.storeAgg rfl rfl rfl rfl rfl rfl rfl ?_
  refine AOps.nil ?_
  refine thn_normal ?_
  obtain ⟨t4, hx5, h⟩ := bind_some h
  refine AWP.seqJ (⟨[(6, .c (bool t4))], []⟩) ?_ ?_
  · obtain ⟨a23, ha23, hx5⟩ := bind_some hx5
    rcases Bool.eq_false_or_eq_true (!a23) with hb6 | hb6
    · replace hx5 := iteBT hb6 hx5
      refine AWP.region ?_
      refine W.fieldAddr rfl rfl rfl rfl ?_
      refine AOps.load rfl rfl rfl rfl rfl rfl ?_
      refine W.fieldAddr rfl rfl rfl rfl ?_
      refine AOps.load rfl rfl rfl rfl rfl rfl ?_
      refine AOps.callR rfl rfl rfl rfl (ref1_Disjoint_ok ha23) rfl ?_
      refine AOps.not rfl rfl ?_
      refine AOps.move rfl rfl ?_
      refine AOps.guardF rfl rfl rfl hb6 ?_
      refine AOps.guardF rfl rfl rfl hb6 ?_
      refine AOps.guardF rfl rfl rfl hb6 ?_
      refine AOps.guardF rfl rfl rfl hb6 ?_
      refine AOps.guardF rfl rfl rfl hb6 ?_
      refine AOps.guardF rfl rfl rfl hb6 ?_
      refine AOps.pickT rfl hb6 rfl rfl ?_
      refine AOps.move rfl rfl ?_
      refine AOps.guardF rfl rfl rfl rfl ?_
      refine AOps.guardF rfl rfl rfl rfl ?_
      refine AOps.guardF rfl rfl rfl rfl ?_
      refine AOps.guardF rfl rfl rfl rfl ?_
      refine AOps.guardF rfl rfl rfl rfl ?_
      refine AOps.guardF rfl rfl rfl rfl ?_
      refine AOps.pickT rfl rfl rfl rfl ?_
      refine AOps.move rfl rfl ?_
      refine AOps.guardF rfl rfl rfl rfl ?_
      refine AOps.guardF rfl rfl rfl rfl ?_
      refine AOps.guardF rfl rfl rfl rfl ?_
      refine AOps.guardF rfl rfl rfl rfl ?_
      refine AOps.guardF rfl rfl rfl rfl ?_
      refine AOps.guardF rfl rfl rfl rfl ?_
      refine AOps.pickT rfl rfl rfl rfl ?_
      refine AOps.move rfl rfl ?_
      refine AOps.guardF rfl rfl rfl rfl ?_
      refine AOps.guardF rfl rfl rfl rfl ?_
      refine AOps.guardF rfl rfl rfl rfl ?_
      refine AOps.guardF rfl rfl rfl rfl ?_
      refine AOps.guardF rfl rfl rfl rfl ?_
      refine AOps.guardF rfl rfl rfl rfl ?_
      refine AOps.pickT rfl rfl rfl rfl ?_
      refine AOps.move rfl rfl ?_
      refine AOps.guardF rfl rfl rfl rfl ?_
      refine AOps.guardF rfl rfl rfl rfl ?_
      refine AOps.guardF rfl rfl rfl rfl ?_
      refine AOps.guardF rfl rfl rfl rfl ?_
      refine AOps.guardF rfl rfl rfl rfl ?_
      refine AOps.guardF rfl rfl rfl rfl ?_
      refine AOps.pickT rfl rfl rfl rfl ?_
      refine AOps.assign rfl rfl ?_
      refine AOps.nil ?_
      have ej := Option.some.inj hx5
      subst ej
      refine thn_normal ?_
      exact Sub.cut ⟨rfl, trivial⟩ rfl trivial rfl
    · replace hx5 := iteBF hb6 hx5
      obtain ⟨a30, ha30, hx5⟩ := bind_some hx5
      rcases Bool.eq_false_or_eq_true (!a30) with hb7 | hb7
      · replace hx5 := iteBT hb7 hx5
        refine AWP.region ?_
        refine W.fieldAddr rfl rfl rfl rfl ?_
        refine AOps.load rfl rfl rfl rfl rfl rfl ?_
        refine W.fieldAddr rfl rfl rfl rfl ?_
        refine AOps.load rfl rfl rfl rfl rfl rfl ?_
        refine AOps.callR rfl rfl rfl rfl (ref1_Disjoint_ok ha23) rfl ?_
        refine AOps.not rfl rfl ?_
        refine AOps.move rfl rfl ?_
        refine AOps.guardT rfl rfl rfl hb6 ?_; refine W.fieldAddr rfl rfl rfl rfl ?_
        refine AOps.guardT rfl rfl rfl hb6 ?_; refine AOps.load rfl rfl rfl rfl rfl rfl ?_
        refine AOps.guardT rfl rfl rfl hb6 ?_; refine W.fieldAddr rfl rfl rfl rfl ?_
        refine AOps.guardT rfl rfl rfl hb6 ?_; refine AOps.load rfl rfl rfl rfl rfl rfl ?_
        refine AOps.guardT rfl rfl rfl hb6 ?_; refine AOps.callR rfl rfl rfl rfl (ref1_Disjoint_ok ha30) rfl ?_
        refine AOps.guardT rfl rfl rfl hb6 ?_; refine AOps.not rfl rfl ?_
        refine AOps.pickF rfl hb6 rfl rfl ?_
        refine AOps.move rfl rfl ?_
        refine AOps.guardF rfl rfl rfl hb7 ?_
        refine AOps.guardF rfl rfl rfl hb7 ?_
        refine AOps.guardF rfl rfl rfl hb7 ?_
        refine AOps.guardF rfl rfl rfl hb7 ?_
        refine AOps.guardF rfl rfl rfl hb7 ?_
        refine AOps.guardF rfl rfl rfl hb7 ?_
        refine AOps.pickT rfl hb7 rfl rfl ?_
        refine AOps.move rfl rfl ?_
        refine AOps.guardF rfl rfl rfl rfl ?_
        refine AOps.guardF rfl rfl rfl rfl ?_
        refine AOps.guardF rfl rfl rfl rfl ?_
        refine AOps.guardF rfl rfl rfl rfl ?_
        refine AOps.guardF rfl rfl rfl rfl ?_
        refine AOps.guardF rfl rfl rfl rfl ?_
        refine AOps.pickT rfl rfl rfl rfl ?_
        refine AOps.move rfl rfl ?_
        refine AOps.guardF rfl rfl rfl rfl ?_
        refine AOps.guardF rfl rfl rfl rfl ?_
        refine AOps.guardF rfl rfl rfl rfl ?_
        refine AOps.guardF rfl rfl rfl rfl ?_
        refine AOps.guardF rfl rfl rfl rfl ?_
        refine AOps.guardF rfl rfl rfl rfl ?_
        refine AOps.pickT rfl rfl rfl rfl ?_
        refine AOps.move rfl rfl ?_
        refine AOps.guardF rfl rfl rfl rfl ?_
        refine AOps.guardF rfl rfl rfl rfl ?_
        refine AOps.guardF rfl rfl rfl rfl ?_
        refine AOps.guardF rfl rfl rfl rfl ?_
        refine AOps.guardF rfl rfl rfl rfl ?_
        refine AOps.guardF rfl rfl rfl rfl ?_
        refine AOps.pickT rfl rfl rfl rfl ?_
        refine AOps.assign rfl rfl ?_
        refine AOps.nil ?_
        have ej := Option.some.inj hx5
        subst ej
        refine thn_normal ?_
        exact Sub.cut ⟨rfl, trivial⟩ rfl trivial rfl
      · replace hx5 := iteBF hb7 hx5
        obtain ⟨a38, ha38, hx5⟩ := bind_some hx5
        rcases Bool.eq_false_or_eq_true (!a38) with hb8 | hb8
        · replace hx5 := iteBT hb8 hx5
          refine AWP.region ?_
          refine W.fieldAddr rfl rfl rfl rfl ?_
          refine AOps.load rfl rfl rfl rfl rfl rfl ?_
          refine W.fieldAddr rfl rfl rfl rfl ?_
          refine AOps.load rfl rfl rfl rfl rfl rfl ?_
          refine AOps.callR rfl rfl rfl rfl (ref1_Disjoint_ok ha23) rfl ?_
          refine AOps.not rfl rfl ?_
          refine AOps.move rfl rfl ?_
          refine AOps.guardT rfl rfl rfl hb6 ?_; refine W.fieldAddr rfl rfl rfl rfl ?_
          refine AOps.guardT rfl rfl rfl hb6 ?_; refine AOps.load rfl rfl rfl rfl rfl rfl ?_
          refine AOps.guardT rfl rfl rfl hb6 ?_; refine W.fieldAddr rfl rfl rfl rfl ?_
          refine AOps.guardT rfl rfl rfl hb6 ?_; refine AOps.load rfl rfl rfl rfl rfl rfl ?_
          refine AOps.guardT rfl rfl rfl hb6 ?_; refine AOps.callR rfl rfl rfl rfl (ref1_Disjoint_ok ha30) rfl ?_
          refine AOps.guardT rfl rfl rfl hb6 ?_; refine AOps.not rfl rfl ?_
          refine AOps.pickF rfl hb6 rfl rfl ?_
          refine AOps.move rfl rfl ?_
          refine AOps.guardT rfl rfl rfl hb7 ?_; refine W.fieldAddr rfl rfl rfl rfl ?_
          refine AOps.guardT rfl rfl rfl hb7 ?_; refine AOps.load rfl rfl rfl rfl rfl rfl ?_
          refine AOps.guardT rfl rfl rfl hb7 ?_; refine W.fieldAddr rfl rfl rfl rfl ?_
          refine AOps.guardT rfl rfl rfl hb7 ?_; refine AOps.load rfl rfl rfl rfl rfl rfl ?_
          refine AOps.guardT rfl rfl rfl hb7 ?_; refine AOps.callR rfl rfl rfl rfl (ref1_Disjoint_ok ha38) rfl ?_
          refine AOps.guardT rfl rfl rfl hb7 ?_; refine AOps.not rfl rfl ?_
          refine AOps.pickF rfl hb7 rfl rfl ?_
          refine AOps.move rfl rfl ?_
          refine AOps.guardF rfl rfl rfl hb8 ?_
          refine AOps.guardF rfl rfl rfl hb8 ?_
          refine AOps.guardF rfl rfl rfl hb8 ?_
          refine AOps.guardF rfl rfl rfl hb8 ?_
          refine AOps.guardF rfl rfl rfl hb8 ?_
          refine AOps.guardF rfl rfl rfl hb8 ?_
          refine AOps.pickT rfl hb8 rfl rfl ?_
          refine AOps.move rfl rfl ?_
          refine AOps.guardF rfl rfl rfl rfl ?_
          refine AOps.guardF rfl rfl rfl rfl ?_
          refine AOps.guardF rfl rfl rfl rfl ?_
          refine AOps.guardF rfl rfl rfl rfl ?_
          refine AOps.guardF rfl rfl rfl rfl ?_
          refine AOps.guardF rfl rfl rfl rfl ?_
          refine AOps.pickT rfl rfl rfl rfl ?_
          refine AOps.move rfl rfl ?_
          refine AOps.guardF rfl rfl rfl rfl ?_
          refine AOps.guardF rfl rfl rfl rfl ?_
          refine AOps.guardF rfl rfl rfl rfl ?_
          refine AOps.guardF rfl rfl rfl rfl ?_
          refine AOps.guardF rfl rfl rfl rfl ?_
          refine AOps.guardF rfl rfl rfl rfl ?_
          refine AOps.pickT rfl rfl rfl rfl ?_
          refine AOps.assign rfl rfl ?_
          refine AOps.nil ?_
          have ej := Option.some.inj hx5
          subst ej
          refine thn_normal ?_
          exact Sub.cut ⟨rfl, trivial⟩ rfl trivial rfl
        · replace hx5 := iteBF hb8 hx5
          obtain ⟨a46, ha46, hx5⟩ := bind_some hx5
          rcases Bool.eq_false_or_eq_true (!a46) with hb9 | hb9
          · replace hx5 := iteBT hb9 hx5
            refine AWP.region ?_
            refine W.fieldAddr rfl rfl rfl rfl ?_
            refine AOps.load rfl rfl rfl rfl rfl rfl ?_
            refine W.fieldAddr rfl rfl rfl rfl ?_
            refine AOps.load rfl rfl rfl rfl rfl rfl ?_
            refine AOps.callR rfl rfl rfl rfl (ref1_Disjoint_ok ha23) rfl ?_
            refine AOps.not rfl rfl ?_
            refine AOps.move rfl rfl ?_
            refine AOps.guardT rfl rfl rfl hb6 ?_; refine W.fieldAddr rfl rfl rfl rfl ?_
            refine AOps.guardT rfl rfl rfl hb6 ?_; refine AOps.load rfl rfl rfl rfl rfl rfl ?_
            refine AOps.guardT rfl rfl rfl hb6 ?_; refine W.fieldAddr rfl rfl rfl rfl ?_
            refine AOps.guardT rfl rfl rfl hb6 ?_; refine AOps.load rfl rfl rfl rfl rfl rfl ?_
            refine AOps.guardT rfl rfl rfl hb6 ?_; refine AOps.callR rfl rfl rfl rfl (ref1_Disjoint_ok ha30) rfl ?_
            refine AOps.guardT rfl rfl rfl hb6 ?_; refine AOps.not rfl rfl ?_
            refine AOps.pickF rfl hb6 rfl rfl ?_
            refine AOps.move rfl rfl ?_
            refine AOps.guardT rfl rfl rfl hb7 ?_; refine W.fieldAddr rfl rfl rfl rfl ?_
            refine AOps.guardT rfl rfl rfl hb7 ?_; refine AOps.load rfl rfl rfl rfl rfl rfl ?_
            refine AOps.guardT rfl rfl rfl hb7 ?_; refine W.fieldAddr rfl rfl rfl rfl ?_
            refine AOps.guardT rfl rfl rfl hb7 ?_; refine AOps.load rfl rfl rfl rfl rfl rfl ?_
            refine AOps.guardT rfl rfl rfl hb7 ?_; refine AOps.callR rfl rfl rfl rfl (ref1_Disjoint_ok ha38) rfl ?_
            refine AOps.guardT rfl rfl rfl hb7 ?_; refine AOps.not rfl rfl ?_
            refine AOps.pickF rfl hb7 rfl rfl ?_
            refine AOps.move rfl rfl ?_
            refine AOps.guardT rfl rfl rfl hb8 ?_; refine W.fieldAddr rfl rfl rfl rfl ?_
            refine AOps.guardT rfl rfl rfl hb8 ?_; refine AOps.load rfl rfl rfl rfl rfl rfl ?_
            refine AOps.guardT rfl rfl rfl hb8 ?_; refine W.fieldAddr rfl rfl rfl rfl ?_
            refine AOps.guardT rfl rfl rfl hb8 ?_; refine AOps.load rfl rfl rfl rfl rfl rfl ?_
            refine AOps.guardT rfl rfl rfl hb8 ?_; refine AOps.callR rfl rfl rfl rfl (ref1_Disjoint_ok ha46) rfl ?_
            refine AOps.guardT rfl rfl rfl hb8 ?_; refine AOps.not rfl rfl ?_
            refine AOps.pickF rfl hb8 rfl rfl ?_
            refine AOps.move rfl rfl ?_
            refine AOps.guardF rfl rfl rfl hb9 ?_
            refine AOps.guardF rfl rfl rfl hb9 ?_
            refine AOps.guardF rfl rfl rfl hb9 ?_
            refine AOps.guardF rfl rfl rfl hb9 ?_
            refine AOps.guardF rfl rfl rfl hb9 ?_
            refine AOps.guardF rfl rfl rfl hb9 ?_
            refine AOps.pickT rfl hb9 rfl rfl ?_
            refine AOps.move rfl rfl ?_
            refine AOps.guardF rfl rfl rfl rfl ?_
            refine AOps.guardF rfl rfl rfl rfl ?_
            refine AOps.guardF rfl rfl rfl rfl ?_
            refine AOps.guardF rfl rfl rfl rfl ?_
            refine AOps.guardF rfl rfl rfl rfl ?_
            refine AOps.guardF rfl rfl rfl rfl ?_
            refine AOps.pickT rfl rfl rfl rfl ?_
            refine AOps.assign rfl rfl ?_
            refine AOps.nil ?_
            have ej := Option.some.inj hx5
            subst ej
            refine thn_normal ?_
            exact Sub.cut ⟨rfl, trivial⟩ rfl trivial rfl
          · replace hx5 := iteBF hb9 hx5
            obtain ⟨a54, ha54, hx5⟩ := bind_some hx5
            rcases Bool.eq_false_or_eq_true (!a54) with hb10 | hb10
            · replace hx5 := iteBT hb10 hx5
              refine AWP.region ?_
              refine W.fieldAddr rfl rfl rfl rfl ?_
              refine AOps.load rfl rfl rfl rfl rfl rfl ?_
              refine W.fieldAddr rfl rfl rfl rfl ?_
              refine AOps.load rfl rfl rfl rfl rfl rfl ?_
              refine AOps.callR rfl rfl rfl rfl (ref1_Disjoint_ok ha23) rfl ?_
              refine AOps.not rfl rfl ?_
              refine AOps.move rfl rfl ?_
              refine AOps.guardT rfl rfl rfl hb6 ?_; refine W.fieldAddr rfl rfl rfl rfl ?_
              refine AOps.guardT rfl rfl rfl hb6 ?_; refine AOps.load rfl rfl rfl rfl rfl rfl ?_
              refine AOps.guardT rfl rfl rfl hb6 ?_; refine W.fieldAddr rfl rfl rfl rfl ?_
              refine AOps.guardT rfl rfl rfl hb6 ?_; refine AOps.load rfl rfl rfl rfl rfl rfl ?_
              refine AOps.guardT rfl rfl rfl hb6 ?_; refine AOps.callR rfl rfl rfl rfl (ref1_Disjoint_ok ha30) rfl ?_
              refine AOps.guardT rfl rfl rfl hb6 ?_; refine AOps.not rfl rfl ?_
              refine AOps.pickF rfl hb6 rfl rfl ?_
              refine AOps.move rfl rfl ?_
              refine AOps.guardT rfl rfl rfl hb7 ?_; refine W.fieldAddr rfl rfl rfl rfl ?_
              refine AOps.guardT rfl rfl rfl hb7 ?_; refine AOps.load rfl rfl rfl rfl rfl rfl ?_
              refine AOps.guardT rfl rfl rfl hb7 ?_; refine W.fieldAddr rfl rfl rfl rfl ?_
              refine AOps.guardT rfl rfl rfl hb7 ?_; refine AOps.load rfl rfl rfl rfl rfl rfl ?_
              refine AOps.guardT rfl rfl rfl hb7 ?_; refine AOps.callR rfl rfl rfl rfl (ref1_Disjoint_ok ha38) rfl ?_
              refine AOps.guardT rfl rfl rfl hb7 ?_; refine AOps.not rfl rfl ?_
              refine AOps.pickF rfl hb7 rfl rfl ?_
              refine AOps.move rfl rfl ?_
              refine AOps.guardT rfl rfl rfl hb8 ?_; refine W.fieldAddr rfl rfl rfl rfl ?_
              refine AOps.guardT rfl rfl rfl hb8 ?_; refine AOps.load rfl rfl rfl rfl rfl rfl ?_
              refine AOps.guardT rfl rfl rfl hb8 ?_; refine W.fieldAddr rfl rfl rfl rfl ?_
              refine AOps.guardT rfl rfl rfl hb8 ?_; refine AOps.load rfl rfl rfl rfl rfl rfl ?_
              refine AOps.guardT rfl rfl rfl hb8 ?_; refine AOps.callR rfl rfl rfl rfl (ref1_Disjoint_ok ha46) rfl ?_
              refine AOps.guardT rfl rfl rfl hb8 ?_; refine AOps.not rfl rfl ?_
              refine AOps.pickF rfl hb8 rfl rfl ?_
              refine AOps.move rfl rfl ?_
              refine AOps.guardT rfl rfl rfl hb9 ?_; refine W.fieldAddr rfl rfl rfl rfl ?_
              refine AOps.guardT rfl rfl rfl hb9 ?_; refine AOps.load rfl rfl rfl rfl rfl rfl ?_
              refine AOps.guardT rfl rfl rfl hb9 ?_; refine W.fieldAddr rfl rfl rfl rfl ?_
              refine AOps.guardT rfl rfl rfl hb9 ?_; refine AOps.load rfl rfl rfl rfl rfl rfl ?_
              refine AOps.guardT rfl rfl rfl hb9 ?_; refine AOps.callR rfl rfl rfl rfl (ref1_Disjoint_ok ha54) rfl ?_
              refine AOps.guardT rfl rfl rfl hb9 ?_; refine AOps.not rfl rfl ?_
              refine AOps.pickF rfl hb9 rfl rfl ?_
              refine AOps.move rfl rfl ?_
              refine AOps.guardF rfl rfl rfl hb10 ?_
              refine AOps.guardF rfl rfl rfl hb10 ?_
              refine AOps.guardF rfl rfl rfl hb10 ?_
              refine AOps.guardF rfl rfl rfl hb10 ?_
              refine AOps.guardF rfl rfl rfl hb10 ?_
              refine AOps.guardF rfl rfl rfl hb10 ?_
              refine AOps.pickT rfl hb10 rfl rfl ?_
              refine AOps.assign rfl rfl ?_
              refine AOps.nil ?_
              have ej := Option.some.inj hx5
              subst ej
              refine thn_normal ?_
              exact Sub.cut ⟨rfl, trivial⟩ rfl trivial rfl
            · replace hx5 := iteBF hb10 hx5
              obtain ⟨a62, ha62, hx5⟩ := bind_some hx5
              refine AWP.region ?_
              refine W.fieldAddr rfl rfl rfl rfl ?_
              refine AOps.load rfl rfl rfl rfl rfl rfl ?_
              refine W.fieldAddr rfl rfl rfl rfl ?_
              refine AOps.load rfl rfl rfl rfl rfl rfl ?_
              refine AOps.callR rfl rfl rfl rfl (ref1_Disjoint_ok ha23) rfl ?_
              refine AOps.not rfl rfl ?_
              refine AOps.move rfl rfl ?_
              refine AOps.guardT rfl rfl rfl hb6 ?_; refine W.fieldAddr rfl rfl rfl rfl ?_
              refine AOps.guardT rfl rfl rfl hb6 ?_; refine AOps.load rfl rfl rfl rfl rfl rfl ?_
              refine AOps.guardT rfl rfl rfl hb6 ?_; refine W.fieldAddr rfl rfl rfl rfl ?_
              refine AOps.guardT rfl rfl rfl hb6 ?_; refine AOps.load rfl rfl rfl rfl rfl rfl ?_
              refine AOps.guardT rfl rfl rfl hb6 ?_; refine AOps.callR rfl rfl rfl rfl (ref1_Disjoint_ok ha30) rfl ?_
              refine AOps.guardT rfl rfl rfl hb6 ?_; refine AOps.not rfl rfl ?_
              refine AOps.pickF rfl hb6 rfl rfl ?_
              refine AOps.move rfl rfl ?_
              refine AOps.guardT rfl rfl rfl hb7 ?_; refine W.fieldAddr rfl rfl rfl rfl ?_
              refine AOps.guardT rfl rfl rfl hb7 ?_; refine AOps.load rfl rfl rfl rfl rfl rfl ?_
              refine AOps.guardT rfl rfl rfl hb7 ?_; refine W.fieldAddr rfl rfl rfl rfl ?_
              refine AOps.guardT rfl rfl rfl hb7 ?_; refine AOps.load rfl rfl rfl rfl rfl rfl ?_
              refine AOps.guardT rfl rfl rfl hb7 ?_; refine AOps.callR rfl rfl rfl rfl (ref1_Disjoint_ok ha38) rfl ?_
              refine AOps.guardT rfl rfl rfl hb7 ?_; refine AOps.not rfl rfl ?_
              refine AOps.pickF rfl hb7 rfl rfl ?_
              refine AOps.move rfl rfl ?_
              refine AOps.guardT rfl rfl rfl hb8 ?_; refine W.fieldAddr rfl rfl rfl rfl ?_
              refine AOps.guardT rfl rfl rfl hb8 ?_; refine AOps.load rfl rfl rfl rfl rfl rfl ?_
              refine AOps.guardT rfl rfl rfl hb8 ?_; refine W.fieldAddr rfl rfl rfl rfl ?_
              refine AOps.guardT rfl rfl rfl hb8 ?_; refine AOps.load rfl rfl rfl rfl rfl rfl ?_
              refine AOps.guardT rfl rfl rfl hb8 ?_; refine AOps.callR rfl rfl rfl rfl (ref1_Disjoint_ok ha46) rfl ?_
              refine AOps.guardT rfl rfl rfl hb8 ?_; refine AOps.not rfl rfl ?_
              refine AOps.pickF rfl hb8 rfl rfl ?_
              refine AOps.move rfl rfl ?_
              refine AOps.guardT rfl rfl rfl hb9 ?_; refine W.fieldAddr rfl rfl rfl rfl ?_
              refine AOps.guardT rfl rfl rfl hb9 ?_; refine AOps.load rfl rfl rfl rfl rfl rfl ?_
              refine AOps.guardT rfl rfl rfl hb9 ?_; refine W.fieldAddr rfl rfl rfl rfl ?_
              refine AOps.guardT rfl rfl rfl hb9 ?_; refine AOps.load rfl rfl rfl rfl rfl rfl ?_
              refine AOps.guardT rfl rfl rfl hb9 ?_; refine AOps.callR rfl rfl rfl rfl (ref1_Disjoint_ok ha54) rfl ?_
              refine AOps.guardT rfl rfl rfl hb9 ?_; refine AOps.not rfl rfl ?_
              refine AOps.pickF rfl hb9 rfl rfl ?_
              refine AOps.move rfl rfl ?_
              refine AOps.guardT rfl rfl rfl hb10 ?_; refine W.fieldAddr rfl rfl rfl rfl ?_
              refine AOps.guardT rfl rfl rfl hb10 ?_; refine AOps.load rfl rfl rfl rfl rfl rfl ?_
              refine AOps.guardT rfl rfl rfl hb10 ?_; refine W.fieldAddr rfl rfl rfl rfl ?_
              refine AOps.guardT rfl rfl rfl hb10 ?_; refine AOps.load rfl rfl rfl rfl rfl rfl ?_
              refine AOps.guardT rfl rfl rfl hb10 ?_; refine AOps.callR rfl rfl rfl rfl (ref1_Disjoint_ok ha62) rfl ?_
              refine AOps.guardT rfl rfl rfl hb10 ?_; refine AOps.not rfl rfl ?_
              refine AOps.pickF rfl hb10 rfl rfl ?_
              refine AOps.assign rfl rfl ?_
              refine AOps.nil ?_
              have ej := Option.some.inj hx5
              subst ej
              refine thn_normal ?_
              exact Sub.cut ⟨rfl, trivial⟩ rfl trivial rfl
  · refine AWP.ret ?_
    have ej := Option.some.inj h
    subst ej
    exact Done.ret rfl rfl
theorem ref8_Collisions_ok {t : TTask} {plans : List (List Int)} {r : (List (Int × Int × Int × Int))} (h : ref8_Collisions t plans = some r) : FreshOk Tryd.prog 17 [.agg [int t.facts, row 1 intI t.init, row 1 intI t.goal, row 4 eTOperator t.operators], .c (row 1 eLi64 plans)] 4 (List.map eA4i64 r) := by
  unfold FreshOk
  refine FnOk.enter (rs := [.t 4]) Tryd.func17 rfl Tryd.ntmps17 Tryd.results17 rfl ⟨trivial, trivial⟩ (by kernel_rfl) rfl ?_
  unfold ref8_Collisions at h
  refine AWP.seq ?_
  refine AWP.region ?_
  refine W.box rfl rfl rfl rfl rfl rfl ?_
  refine AOps.assign rfl rfl ?_
  refine AOps.nil ?_
  refine thn_normal ?_
  refine AWP.seq ?_
  refine AWP.region ?_
  refine AOps.assign rfl rfl ?_
  refine AOps.nil ?_
  refine thn_normal ?_
  refine AWP.seq ?_
  refine AWP.seq ?_
  refine AWP.region ?_
  refine AOps.assign rfl rfl ?_
  refine AOps.nil ?_
  refine thn_normal ?_
  refine AWP.block ?_
  refine AWP.virtV 4 eA4i64 5 rfl rfl rfl ?_
  obtain ⟨c3, ho1, h⟩ := bind_some h
  refine AWP.forS ho1 (fun p4 c3 => ⟨[(1, .c (row 1 eLi64 plans)), (2, .c (.ptr 0 0 0)), (5, .c (.own 1 0 c3.length)), (6, .c (int p4))], [.one (.cells 4 [[int t.facts, row 1 intI t.init, row 1 intI t.goal, row 4 eTOperator t.operators]]), .one (vec 4 eA4i64 c3)]⟩) (fun c3 e st => e = .exit 0 ∧ Sub [] st ⟨[(5, .c (.own 1 0 c3.length))], [.one (.cells 4 [[int t.facts, row 1 intI t.init, row 1 intI t.goal, row 4 eTOperator t.operators]]), .one (vec 4 eA4i64 c3)]⟩) ?_ ?_ ?_ ?_
  · try dsimp only
    exact Sub.env ⟨rfl, rfl, (own_len (by first | rfl | simp only [List.length_set])), rfl, trivial⟩
  · intro p4 c3 hlop4 hltp4 _
    try dsimp only
    refine AWP.seq ?_
    refine AWP.seq ?_
    refine AWP.region ?_
    refine AOps.move rfl rfl ?_
    refine AOps.move rfl rfl ?_
    refine S.len rfl rfl (fun hl12 => ?_)
    refine AOps.lss rfl rfl rfl ?_
    refine AOps.nil ?_
    refine thn_normal ?_
    refine AWP.condNP rfl hltp4 ?_
    refine AWP.exit ?_
    refine thn_exit ?_
    refine thn_exit ⟨rfl, ?_⟩
    exact Sub.env ⟨rfl, trivial⟩
  · intro p4 c3 o hlop4 hltp4 h
    unfold ref8_Collisions_l1 at h
    try dsimp only at h ⊢
    refine AWP.seq ?_
    refine AWP.seq ?_
    refine AWP.region ?_
    refine AOps.move rfl rfl ?_
    refine AOps.move rfl rfl ?_
    refine S.len rfl rfl (fun hl12 => ?_)
    refine AOps.lss rfl rfl rfl ?_
    refine AOps.nil ?_
    refine thn_normal ?_
    refine AWP.condP rfl hltp4 ?_
    refine AWP.skip ?_
    refine thn_normal ?_
    refine AWP.seq ?_
    refine AWP.block ?_
    refine AWP.seq ?_
    refine AWP.region ?_
    refine AOps.move rfl rfl ?_
    refine AOps.add rfl rfl rfl (by omega) ?_
    refine AOps.assign rfl rfl ?_
    refine AOps.nil ?_
    refine thn_normal ?_
    refine AWP.block ?_
    obtain ⟨c5, ho2, h⟩ := bind_some h
    refine AWP.forS ho2 (fun q6 c5 => ⟨[(1, .c (row 1 eLi64 plans)), (2, .c (.ptr 0 0 0)), (5, .c (.own 1 0 c5.length)), (6, .c (int p4)), (7, .c (int q6))], [.one (.cells 4 [[int t.facts, row 1 intI t.init, row 1 intI t.goal, row 4 eTOperator t.operators]]), .one (vec 4 eA4i64 c5)]⟩) (fun c5 e st => e = .exit 2 ∧ Sub [] st ⟨[(1, .c (row 1 eLi64 plans)), (2, .c (.ptr 0 0 0)), (5, .c (.own 1 0 c5.length)), (6, .c (int p4))], [.one (.cells 4 [[int t.facts, row 1 intI t.init, row 1 intI t.goal, row 4 eTOperator t.operators]]), .one (vec 4 eA4i64 c5)]⟩) ?_ ?_ ?_ ?_
    · try dsimp only
      exact Sub.env ⟨rfl, rfl, rfl, rfl, rfl, trivial⟩
    · intro q6 c5 hloq6 hltq6 _
      try dsimp only
      refine AWP.seq ?_
      refine AWP.seq ?_
      refine AWP.region ?_
      refine AOps.move rfl rfl ?_
      refine AOps.move rfl rfl ?_
      refine S.len rfl rfl (fun hl20 => ?_)
      refine AOps.lss rfl rfl rfl ?_
      refine AOps.nil ?_
      refine thn_normal ?_
      refine AWP.condNP rfl hltq6 ?_
      refine AWP.exit ?_
      refine thn_exit ?_
      refine thn_exit ⟨rfl, ?_⟩
      exact Sub.env ⟨rfl, rfl, rfl, rfl, trivial⟩
    · intro q6 c5 o hloq6 hltq6 h
      unfold ref8_Collisions_l2 at h
      try dsimp only at h ⊢
      refine AWP.seq ?_
      refine AWP.seq ?_
      refine AWP.region ?_
      refine AOps.move rfl rfl ?_
      refine AOps.move rfl rfl ?_
      refine S.len rfl rfl (fun hl20 => ?_)
      refine AOps.lss rfl rfl rfl ?_
      refine AOps.nil ?_
      refine thn_normal ?_
      refine AWP.condP rfl hltq6 ?_
      refine AWP.skip ?_
      refine thn_normal ?_
      refine AWP.seq ?_
      refine AWP.block ?_
      refine AWP.seq ?_
      refine AWP.region ?_
      refine AOps.assign rfl rfl ?_
      refine AOps.nil ?_
      refine thn_normal ?_
      refine AWP.block ?_
      obtain ⟨c9, ho3, h⟩ := bind_some h
      refine AWP.loopS ho3 (fun (c7, iv8) => ⟨[(1, .c (row 1 eLi64 plans)), (2, .c (.ptr 0 0 0)), (5, .c (.own 1 0 c7.length)), (6, .c (int p4)), (7, .c (int q6)), (8, .c (int iv8))], [.one (.cells 4 [[int t.facts, row 1 intI t.init, row 1 intI t.goal, row 4 eTOperator t.operators]]), .one (vec 4 eA4i64 c7)]⟩) (fun c9 e st => e = .exit 4 ∧ Sub [] st ⟨[(1, .c (row 1 eLi64 plans)), (2, .c (.ptr 0 0 0)), (5, .c (.own 1 0 c9.length)), (6, .c (int p4)), (7, .c (int q6))], [.one (.cells 4 [[int t.facts, row 1 intI t.init, row 1 intI t.goal, row 4 eTOperator t.operators]]), .one (vec 4 eA4i64 c9)]⟩) ?_ ?_ ?_
      · try dsimp only
        exact Sub.env ⟨rfl, rfl, rfl, rfl, rfl, rfl, trivial⟩
      · intro s o h
        obtain ⟨c7, iv8⟩ := s
        unfold ref8_Collisions_l3 at h
        try dsimp only at h ⊢
        refine AWP.seq ?_
        refine AWP.seq ?_
        obtain ⟨a27, ha27, h⟩ := bind_some h
        refine AWP.region ?_
        refine AOps.move rfl rfl ?_
        refine AOps.move rfl rfl ?_
        refine AOps.move rfl rfl ?_
        refine S.idx ha27 rfl rfl rfl rfl ?_
        refine AOps.loadI rfl rfl rfl rfl ?_
        refine S.len rfl rfl (fun hl29 => ?_)
        refine AOps.lss rfl rfl rfl ?_
        refine AOps.nil ?_
        refine thn_normal ?_
        refine AWP.ite rfl h (fun hc10 h => ?_) (fun hc10 h => ?_)
        · refine AWP.skip ?_
          refine thn_normal ?_
          refine AWP.seq ?_
          refine AWP.block ?_
          refine AWP.seq ?_
          refine AWP.region ?_
          refine AOps.assign rfl rfl ?_
          refine AOps.nil ?_
          refine thn_normal ?_
          refine AWP.block ?_
          obtain ⟨c13, ho4, h⟩ := bind_some h
          refine AWP.loopS ho4 (fun (c11, j12) => ⟨[(1, .c (row 1 eLi64 plans)), (2, .c (.ptr 0 0 0)), (5, .c (.own 1 0 c11.length)), (6, .c (int p4)), (7, .c (int q6)), (8, .c (int iv8)), (9, .c (int j12))], [.one (.cells 4 [[int t.facts, row 1 intI t.init, row 1 intI t.goal, row 4 eTOperator t.operators]]), .one (vec 4 eA4i64 c11)]⟩) (fun c13 e st => e = .exit 6 ∧ Sub [] st ⟨[(1, .c (row 1 eLi64 plans)), (2, .c (.ptr 0 0 0)), (5, .c (.own 1 0 c13.length)), (6, .c (int p4)), (7, .c (int q6)), (8, .c (int iv8))], [.one (.cells 4 [[int t.facts, row 1 intI t.init, row 1 intI t.goal, row 4 eTOperator t.operators]]), .one (vec 4 eA4i64 c13)]⟩) ?_ ?_ ?_
          · try dsimp only
            exact Sub.env ⟨rfl, rfl, rfl, rfl, rfl, rfl, rfl, trivial⟩
          · intro s o h
            obtain ⟨c11, j12⟩ := s
            unfold ref8_Collisions_l4 at h
            try dsimp only at h ⊢
            refine AWP.seq ?_
            refine AWP.seq ?_
            obtain ⟨a36, ha36, h⟩ := bind_some h
            refine AWP.region ?_
            refine AOps.move rfl rfl ?_
            refine AOps.move rfl rfl ?_
            refine AOps.move rfl rfl ?_
            refine S.idx ha36 rfl rfl rfl rfl ?_
            refine AOps.loadI rfl rfl rfl rfl ?_
            refine S.len rfl rfl (fun hl38 => ?_)
            refine AOps.lss rfl rfl rfl ?_
            refine AOps.nil ?_
            refine thn_normal ?_
            refine AWP.ite rfl h (fun hc14 h => ?_) (fun hc14 h => ?_)
            · refine AWP.skip ?_
              refine thn_normal ?_
              obtain ⟨c15, hx16, h⟩ := bind_some h
              refine AWP.seqJ (⟨[(1, .c (row 1 eLi64 plans)), (2, .c (.ptr 0 0 0)), (5, .c (.own 3 0 c15.length)), (6, .c (int p4)), (7, .c (int q6)), (8, .c (int iv8)), (9, .c (int j12))], [.one (.cells 4 [[int t.facts, row 1 intI t.init, row 1 intI t.goal, row 4 eTOperator t.operators]]), .dead, .dead, .one (vec 4 eA4i64 c15)]⟩) ?_ ?_
              · refine AWP.block ?_
                refine AWP.seq ?_
                obtain ⟨a45, ha45, hx16⟩ := bind_some hx16
                obtain ⟨a48, ha48, hx16⟩ := bind_some hx16
                obtain ⟨a52, ha52, hx16⟩ := bind_some hx16
                obtain ⟨a55, ha55, hx16⟩ := bind_some hx16
                obtain ⟨a57, ha57, hx16⟩ := bind_some hx16
                refine AWP.drawI mixed rfl ?_
                apply DrawSeq.consF; exact rfl; intro E
                refine W.loadAgg rfl rfl rfl rfl rfl rfl rfl ?_
                exact AOps.nil ⟨rfl, rfl⟩
                exact rfl
                apply DrawSeq.consF; exact rfl; intro E
                refine AOps.move rfl rfl ?_
                exact AOps.nil ⟨rfl, rfl⟩
                exact rfl
                apply DrawSeq.consF; exact rfl; intro E
                refine AOps.move rfl rfl ?_
                exact AOps.nil ⟨rfl, rfl⟩
                exact rfl
                apply DrawSeq.consF; exact rfl; intro E
                refine S.idx ha45 rfl rfl rfl rfl ?_
                exact AOps.nil ⟨rfl, rfl⟩
                exact rfl
                apply DrawSeq.consF; exact rfl; intro E
                refine AOps.loadI rfl rfl rfl rfl ?_
                exact AOps.nil ⟨rfl, rfl⟩
                exact rfl
                apply DrawSeq.consF; exact rfl; intro E
                refine AOps.move rfl rfl ?_
                exact AOps.nil ⟨rfl, rfl⟩
                exact rfl
                apply DrawSeq.consF; exact rfl; intro E
                refine S.idx ha48 rfl rfl rfl rfl ?_
                exact AOps.nil ⟨rfl, rfl⟩
                exact rfl
                apply DrawSeq.consF; exact rfl; intro E
                refine AOps.loadI rfl rfl rfl rfl ?_
                exact AOps.nil ⟨rfl, rfl⟩
                exact rfl
                apply DrawSeq.consF; exact rfl; intro E
                refine AOps.move rfl rfl ?_
                exact AOps.nil ⟨rfl, rfl⟩
                exact rfl
                apply DrawSeq.consF; exact rfl; intro E
                refine AOps.move rfl rfl ?_
                exact AOps.nil ⟨rfl, rfl⟩
                exact rfl
                apply DrawSeq.consF; exact rfl; intro E
                refine S.idx ha52 rfl rfl rfl rfl ?_
                exact AOps.nil ⟨rfl, rfl⟩
                exact rfl
                apply DrawSeq.consF; exact rfl; intro E
                refine AOps.loadI rfl rfl rfl rfl ?_
                exact AOps.nil ⟨rfl, rfl⟩
                exact rfl
                apply DrawSeq.consF; exact rfl; intro E
                refine AOps.move rfl rfl ?_
                exact AOps.nil ⟨rfl, rfl⟩
                exact rfl
                apply DrawSeq.consF; exact rfl; intro E
                refine S.idx ha55 rfl rfl rfl rfl ?_
                exact AOps.nil ⟨rfl, rfl⟩
                exact rfl
                apply DrawSeq.consF; exact rfl; intro E
                refine AOps.loadI rfl rfl rfl rfl ?_
                exact AOps.nil ⟨rfl, rfl⟩
                exact rfl
                apply DrawSeq.consF; exact rfl; intro E
                refine AOps.callR rfl rfl rfl rfl (ref7_Interfering_ok ha57) rfl ?_
                exact AOps.nil ⟨rfl, rfl⟩
                exact rfl
                refine DrawSeq.done ?_
                dsimp only [envEnd]
                refine thn_normal ?_
                refine AWP.iteB rfl hx16 (fun hc17 hx16 => ?_) (fun hc17 hx16 => ?_)
                · obtain ⟨a65, ha65, hx16⟩ := bind_some hx16
                  refine AWP.region ?_
                  refine AOps.move rfl rfl ?_
                  refine AOps.move rfl rfl ?_
                  refine AOps.move rfl rfl ?_
                  refine AOps.move rfl rfl ?_
                  refine AOps.move rfl rfl ?_
                  refine AOps.buildA rfl rfl rfl rfl ?_
                  refine S.lit (f := eA4i64) (l := [(p4, iv8, q6, j12)]) (ess := [[int p4, int iv8, int q6, int j12]]) rfl rfl rfl rfl rfl rfl rfl ⟨⟨.inl rfl, .inl rfl, .inl rfl, .inl rfl, trivial⟩, trivial⟩ rfl rfl rfl ?_
                  refine S.append (f := eA4i64) ha65 rfl rfl rfl rfl rfl rfl (.own rfl rfl) rfl rfl rfl rfl ?_
                  refine AOps.assign rfl rfl ?_
                  refine AOps.nil ?_
                  refine inB_normal ?_
                  have ej := Option.some.inj hx16
                  subst ej
                  refine thn_normal ?_
                  exact Sub.cut ⟨rfl, rfl, rfl, rfl, rfl, rfl, rfl, trivial⟩ rfl ⟨.one rfl, .dead, .dead, .vec, trivial⟩ rfl
                · refine AWP.skip ?_
                  refine inB_normal ?_
                  have ej := Option.some.inj hx16
                  subst ej
                  refine thn_normal ?_
                  exact (Sub.move (env' := [(1, .c (row 1 eLi64 plans)), (2, .c (.ptr 0 0 0)), (5, .c (.own 3 0 c11.length)), (6, .c (int p4)), (7, .c (int q6)), (8, .c (int iv8)), (9, .c (int j12))]) (σ' := [.one (.cells 4 [[int t.facts, row 1 intI t.init, row 1 intI t.goal, row 4 eTOperator t.operators]]), .dead, .dead, .one (vec 4 eA4i64 c11)]) 3 1 rfl rfl rfl ⟨rfl, rfl, rfl, rfl, rfl, rfl, rfl, trivial⟩ rfl ⟨⟨rfl, rfl⟩, trivial, trivial, ⟨Blk.im_ok _ _ _, vec_mv rfl⟩, trivial⟩).trans (Sub.env ⟨rfl, rfl, rfl, rfl, rfl, rfl, rfl, trivial⟩)
              · refine AWP.region ?_
                refine AOps.move rfl rfl ?_
                refine S.add rfl rfl rfl ?_
                refine AOps.assign rfl rfl ?_
                refine AOps.nil ?_
                have ej := Option.some.inj h
                subst ej
                refine thn_normal ⟨_, rfl, ?_⟩
                exact (Sub.move (env' := [(1, .c (row 1 eLi64 plans)), (2, .c (.ptr 0 0 0)), (5, .c (.own 1 0 c15.length)), (6, .c (int p4)), (7, .c (int q6)), (8, .c (int iv8)), (9, .c (int (w64 (j12 + 1))))]) (σ' := [.one (.cells 4 [[int t.facts, row 1 intI t.init, row 1 intI t.goal, row 4 eTOperator t.operators]]), .one (vec 4 eA4i64 c15), .dead]) 1 3 rfl rfl rfl ⟨rfl, rfl, rfl, rfl, rfl, rfl, rfl, trivial⟩ rfl ⟨⟨rfl, rfl⟩, ⟨Blk.im_ok _ _ _, vec_mv rfl⟩, trivial, trivial⟩).trans (Sub.cut ⟨rfl, rfl, rfl, rfl, rfl, rfl, rfl, trivial⟩ rfl ⟨.one rfl, .vec, trivial⟩ rfl)
            · refine AWP.exit ?_
              refine thn_exit ?_
              have ej := Option.some.inj h
              subst ej
              refine thn_exit ⟨_, rfl, rfl, ?_⟩
              exact Sub.env ⟨rfl, rfl, rfl, rfl, rfl, rfl, trivial⟩
          · intro e s hq
            obtain ⟨rfl, hs⟩ := hq
            refine ⟨_, hs, ?_⟩
            refine inB_exit ?_
            refine inB_normal ?_
            refine thn_normal ?_
            refine AWP.region ?_
            refine AOps.move rfl rfl ?_
            refine S.add rfl rfl rfl ?_
            refine AOps.assign rfl rfl ?_
            refine AOps.nil ?_
            have ej := Option.some.inj h
            subst ej
            refine thn_normal ⟨_, rfl, ?_⟩
            exact Sub.env ⟨rfl, rfl, rfl, rfl, rfl, rfl, trivial⟩
        · refine AWP.exit ?_
          refine thn_exit ?_
          have ej := Option.some.inj h
          subst ej
          refine thn_exit ⟨_, rfl, rfl, ?_⟩
          exact Sub.env ⟨rfl, rfl, rfl, rfl, rfl, trivial⟩
      · intro e s hq
        obtain ⟨rfl, hs⟩ := hq
        refine ⟨_, hs, ?_⟩
        refine inB_exit ?_
        refine inB_normal ?_
        refine thn_normal ?_
        refine AWP.region ?_
        refine AOps.move rfl rfl ?_
        refine AOps.add rfl rfl rfl (by omega) ?_
        refine AOps.assign rfl rfl ?_
        refine AOps.nil ?_
        have ej := Option.some.inj h
        subst ej
        refine thn_normal ?_
        exact Sub.env ⟨rfl, rfl, rfl, rfl, rfl, trivial⟩
    · intro e s hq
      obtain ⟨rfl, hs⟩ := hq
      refine ⟨_, hs, ?_⟩
      refine inB_exit ?_
      refine inB_normal ?_
      refine thn_normal ?_
      refine AWP.region ?_
      refine AOps.move rfl rfl ?_
      refine AOps.add rfl rfl rfl (by omega) ?_
      refine AOps.assign rfl rfl ?_
      refine AOps.nil ?_
      have ej := Option.some.inj h
      subst ej
      refine thn_normal ?_
      exact Sub.env ⟨rfl, rfl, rfl, rfl, trivial⟩
  · intro e s hq
    obtain ⟨rfl, hs⟩ := hq
    refine ⟨_, hs, ?_⟩
    refine inB_exit ?_
    refine thn_normal ?_
    refine AWP.seq ?_
    refine AWP.region ?_
    refine AOps.move rfl rfl ?_
    refine AOps.assign rfl rfl ?_
    refine AOps.nil ?_
    refine thn_normal ?_
    refine AWP.ret ?_
    have ej := Option.some.inj h
    subst ej
    exact Done.ret rfl (Fresh.mk rfl rfl)
theorem equal_FourInts_ok {av : List (Int × Int × Int × Int)} {bv : List (Int × Int × Int × Int)} {r : Bool} (h : equal_FourInts av bv = some r) : PureOk Tryd.prog 16 [.c (row 4 eA4i64 av), .c (row 4 eA4i64 bv)] (.c (bool r)) := by
  unfold PureOk
  refine FnOk.enter (rs := [.t 4]) Tryd.func16 rfl Tryd.ntmps16 Tryd.results16 rfl ⟨trivial, trivial⟩ (by kernel_rfl) rfl ?_
  unfold equal_FourInts at h
  refine AWP.seq ?_
  refine AWP.region ?_
  refine AOps.assign rfl rfl ?_
  refine AOps.nil ?_
  refine thn_normal ?_
  refine AWP.seq ?_
  refine AWP.seq ?_
  refine AWP.region ?_
  refine AOps.move rfl rfl ?_
  refine S.len rfl rfl (fun hl7 => ?_)
  refine AOps.move rfl rfl ?_
  refine S.len rfl rfl (fun hl9 => ?_)
  refine AOps.neq rfl rfl rfl ?_
  refine AOps.nil ?_
  refine thn_normal ?_
  refine AWP.iteN rfl h (fun hc3 h => ?_) (fun hc3 h => ?_)
  · refine AWP.seq ?_
    refine AWP.region ?_
    refine AOps.assign rfl rfl ?_
    refine AOps.nil ?_
    refine thn_normal ?_
    refine AWP.ret ?_
    refine thn_ret ?_
    have ej := Option.some.inj h
    subst ej
    exact Done.ret rfl rfl
  · refine AWP.skip ?_
    refine thn_normal ?_
    refine AWP.seq ?_
    refine AWP.seq ?_
    refine AWP.region ?_
    refine AOps.assign rfl rfl ?_
    refine AOps.nil ?_
    refine thn_normal ?_
    refine AWP.block ?_
    obtain ⟨oo, ho1, h⟩ := bind_some h
    refine AWP.rngS ho1 (fun iv4 _ => ⟨[(0, .c (row 4 eA4i64 av)), (1, .c (row 4 eA4i64 bv)), (5, .c (int iv4))], []⟩) (fun o e st => match o with | .inl _ => e = .exit 0 ∧ Sub [] st ⟨[], []⟩ | .inr x => e = .ret ∧ Done [.t 4] (fun t _ => t = .c (bool x)) .ret st) ?_ ?_ ?_ ?_
    · try dsimp only
      exact Sub.env ⟨rfl, rfl, rfl, trivial⟩
    · intro iv4 s hloiv4 hltiv4 _
      try dsimp only
      refine AWP.seq ?_
      refine AWP.seq ?_
      refine AWP.region ?_
      refine AOps.move rfl rfl ?_
      refine AOps.move rfl rfl ?_
      refine S.len rfl rfl (fun hl13 => ?_)
      refine AOps.lss rfl rfl rfl ?_
      refine AOps.nil ?_
      refine thn_normal ?_
      refine AWP.condNP rfl hltiv4 ?_
      refine AWP.exit ?_
      refine thn_exit ?_
      refine thn_exit ⟨rfl, ?_⟩
      exact Sub.env trivial
    · intro iv4 s o hloiv4 hltiv4 h
      unfold equal_FourInts_l1 at h
      try dsimp only at h ⊢
      refine AWP.seq ?_
      refine AWP.seq ?_
      refine AWP.region ?_
      refine AOps.move rfl rfl ?_
      refine AOps.move rfl rfl ?_
      refine S.len rfl rfl (fun hl13 => ?_)
      refine AOps.lss rfl rfl rfl ?_
      refine AOps.nil ?_
      refine thn_normal ?_
      refine AWP.condP rfl hltiv4 ?_
      refine AWP.skip ?_
      refine thn_normal ?_
      refine AWP.seq ?_
      refine AWP.block ?_
      refine AWP.seq ?_
      obtain ⟨a19, ha19, h⟩ := bind_some h
      obtain ⟨a23, ha23, h⟩ := bind_some h
      refine AWP.drawI mixed rfl ?_
      apply DrawSeq.consF; exact rfl; intro E
      refine AOps.move rfl rfl ?_
      exact AOps.nil ⟨rfl, rfl⟩
      exact rfl
      apply DrawSeq.consF; exact rfl; intro E
      refine AOps.move rfl rfl ?_
      exact AOps.nil ⟨rfl, rfl⟩
      exact rfl
      apply DrawSeq.consF; exact rfl; intro E
      refine S.idx ha19 rfl rfl rfl rfl ?_
      exact AOps.nil ⟨rfl, rfl⟩
      exact rfl
      apply DrawSeq.consF; exact rfl; intro E
      refine W.loadIAgg rfl rfl rfl rfl rfl ?_
      exact AOps.nil ⟨rfl, rfl⟩
      exact rfl
      apply DrawSeq.consF; exact rfl; intro E
      refine AOps.move rfl rfl ?_
      exact AOps.nil ⟨rfl, rfl⟩
      exact rfl
      apply DrawSeq.consF; exact rfl; intro E
      refine AOps.move rfl rfl ?_
      exact AOps.nil ⟨rfl, rfl⟩
      exact rfl
      apply DrawSeq.consF; exact rfl; intro E
      refine S.idx ha23 rfl rfl rfl rfl ?_
      exact AOps.nil ⟨rfl, rfl⟩
      exact rfl
      apply DrawSeq.consF; exact rfl; intro E
      refine W.loadIAgg rfl rfl rfl rfl rfl ?_
      exact AOps.nil ⟨rfl, rfl⟩
      exact rfl
      apply DrawSeq.consF; exact rfl; intro E
      refine AOps.neqA4 rfl rfl rfl rfl ?_
      exact AOps.nil ⟨rfl, rfl⟩
      exact rfl
      refine DrawSeq.done ?_
      dsimp only [envEnd]
      refine thn_normal ?_
      refine AWP.iteB rfl h (fun hc5 h => ?_) (fun hc5 h => ?_)
      · refine AWP.seq ?_
        refine AWP.region ?_
        refine AOps.assign rfl rfl ?_
        refine AOps.nil ?_
        refine thn_normal ?_
        refine AWP.ret ?_
        refine inB_ret ?_
        refine thn_ret ?_
        have ej := Option.some.inj h
        subst ej
        refine thn_ret ⟨_, rfl, rfl, ?_⟩
        exact Done.ret rfl rfl
      · refine AWP.skip ?_
        refine inB_normal ?_
        refine thn_normal ?_
        refine AWP.region ?_
        refine AOps.move rfl rfl ?_
        refine AOps.add rfl rfl rfl (by omega) ?_
        refine AOps.assign rfl rfl ?_
        refine AOps.nil ?_
        have ej := Option.some.inj h
        subst ej
        refine thn_normal ⟨_, rfl, ?_⟩
        exact Sub.env ⟨rfl, rfl, rfl, trivial⟩
    · intro e s hq
      rcases oo with u | x
      · try dsimp only at h hq
        obtain ⟨rfl, hs⟩ := hq
        refine ⟨_, hs, ?_⟩
        refine inB_exit ?_
        refine thn_normal ?_
        refine AWP.seq ?_
        refine AWP.region ?_
        refine AOps.assign rfl rfl ?_
        refine AOps.nil ?_
        refine thn_normal ?_
        refine AWP.ret ?_
        have ej := Option.some.inj h
        subst ej
        exact Done.ret rfl rfl
      · try dsimp only at h hq
        obtain ⟨rfl, hs⟩ := hq
        refine ⟨_, Sub.refl _ _, ?_⟩
        refine inB_ret ?_
        refine thn_ret ?_
        have ej := Option.some.inj h
        subst ej
        exact hs
theorem law8_MergingMatchesSpec_ok {t : TTask} {goals : List (List Int)} {plans : List (List Int)} {turns : List Int} {r : Bool} (h : law8_MergingMatchesSpec t goals plans turns = some r) : PureOk Tryd.prog 6 [.agg [int t.facts, row 1 intI t.init, row 1 intI t.goal, row 4 eTOperator t.operators], .c (row 1 eLi64 goals), .c (row 1 eLi64 plans), .c (row 1 intI turns)] (.c (bool r)) := by
  unfold PureOk
  refine FnOk.enter (rs := [.t 8]) Tryd.func6 rfl Tryd.ntmps6 Tryd.results6 rfl ⟨trivial, trivial⟩ (by kernel_rfl) rfl ?_
  unfold law8_MergingMatchesSpec at h
  refine AWP.seq ?_
  refine AWP.region ?_
  refine W.box rfl rfl rfl rfl rfl rfl ?_
  refine AOps.assign rfl rfl ?_
  refine AOps.nil ?_
  refine thn_normal ?_
  refine AWP.seq ?_
  obtain ⟨a18, ha18, h⟩ := bind_some h
  refine AWP.region ?_
  refine W.loadAgg rfl rfl rfl rfl rfl rfl rfl ?_
  refine AOps.move rfl rfl ?_
  refine AOps.callR rfl rfl rfl rfl (merging_Conflicts_ok ha18) rfl ?_
  refine AOps.move rfl rfl ?_
  refine AOps.extract rfl rfl rfl ?_
  refine AOps.extract rfl rfl rfl ?_
  refine W.alloc rfl rfl rfl rfl ?_
  refine AOps.assign rfl rfl ?_
  refine W.storeAgg rfl rfl rfl rfl rfl rfl rfl ?_
  refine AOps.nil ?_
  refine thn_normal ?_
  refine AWP.seq ?_
  obtain ⟨a26, ha26, h⟩ := bind_some h
  refine AWP.region ?_
  refine W.loadAgg rfl rfl rfl rfl rfl rfl rfl ?_
  refine AOps.move rfl rfl ?_
  refine AOps.move rfl rfl ?_
  refine AOps.move rfl rfl ?_
  refine AOps.callR rfl rfl rfl rfl (merging_Check_ok ha26) rfl ?_
  refine AOps.move rfl rfl ?_
  refine AOps.extract rfl rfl rfl ?_
  refine AOps.extract rfl rfl rfl ?_
  refine W.alloc rfl rfl rfl rfl ?_
  refine AOps.assign rfl rfl ?_
  refine W.storeAgg rfl rfl rfl rfl rfl rfl rfl ?_
  refine AOps.nil ?_
  refine thn_normal ?_
  refine AWP.seq ?_
  obtain ⟨a32, ha32, h⟩ := bind_some h
  obtain ⟨a34, ha34, h⟩ := bind_some h
  refine AWP.sub (s' := ⟨[(0, .agg [int t.facts, row 1 intI t.init, row 1 intI t.goal, row 4 eTOperator t.operators]), (1, .c (row 1 eLi64 goals)), (2, .c (row 1 eLi64 plans)), (3, .c (row 1 intI turns)), (4, .c (.ptr 0 0 0)), (8, .c (bool false)), (9, .c (row 4 eA4i64 a18.1)), (10, .c (.ptr 1 0 0)), (11, .c (bool a26.1)), (12, .c (.ptr 2 0 0)), (15, .tup [.c (row 4 eA4i64 a18.1), .agg [int a18.2.code, int a18.2.index]]), (16, .agg [int t.facts, row 1 intI t.init, row 1 intI t.goal, row 4 eTOperator t.operators]), (17, .c (row 1 eLi64 plans)), (18, .tup [.c (row 4 eA4i64 a18.1), .agg [int a18.2.code, int a18.2.index]]), (19, .c (row 4 eA4i64 a18.1)), (20, .agg [int a18.2.code, int a18.2.index]), (21, .tup [.c (bool a26.1), .agg [int a26.2.code, int a26.2.index]]), (22, .agg [int t.facts, row 1 intI t.init, row 1 intI t.goal, row 4 eTOperator t.operators]), (23, .c (row 1 eLi64 goals)), (24, .c (row 1 eLi64 plans)), (25, .c (row 1 intI turns)), (26, .tup [.c (bool a26.1), .agg [int a26.2.code, int a26.2.index]]), (27, .c (bool a26.1)), (28, .agg [int a26.2.code, int a26.2.index])], [.one (.cells 4 [[int t.facts, row 1 intI t.init, row 1 intI t.goal, row 4 eTOperator t.operators]]), .one (.cells 2 [[int a18.2.code, int a18.2.index]]), .one (.cells 2 [[int a26.2.code, int a26.2.index]]), .dead, .dead]⟩) (Sub.cut ⟨rfl, rfl, rfl, rfl, rfl, rfl, rfl, rfl, rfl, rfl, rfl, rfl, rfl, rfl, rfl, rfl, rfl, rfl, rfl, rfl, rfl, rfl, rfl, rfl, trivial⟩ rfl ⟨.one rfl, .one rfl, .one rfl, .dead, .dead, trivial⟩ rfl) ?_
  refine AWP.drawTI [.agg [int t.facts, row 1 intI t.init, row 1 intI t.goal, row 4 eTOperator t.operators], .c (row 1 eLi64 plans), .c (int (plans.length : Int)), .c (.own 3 0 a32.length), .c (row 1 eLi64 plans), .agg [int a34.code, int a34.index], .c (.ptr 4 0 0), .undef] [3, 6, 7] [([], [.one (.cells 4 [[int t.facts, row 1 intI t.init, row 1 intI t.goal, row 4 eTOperator t.operators]]), .one (.cells 2 [[int a18.2.code, int a18.2.index]]), .one (.cells 2 [[int a26.2.code, int a26.2.index]]), .dead, .dead]), ([3], [.one (.cells 4 [[int t.facts, row 1 intI t.init, row 1 intI t.goal, row 4 eTOperator t.operators]]), .one (.cells 2 [[int a18.2.code, int a18.2.index]]), .one (.cells 2 [[int a26.2.code, int a26.2.index]]), .one (vec 1 eLi64 a32), .dead]), ([6], [.one (.cells 4 [[int t.facts, row 1 intI t.init, row 1 intI t.goal, row 4 eTOperator t.operators]]), .one (.cells 2 [[int a18.2.code, int a18.2.index]]), .one (.cells 2 [[int a26.2.code, int a26.2.index]]), .dead, .one (.cells 2 [[int 0, int 0]])]), ([3, 6], [.one (.cells 4 [[int t.facts, row 1 intI t.init, row 1 intI t.goal, row 4 eTOperator t.operators]]), .one (.cells 2 [[int a18.2.code, int a18.2.index]]), .one (.cells 2 [[int a26.2.code, int a26.2.index]]), .one (vec 1 eLi64 a32), .one (.cells 2 [[int 0, int 0]])]), ([3, 6, 7], [.one (.cells 4 [[int t.facts, row 1 intI t.init, row 1 intI t.goal, row 4 eTOperator t.operators]]), .one (.cells 2 [[int a18.2.code, int a18.2.index]]), .one (.cells 2 [[int a26.2.code, int a26.2.index]]), .one (vec 1 eLi64 a32), .one (.cells 2 [[int a34.code, int a34.index]])])] [.one (.cells 4 [[int t.facts, row 1 intI t.init, row 1 intI t.goal, row 4 eTOperator t.operators]]), .one (.cells 2 [[int a18.2.code, int a18.2.index]]), .one (.cells 2 [[int a26.2.code, int a26.2.index]]), .one (vec 1 eLi64 a32), .one (.cells 2 [[int a34.code, int a34.index]])] mixed rfl rfl rfl rfl rfl ?_ ?_
  · refine TabOk.cons ?_ ?_
    · apply EntOps.go; exact rfl; exact rfl; exact rfl; intro E hE; (refine W.loadAgg rfl rfl rfl rfl rfl rfl rfl ?_); exact AOps.nil ⟨rfl, rfl⟩
      apply EntOps.go; exact rfl; exact rfl; exact rfl; intro E hE; (refine AOps.move rfl rfl ?_); exact AOps.nil ⟨rfl, rfl⟩
      apply EntOps.go; exact rfl; exact rfl; exact rfl; intro E hE; (refine S.len rfl rfl (fun hl31 => ?_)); exact AOps.nil ⟨rfl, rfl⟩
      apply EntOps.eff; exact rfl; exact rfl; exact rfl; exact rfl; intro E hE; (refine AOps.newAt 3 (.c (.own 3 0 a32.length)) (vec 1 eLi64 a32) (.inl rfl) rfl hE rfl rfl rfl rfl (.vec) (.vec) rfl rfl rfl ⟨.one rfl, .one rfl, .one rfl, .dead, .dead, trivial⟩ (fun hh => by (refine S.make (f := eLi64) ha32 (.row .nil) rfl rfl rfl rfl rfl rfl ?_; exact hh)) ?_); exact AOps.nil ⟨rfl, rfl⟩
      apply EntOps.go; exact rfl; exact rfl; exact rfl; intro E hE; (refine AOps.move rfl rfl ?_); exact AOps.nil ⟨rfl, rfl⟩
      refine EntOps.no rfl ?_
      apply EntOps.eff; exact rfl; exact rfl; exact rfl; exact rfl; intro E hE; (refine AOps.allocAt 4 hE rfl rfl rfl rfl rfl rfl rfl ⟨.one rfl, .one rfl, .one rfl, .dead, .dead, trivial⟩ rfl ?_); exact AOps.nil ⟨rfl, rfl⟩
      refine EntOps.no rfl ?_
      exact EntOps.nil
    refine TabOk.cons ?_ ?_
    · apply EntOps.go; exact rfl; exact rfl; exact rfl; intro E hE; (refine W.loadAgg rfl rfl rfl rfl rfl rfl rfl ?_); exact AOps.nil ⟨rfl, rfl⟩
      refine EntOps.no rfl ?_
      refine EntOps.no rfl ?_
      refine EntOps.no rfl ?_
      apply EntOps.go; exact rfl; exact rfl; exact rfl; intro E hE; (refine AOps.move rfl rfl ?_); exact AOps.nil ⟨rfl, rfl⟩
      apply EntOps.go; exact rfl; exact rfl; exact rfl; intro E hE; (refine AOps.callL rfl rfl (.cons (.agg (.cons .imm (.cons .imm (.cons .imm (.cons .imm .nil))))) (.cons (.c (.own rfl rfl)) (.cons (.c .imm) .nil))) rfl (ref8_PartiesFault_ok ha34) rfl ?_); exact AOps.nil ⟨rfl, rfl⟩
      apply EntOps.eff; exact rfl; exact rfl; exact rfl; exact rfl; intro E hE; (refine AOps.allocAt 4 hE rfl rfl rfl rfl rfl rfl rfl ⟨.one rfl, .one rfl, .one rfl, .vec, .dead, trivial⟩ rfl ?_); exact AOps.nil ⟨rfl, rfl⟩
      refine EntOps.no rfl ?_
      exact EntOps.nil
    refine TabOk.cons ?_ ?_
    · apply EntOps.go; exact rfl; exact rfl; exact rfl; intro E hE; (refine W.loadAgg rfl rfl rfl rfl rfl rfl rfl ?_); exact AOps.nil ⟨rfl, rfl⟩
      apply EntOps.go; exact rfl; exact rfl; exact rfl; intro E hE; (refine AOps.move rfl rfl ?_); exact AOps.nil ⟨rfl, rfl⟩
      apply EntOps.go; exact rfl; exact rfl; exact rfl; intro E hE; (refine S.len rfl rfl (fun hl31 => ?_)); exact AOps.nil ⟨rfl, rfl⟩
      apply EntOps.eff; exact rfl; exact rfl; exact rfl; exact rfl; intro E hE; (refine AOps.newAt 3 (.c (.own 3 0 a32.length)) (vec 1 eLi64 a32) (.inl rfl) rfl hE rfl rfl rfl rfl (.vec) (.vec) rfl rfl rfl ⟨.one rfl, .one rfl, .one rfl, .dead, .one rfl, trivial⟩ (fun hh => by (refine S.make (f := eLi64) ha32 (.row .nil) rfl rfl rfl rfl rfl rfl ?_; exact hh)) ?_); exact AOps.nil ⟨rfl, rfl⟩
      apply EntOps.go; exact rfl; exact rfl; exact rfl; intro E hE; (refine AOps.move rfl rfl ?_); exact AOps.nil ⟨rfl, rfl⟩
      refine EntOps.no rfl ?_
      refine EntOps.no rfl ?_
      refine EntOps.no rfl ?_
      exact EntOps.nil
    refine TabOk.cons ?_ ?_
    · apply EntOps.go; exact rfl; exact rfl; exact rfl; intro E hE; (refine W.loadAgg rfl rfl rfl rfl rfl rfl rfl ?_); exact AOps.nil ⟨rfl, rfl⟩
      refine EntOps.no rfl ?_
      refine EntOps.no rfl ?_
      refine EntOps.no rfl ?_
      apply EntOps.go; exact rfl; exact rfl; exact rfl; intro E hE; (refine AOps.move rfl rfl ?_); exact AOps.nil ⟨rfl, rfl⟩
      apply EntOps.go; exact rfl; exact rfl; exact rfl; intro E hE; (refine AOps.callL rfl rfl (.cons (.agg (.cons .imm (.cons .imm (.cons .imm (.cons .imm .nil))))) (.cons (.c (.own rfl rfl)) (.cons (.c .imm) .nil))) rfl (ref8_PartiesFault_ok ha34) rfl ?_); exact AOps.nil ⟨rfl, rfl⟩
      refine EntOps.no rfl ?_
      apply EntOps.eff; exact rfl; exact rfl; exact rfl; exact rfl; intro E hE; (refine W.storeAgg rfl rfl rfl rfl rfl rfl rfl ?_); exact AOps.nil ⟨rfl, rfl⟩
      exact EntOps.nil
    refine TabOk.cons ?_ ?_
    · refine EntOps.no rfl ?_
      refine EntOps.no rfl ?_
      refine EntOps.no rfl ?_
      refine EntOps.no rfl ?_
      refine EntOps.no rfl ?_
      refine EntOps.no rfl ?_
      refine EntOps.no rfl ?_
      refine EntOps.no rfl ?_
      exact EntOps.nil
    exact TabOk.nil
  dsimp only [envEnd]
  refine thn_normal ?_
  refine AWP.seq ?_
  obtain ⟨t5, hx6, h⟩ := bind_some h
  refine AWP.seqJ (⟨[(1, .c (row 1 eLi64 goals)), (2, .c (row 1 eLi64 plans)), (3, .c (row 1 intI turns)), (4, .c (.ptr 0 0 0)), (11, .c (bool a26.1)), (12, .c (.ptr 2 0 0)), (13, .c (.ptr 4 0 0)), (60, .c (bool t5))], [.one (.cells 4 [[int t.facts, row 1 intI t.init, row 1 intI t.goal, row 4 eTOperator t.operators]]), .dead, .one (.cells 2 [[int a26.2.code, int a26.2.index]]), .dead, .one (.cells 2 [[int a34.code, int a34.index]])]⟩) ?_ ?_
  · rcases Bool.eq_false_or_eq_true (!((decide (a18.2.code = a34.code)) && (decide (a18.2.index = a34.index)))) with hb7 | hb7
    · replace hx6 := iteBT hb7 hx6
      refine AWP.region ?_
      refine W.loadAgg rfl rfl rfl rfl rfl rfl rfl ?_
      refine W.loadAgg rfl rfl rfl rfl rfl rfl rfl ?_
      refine AOps.neqP rfl rfl rfl rfl rfl rfl rfl ?_
      refine AOps.move rfl rfl ?_
      refine AOps.guardF rfl rfl rfl hb7 ?_
      refine AOps.guardF rfl rfl rfl hb7 ?_
      refine AOps.guardF rfl rfl rfl hb7 ?_
      refine AOps.guardF rfl rfl rfl hb7 ?_
      refine AOps.guardSkip rfl rfl rfl ?_
      refine AOps.guardSkip rfl rfl rfl ?_
      refine AOps.guardSkip rfl rfl rfl ?_
      refine AOps.guardF rfl rfl rfl hb7 ?_
      refine AOps.pickT rfl hb7 rfl rfl ?_
      refine AOps.move rfl rfl ?_
      refine AOps.guardF rfl rfl rfl rfl ?_
      refine AOps.guardF rfl rfl rfl rfl ?_
      refine AOps.guardF rfl rfl rfl rfl ?_
      refine AOps.guardF rfl rfl rfl rfl ?_
      refine AOps.guardSkip rfl rfl rfl ?_
      refine AOps.guardSkip rfl rfl rfl ?_
      refine AOps.guardSkip rfl rfl rfl ?_
      refine AOps.guardSkip rfl rfl rfl ?_
      refine AOps.guardSkip rfl rfl rfl ?_
      refine AOps.guardSkip rfl rfl rfl ?_
      refine AOps.guardF rfl rfl rfl rfl ?_
      refine AOps.pickT rfl rfl rfl rfl ?_
      refine AOps.nil ?_
      have ej := Option.some.inj hx6
      subst ej
      refine thn_normal ?_
      exact Sub.cut ⟨rfl, rfl, rfl, rfl, rfl, rfl, rfl, rfl, trivial⟩ rfl ⟨.one rfl, .dead, .one rfl, .dead, .one rfl, trivial⟩ rfl
    · replace hx6 := iteBF hb7 hx6
      rcases Bool.eq_false_or_eq_true (!(decide (a34.code = 0))) with hb8 | hb8
      · replace hx6 := iteBT hb8 hx6
        rcases Bool.eq_false_or_eq_true (decide (0 < (a18.1.length : Int))) with hb9 | hb9
        · replace hx6 := iteDT hb9 hx6
          refine AWP.region ?_
          refine W.loadAgg rfl rfl rfl rfl rfl rfl rfl ?_
          refine W.loadAgg rfl rfl rfl rfl rfl rfl rfl ?_
          refine AOps.neqP rfl rfl rfl rfl rfl rfl rfl ?_
          refine AOps.move rfl rfl ?_
          refine AOps.guardT rfl rfl rfl hb7 ?_; refine W.fieldAddr rfl rfl rfl rfl ?_
          refine AOps.guardT rfl rfl rfl hb7 ?_; refine AOps.load rfl rfl rfl rfl rfl rfl ?_
          refine AOps.guardT rfl rfl rfl hb7 ?_; refine AOps.neq rfl rfl rfl ?_
          refine AOps.guardT rfl rfl rfl hb7 ?_; refine AOps.move rfl rfl ?_
          refine AOps.guardT rfl rfl rfl hb8 ?_; refine AOps.move rfl rfl ?_
          refine AOps.guardT rfl rfl rfl hb8 ?_; refine S.len rfl rfl (fun hl44 => ?_)
          refine AOps.guardT rfl rfl rfl hb8 ?_; refine AOps.gtr rfl rfl rfl ?_
          refine AOps.guardT rfl rfl rfl hb7 ?_; refine AOps.pickT rfl hb8 rfl rfl ?_
          refine AOps.pickF rfl hb7 rfl rfl ?_
          refine AOps.move rfl rfl ?_
          refine AOps.guardF rfl rfl rfl hb9 ?_
          refine AOps.guardF rfl rfl rfl hb9 ?_
          refine AOps.guardF rfl rfl rfl hb9 ?_
          refine AOps.guardF rfl rfl rfl hb9 ?_
          refine AOps.guardSkip rfl rfl rfl ?_
          refine AOps.guardSkip rfl rfl rfl ?_
          refine AOps.guardSkip rfl rfl rfl ?_
          refine AOps.guardSkip rfl rfl rfl ?_
          refine AOps.guardSkip rfl rfl rfl ?_
          refine AOps.guardSkip rfl rfl rfl ?_
          refine AOps.guardF rfl rfl rfl hb9 ?_
          refine AOps.pickT rfl hb9 rfl rfl ?_
          refine AOps.nil ?_
          have ej := Option.some.inj hx6
          subst ej
          refine thn_normal ?_
          exact Sub.cut ⟨rfl, rfl, rfl, rfl, rfl, rfl, rfl, rfl, trivial⟩ rfl ⟨.one rfl, .dead, .one rfl, .dead, .one rfl, trivial⟩ rfl
        · replace hx6 := iteDF hb9 hx6
          rcases Bool.eq_false_or_eq_true (decide (a34.code = 0)) with hb10 | hb10
          · replace hx6 := iteDT hb10 hx6
            obtain ⟨a56, ha56, hx6⟩ := bind_some hx6
            obtain ⟨a57, ha57, hx6⟩ := bind_some hx6
            refine AWP.region ?_
            refine W.loadAgg rfl rfl rfl rfl rfl rfl rfl ?_
            refine W.loadAgg rfl rfl rfl rfl rfl rfl rfl ?_
            refine AOps.neqP rfl rfl rfl rfl rfl rfl rfl ?_
            refine AOps.move rfl rfl ?_
            refine AOps.guardT rfl rfl rfl hb7 ?_; refine W.fieldAddr rfl rfl rfl rfl ?_
            refine AOps.guardT rfl rfl rfl hb7 ?_; refine AOps.load rfl rfl rfl rfl rfl rfl ?_
            refine AOps.guardT rfl rfl rfl hb7 ?_; refine AOps.neq rfl rfl rfl ?_
            refine AOps.guardT rfl rfl rfl hb7 ?_; refine AOps.move rfl rfl ?_
            refine AOps.guardT rfl rfl rfl hb8 ?_; refine AOps.move rfl rfl ?_
            refine AOps.guardT rfl rfl rfl hb8 ?_; refine S.len rfl rfl (fun hl44 => ?_)
            refine AOps.guardT rfl rfl rfl hb8 ?_; refine AOps.gtr rfl rfl rfl ?_
            refine AOps.guardT rfl rfl rfl hb7 ?_; refine AOps.pickT rfl hb8 rfl rfl ?_
            refine AOps.pickF rfl hb7 rfl rfl ?_
            refine AOps.move rfl rfl ?_
            refine AOps.guardT rfl rfl rfl hb9 ?_; refine W.fieldAddr rfl rfl rfl rfl ?_
            refine AOps.guardT rfl rfl rfl hb9 ?_; refine AOps.load rfl rfl rfl rfl rfl rfl ?_
            refine AOps.guardT rfl rfl rfl hb9 ?_; refine AOps.eql rfl rfl rfl ?_
            refine AOps.guardT rfl rfl rfl hb9 ?_; refine AOps.move rfl rfl ?_
            refine AOps.guardT rfl rfl rfl hb10 ?_; refine AOps.move rfl rfl ?_
            refine AOps.guardT rfl rfl rfl hb10 ?_; refine W.loadAgg rfl rfl rfl rfl rfl rfl rfl ?_
            refine AOps.guardT rfl rfl rfl hb10 ?_; refine AOps.move rfl rfl ?_
            refine AOps.guardT rfl rfl rfl hb10 ?_; refine S.fresh rfl rfl rfl rfl (ref8_Collisions_ok ha56) rfl rfl ?_
            refine AOps.guardT rfl rfl rfl hb10 ?_; refine AOps.callL rfl rfl (.cons (.c .imm) (.cons (.c (.own rfl rfl)) .nil)) rfl (equal_FourInts_ok ha57) rfl ?_
            refine AOps.guardT rfl rfl rfl hb10 ?_; refine AOps.not rfl rfl ?_
            refine AOps.guardT rfl rfl rfl hb9 ?_; refine AOps.pickT rfl hb10 rfl rfl ?_
            refine AOps.pickF rfl hb9 rfl rfl ?_
            refine AOps.nil ?_
            have ej := Option.some.inj hx6
            subst ej
            refine thn_normal ?_
            exact Sub.cut ⟨rfl, rfl, rfl, rfl, rfl, rfl, rfl, rfl, trivial⟩ rfl ⟨.one rfl, .dead, .one rfl, .dead, .one rfl, trivial⟩ rfl
          · replace hx6 := iteDF hb10 hx6
            refine AWP.region ?_
            refine W.loadAgg rfl rfl rfl rfl rfl rfl rfl ?_
            refine W.loadAgg rfl rfl rfl rfl rfl rfl rfl ?_
            refine AOps.neqP rfl rfl rfl rfl rfl rfl rfl ?_
            refine AOps.move rfl rfl ?_
            refine AOps.guardT rfl rfl rfl hb7 ?_; refine W.fieldAddr rfl rfl rfl rfl ?_
            refine AOps.guardT rfl rfl rfl hb7 ?_; refine AOps.load rfl rfl rfl rfl rfl rfl ?_
            refine AOps.guardT rfl rfl rfl hb7 ?_; refine AOps.neq rfl rfl rfl ?_
            refine AOps.guardT rfl rfl rfl hb7 ?_; refine AOps.move rfl rfl ?_
            refine AOps.guardT rfl rfl rfl hb8 ?_; refine AOps.move rfl rfl ?_
            refine AOps.guardT rfl rfl rfl hb8 ?_; refine S.len rfl rfl (fun hl44 => ?_)
            refine AOps.guardT rfl rfl rfl hb8 ?_; refine AOps.gtr rfl rfl rfl ?_
            refine AOps.guardT rfl rfl rfl hb7 ?_; refine AOps.pickT rfl hb8 rfl rfl ?_
            refine AOps.pickF rfl hb7 rfl rfl ?_
            refine AOps.move rfl rfl ?_
            refine AOps.guardT rfl rfl rfl hb9 ?_; refine W.fieldAddr rfl rfl rfl rfl ?_
            refine AOps.guardT rfl rfl rfl hb9 ?_; refine AOps.load rfl rfl rfl rfl rfl rfl ?_
            refine AOps.guardT rfl rfl rfl hb9 ?_; refine AOps.eql rfl rfl rfl ?_
            refine AOps.guardT rfl rfl rfl hb9 ?_; refine AOps.move rfl rfl ?_
            refine AOps.guardF rfl rfl rfl hb10 ?_
            refine AOps.guardF rfl rfl rfl hb10 ?_
            refine AOps.guardF rfl rfl rfl hb10 ?_
            refine AOps.guardF rfl rfl rfl hb10 ?_
            refine AOps.guardF rfl rfl rfl hb10 ?_
            refine AOps.guardF rfl rfl rfl hb10 ?_
            refine AOps.guardT rfl rfl rfl hb9 ?_; refine AOps.pickF rfl hb10 rfl rfl ?_
            refine AOps.pickF rfl hb9 rfl rfl ?_
            refine AOps.nil ?_
            have ej := Option.some.inj hx6
            subst ej
            refine thn_normal ?_
            exact Sub.cut ⟨rfl, rfl, rfl, rfl, rfl, rfl, rfl, rfl, trivial⟩ rfl ⟨.one rfl, .dead, .one rfl, .dead, .one rfl, trivial⟩ rfl
      · replace hx6 := iteBF hb8 hx6
        rcases Bool.eq_false_or_eq_true (decide (a34.code = 0)) with hb11 | hb11
        · replace hx6 := iteDT hb11 hx6
          obtain ⟨a56, ha56, hx6⟩ := bind_some hx6
          obtain ⟨a57, ha57, hx6⟩ := bind_some hx6
          refine AWP.region ?_
          refine W.loadAgg rfl rfl rfl rfl rfl rfl rfl ?_
          refine W.loadAgg rfl rfl rfl rfl rfl rfl rfl ?_
          refine AOps.neqP rfl rfl rfl rfl rfl rfl rfl ?_
          refine AOps.move rfl rfl ?_
          refine AOps.guardT rfl rfl rfl hb7 ?_; refine W.fieldAddr rfl rfl rfl rfl ?_
          refine AOps.guardT rfl rfl rfl hb7 ?_; refine AOps.load rfl rfl rfl rfl rfl rfl ?_
          refine AOps.guardT rfl rfl rfl hb7 ?_; refine AOps.neq rfl rfl rfl ?_
          refine AOps.guardT rfl rfl rfl hb7 ?_; refine AOps.move rfl rfl ?_
          refine AOps.guardF rfl rfl rfl hb8 ?_
          refine AOps.guardF rfl rfl rfl hb8 ?_
          refine AOps.guardF rfl rfl rfl hb8 ?_
          refine AOps.guardT rfl rfl rfl hb7 ?_; refine AOps.pickF rfl hb8 rfl rfl ?_
          refine AOps.pickF rfl hb7 rfl rfl ?_
          refine AOps.move rfl rfl ?_
          refine AOps.guardT rfl rfl rfl rfl ?_; refine W.fieldAddr rfl rfl rfl rfl ?_
          refine AOps.guardT rfl rfl rfl rfl ?_; refine AOps.load rfl rfl rfl rfl rfl rfl ?_
          refine AOps.guardT rfl rfl rfl rfl ?_; refine AOps.eql rfl rfl rfl ?_
          refine AOps.guardT rfl rfl rfl rfl ?_; refine AOps.move rfl rfl ?_
          refine AOps.guardT rfl rfl rfl hb11 ?_; refine AOps.move rfl rfl ?_
          refine AOps.guardT rfl rfl rfl hb11 ?_; refine W.loadAgg rfl rfl rfl rfl rfl rfl rfl ?_
          refine AOps.guardT rfl rfl rfl hb11 ?_; refine AOps.move rfl rfl ?_
          refine AOps.guardT rfl rfl rfl hb11 ?_; refine S.fresh rfl rfl rfl rfl (ref8_Collisions_ok ha56) rfl rfl ?_
          refine AOps.guardT rfl rfl rfl hb11 ?_; refine AOps.callL rfl rfl (.cons (.c .imm) (.cons (.c (.own rfl rfl)) .nil)) rfl (equal_FourInts_ok ha57) rfl ?_
          refine AOps.guardT rfl rfl rfl hb11 ?_; refine AOps.not rfl rfl ?_
          refine AOps.guardT rfl rfl rfl rfl ?_; refine AOps.pickT rfl hb11 rfl rfl ?_
          refine AOps.pickF rfl rfl rfl rfl ?_
          refine AOps.nil ?_
          have ej := Option.some.inj hx6
          subst ej
          refine thn_normal ?_
          exact Sub.cut ⟨rfl, rfl, rfl, rfl, rfl, rfl, rfl, rfl, trivial⟩ rfl ⟨.one rfl, .dead, .one rfl, .dead, .one rfl, trivial⟩ rfl
        · replace hx6 := iteDF hb11 hx6
          refine AWP.region ?_
          refine W.loadAgg rfl rfl rfl rfl rfl rfl rfl ?_
          refine W.loadAgg rfl rfl rfl rfl rfl rfl rfl ?_
          refine AOps.neqP rfl rfl rfl rfl rfl rfl rfl ?_
          refine AOps.move rfl rfl ?_
          refine AOps.guardT rfl rfl rfl hb7 ?_; refine W.fieldAddr rfl rfl rfl rfl ?_
          refine AOps.guardT rfl rfl rfl hb7 ?_; refine AOps.load rfl rfl rfl rfl rfl rfl ?_
          refine AOps.guardT rfl rfl rfl hb7 ?_; refine AOps.neq rfl rfl rfl ?_
          refine AOps.guardT rfl rfl rfl hb7 ?_; refine AOps.move rfl rfl ?_
          refine AOps.guardF rfl rfl rfl hb8 ?_
          refine AOps.guardF rfl rfl rfl hb8 ?_
          refine AOps.guardF rfl rfl rfl hb8 ?_
          refine AOps.guardT rfl rfl rfl hb7 ?_; refine AOps.pickF rfl hb8 rfl rfl ?_
          refine AOps.pickF rfl hb7 rfl rfl ?_
          refine AOps.move rfl rfl ?_
          refine AOps.guardT rfl rfl rfl rfl ?_; refine W.fieldAddr rfl rfl rfl rfl ?_
          refine AOps.guardT rfl rfl rfl rfl ?_; refine AOps.load rfl rfl rfl rfl rfl rfl ?_
          refine AOps.guardT rfl rfl rfl rfl ?_; refine AOps.eql rfl rfl rfl ?_
          refine AOps.guardT rfl rfl rfl rfl ?_; refine AOps.move rfl rfl ?_
          refine AOps.guardF rfl rfl rfl hb11 ?_
          refine AOps.guardF rfl rfl rfl hb11 ?_
          refine AOps.guardF rfl rfl rfl hb11 ?_
          refine AOps.guardF rfl rfl rfl hb11 ?_
          refine AOps.guardF rfl rfl rfl hb11 ?_
          refine AOps.guardF rfl rfl rfl hb11 ?_
          refine AOps.guardT rfl rfl rfl rfl ?_; refine AOps.pickF rfl hb11 rfl rfl ?_
          refine AOps.pickF rfl rfl rfl rfl ?_
          refine AOps.nil ?_
          have ej := Option.some.inj hx6
          subst ej
          refine thn_normal ?_
          exact Sub.cut ⟨rfl, rfl, rfl, rfl, rfl, rfl, rfl, rfl, trivial⟩ rfl ⟨.one rfl, .dead, .one rfl, .dead, .one rfl, trivial⟩ rfl
  · refine AWP.iteB rfl h (fun hc12 h => ?_) (fun hc12 h => ?_)
    · refine AWP.seq ?_
      refine AWP.region ?_
      refine AOps.assign rfl rfl ?_
      refine AOps.nil ?_
      refine thn_normal ?_
      refine AWP.ret ?_
      refine thn_ret ?_
      have ej := Option.some.inj h
      subst ej
      exact Done.ret rfl rfl
    · refine AWP.skip ?_
      refine thn_normal ?_
      refine AWP.seq ?_
      obtain ⟨a64, ha64, h⟩ := bind_some h
      refine AWP.region ?_
      refine W.loadAgg rfl rfl rfl rfl rfl rfl rfl ?_
      refine AOps.move rfl rfl ?_
      refine AOps.move rfl rfl ?_
      refine AOps.callR rfl rfl rfl rfl (ref8_PartiesFault_ok ha64) rfl ?_
      refine W.storeAgg rfl rfl rfl rfl rfl rfl rfl ?_
      refine AOps.nil ?_
      refine thn_normal ?_
      obtain ⟨⟨c13, c14⟩, hx15, h⟩ := bind_some h
      refine AWP.seqJ (⟨[(1, .c (row 1 eLi64 goals)), (2, .c (row 1 eLi64 plans)), (3, .c (row 1 intI turns)), (4, .c (.ptr 0 0 0)), (11, .c (bool a26.1)), (12, .c (.ptr 2 0 0)), (13, .c (.ptr 4 0 0))], [.one (.cells 4 [[int t.facts, row 1 intI t.init, row 1 intI t.goal, row 4 eTOperator t.operators]]), .dead, .one (.cells 2 [[int a26.2.code, int a26.2.index]]), .dead, .one (.cells 2 [[int c13, int c14]])]⟩) ?_ ?_
      · refine AWP.seqJ (⟨[(1, .c (row 1 eLi64 goals)), (2, .c (row 1 eLi64 plans)), (3, .c (row 1 intI turns)), (4, .c (.ptr 0 0 0)), (11, .c (bool a26.1)), (12, .c (.ptr 2 0 0)), (13, .c (.ptr 4 0 0)), (72, .c (bool ((decide (a64.code = 0)) && (decide (60 < (turns.length : Int))))))], [.one (.cells 4 [[int t.facts, row 1 intI t.init, row 1 intI t.goal, row 4 eTOperator t.operators]]), .dead, .one (.cells 2 [[int a26.2.code, int a26.2.index]]), .dead, .one (.cells 2 [[int a64.code, int a64.index]])]⟩) ?_ ?_
        · rcases Bool.eq_false_or_eq_true (decide (a64.code = 0)) with hb1 | hb1
          · refine AWP.region ?_
            refine W.fieldAddr rfl rfl rfl rfl ?_
            refine AOps.load rfl rfl rfl rfl rfl rfl ?_
            refine AOps.eql rfl rfl rfl ?_
            refine AOps.move rfl rfl ?_
            refine AOps.guardT rfl rfl rfl hb1 ?_; refine AOps.move rfl rfl ?_
            refine AOps.guardT rfl rfl rfl hb1 ?_; refine S.len rfl rfl (fun hl70 => ?_)
            refine AOps.guardT rfl rfl rfl hb1 ?_; refine AOps.gtr rfl rfl rfl ?_
            refine AOps.pickT rfl hb1 rfl rfl ?_
            refine AOps.nil ?_
            refine thn_normal ?_
            simp only [and_t hb1, or_t hb1, Bool.false_or, Bool.true_or, Bool.false_and, Bool.true_and]
            exact Sub.env ⟨rfl, rfl, rfl, rfl, rfl, rfl, rfl, rfl, trivial⟩
          · refine AWP.region ?_
            refine W.fieldAddr rfl rfl rfl rfl ?_
            refine AOps.load rfl rfl rfl rfl rfl rfl ?_
            refine AOps.eql rfl rfl rfl ?_
            refine AOps.move rfl rfl ?_
            refine AOps.guardF rfl rfl rfl hb1 ?_
            refine AOps.guardF rfl rfl rfl hb1 ?_
            refine AOps.guardF rfl rfl rfl hb1 ?_
            refine AOps.pickF rfl hb1 rfl rfl ?_
            refine AOps.nil ?_
            refine thn_normal ?_
            simp only [and_f hb1, or_f hb1, Bool.false_or, Bool.true_or, Bool.false_and, Bool.true_and]
            exact Sub.env ⟨rfl, rfl, rfl, rfl, rfl, rfl, rfl, rfl, trivial⟩
        · refine AWP.iteB rfl hx15 (fun hc16 hx15 => ?_) (fun hc16 hx15 => ?_)
          · obtain ⟨a73, ha73, hx15⟩ := bind_some hx15
            refine AWP.region ?_
            refine AOps.callR rfl rfl rfl rfl (ref1_At_ok ha73) rfl ?_
            refine W.storeAgg rfl rfl rfl rfl rfl rfl rfl ?_
            refine AOps.nil ?_
            have ej := Option.some.inj hx15
            simp only [Prod.mk.injEq] at ej
            obtain ⟨ej0, ej1⟩ := ej
            subst ej0
            subst ej1
            refine thn_normal ?_
            exact Sub.env ⟨rfl, rfl, rfl, rfl, rfl, rfl, rfl, trivial⟩
          · refine AWP.skip ?_
            have ej := Option.some.inj hx15
            simp only [Prod.mk.injEq] at ej
            obtain ⟨ej0, ej1⟩ := ej
            subst ej0
            subst ej1
            refine thn_normal ?_
            exact Sub.env ⟨rfl, rfl, rfl, rfl, rfl, rfl, rfl, trivial⟩
      · try dsimp only at h
        refine AWP.seq ?_
        refine AWP.seq ?_
        refine AWP.region ?_
        refine AOps.assign rfl rfl ?_
        refine AOps.nil ?_
        refine thn_normal ?_
        refine AWP.block ?_
        obtain ⟨⟨c20, c21⟩, ho1, h⟩ := bind_some h
        try dsimp only at h
        refine AWP.loopS ho1 (fun (c17, c18, iv19) => ⟨[(1, .c (row 1 eLi64 goals)), (2, .c (row 1 eLi64 plans)), (3, .c (row 1 intI turns)), (4, .c (.ptr 0 0 0)), (11, .c (bool a26.1)), (12, .c (.ptr 2 0 0)), (13, .c (.ptr 4 0 0)), (14, .c (int iv19))], [.one (.cells 4 [[int t.facts, row 1 intI t.init, row 1 intI t.goal, row 4 eTOperator t.operators]]), .dead, .one (.cells 2 [[int a26.2.code, int a26.2.index]]), .dead, .one (.cells 2 [[int c17, int c18]])]⟩) (fun (c20, c21) e st => e = .exit 0 ∧ Sub [] st ⟨[(1, .c (row 1 eLi64 goals)), (2, .c (row 1 eLi64 plans)), (3, .c (row 1 intI turns)), (4, .c (.ptr 0 0 0)), (11, .c (bool a26.1)), (12, .c (.ptr 2 0 0)), (13, .c (.ptr 4 0 0))], [.one (.cells 4 [[int t.facts, row 1 intI t.init, row 1 intI t.goal, row 4 eTOperator t.operators]]), .dead, .one (.cells 2 [[int a26.2.code, int a26.2.index]]), .dead, .one (.cells 2 [[int c20, int c21]])]⟩) ?_ ?_ ?_
        · try dsimp only
          exact Sub.env ⟨rfl, rfl, rfl, rfl, rfl, rfl, rfl, rfl, trivial⟩
        · intro s o h
          obtain ⟨c17, c18, iv19⟩ := s
          unfold law8_MergingMatchesSpec_l1 at h
          try dsimp only at h ⊢
          refine AWP.seq ?_
          refine AWP.seqJ (⟨[(1, .c (row 1 eLi64 goals)), (2, .c (row 1 eLi64 plans)), (3, .c (row 1 intI turns)), (4, .c (.ptr 0 0 0)), (11, .c (bool a26.1)), (12, .c (.ptr 2 0 0)), (13, .c (.ptr 4 0 0)), (14, .c (int iv19)), (82, .c (bool ((decide (iv19 < (turns.length : Int))) && (decide (c17 = 0)))))], [.one (.cells 4 [[int t.facts, row 1 intI t.init, row 1 intI t.goal, row 4 eTOperator t.operators]]), .dead, .one (.cells 2 [[int a26.2.code, int a26.2.index]]), .dead, .one (.cells 2 [[int c17, int c18]])]⟩) ?_ ?_
          · rcases Bool.eq_false_or_eq_true (decide (iv19 < (turns.length : Int))) with hb1 | hb1
            · refine AWP.region ?_
              refine AOps.move rfl rfl ?_
              refine AOps.move rfl rfl ?_
              refine S.len rfl rfl (fun hl76 => ?_)
              refine AOps.lss rfl rfl rfl ?_
              refine AOps.move rfl rfl ?_
              refine AOps.guardT rfl rfl rfl hb1 ?_; refine W.fieldAddr rfl rfl rfl rfl ?_
              refine AOps.guardT rfl rfl rfl hb1 ?_; refine AOps.load rfl rfl rfl rfl rfl rfl ?_
              refine AOps.guardT rfl rfl rfl hb1 ?_; refine AOps.eql rfl rfl rfl ?_
              refine AOps.pickT rfl hb1 rfl rfl ?_
              refine AOps.nil ?_
              refine thn_normal ?_
              simp only [and_t hb1, or_t hb1, Bool.false_or, Bool.true_or, Bool.false_and, Bool.true_and]
              exact Sub.env ⟨rfl, rfl, rfl, rfl, rfl, rfl, rfl, rfl, rfl, trivial⟩
            · refine AWP.region ?_
              refine AOps.move rfl rfl ?_
              refine AOps.move rfl rfl ?_
              refine S.len rfl rfl (fun hl76 => ?_)
              refine AOps.lss rfl rfl rfl ?_
              refine AOps.move rfl rfl ?_
              refine AOps.guardF rfl rfl rfl hb1 ?_
              refine AOps.guardF rfl rfl rfl hb1 ?_
              refine AOps.guardF rfl rfl rfl hb1 ?_
              refine AOps.pickF rfl hb1 rfl rfl ?_
              refine AOps.nil ?_
              refine thn_normal ?_
              simp only [and_f hb1, or_f hb1, Bool.false_or, Bool.true_or, Bool.false_and, Bool.true_and]
              exact Sub.env ⟨rfl, rfl, rfl, rfl, rfl, rfl, rfl, rfl, rfl, trivial⟩
          · refine AWP.iteB rfl h (fun hc22 h => ?_) (fun hc22 h => ?_)
            · refine AWP.skip ?_
              refine thn_normal ?_
              obtain ⟨⟨c23, c24⟩, hx25, h⟩ := bind_some h
              refine AWP.seqJ (⟨[(1, .c (row 1 eLi64 goals)), (2, .c (row 1 eLi64 plans)), (3, .c (row 1 intI turns)), (4, .c (.ptr 0 0 0)), (11, .c (bool a26.1)), (12, .c (.ptr 2 0 0)), (13, .c (.ptr 4 0 0)), (14, .c (int iv19))], [.one (.cells 4 [[int t.facts, row 1 intI t.init, row 1 intI t.goal, row 4 eTOperator t.operators]]), .dead, .one (.cells 2 [[int a26.2.code, int a26.2.index]]), .dead, .one (.cells 2 [[int c23, int c24]])]⟩) ?_ ?_
              · refine AWP.block ?_
                refine AWP.seq ?_
                obtain ⟨a87, ha87, hx25⟩ := bind_some hx25
                obtain ⟨a92, ha92, hx25⟩ := bind_some hx25
                refine AWP.region ?_
                refine AOps.move rfl rfl ?_
                refine AOps.move rfl rfl ?_
                refine S.idx ha87 rfl rfl rfl rfl ?_
                refine AOps.loadI rfl rfl rfl rfl ?_
                refine AOps.move rfl rfl ?_
                refine S.len rfl rfl (fun hl90 => ?_)
                refine AOps.sub' rfl rfl rfl (by omega) ?_
                refine AOps.callR rfl rfl rfl rfl (ref1_In_ok ha92) rfl ?_
                refine AOps.not rfl rfl ?_
                refine AOps.nil ?_
                refine thn_normal ?_
                refine AWP.iteB rfl hx25 (fun hc26 hx25 => ?_) (fun hc26 hx25 => ?_)
                · obtain ⟨a94, ha94, hx25⟩ := bind_some hx25
                  refine AWP.region ?_
                  refine AOps.callR rfl rfl rfl rfl (ref1_At_ok ha94) rfl ?_
                  refine W.storeAgg rfl rfl rfl rfl rfl rfl rfl ?_
                  refine AOps.nil ?_
                  refine inB_normal ?_
                  have ej := Option.some.inj hx25
                  simp only [Prod.mk.injEq] at ej
                  obtain ⟨ej0, ej1⟩ := ej
                  subst ej0
                  subst ej1
                  refine thn_normal ?_
                  exact Sub.env ⟨rfl, rfl, rfl, rfl, rfl, rfl, rfl, rfl, trivial⟩
                · refine AWP.skip ?_
                  refine inB_normal ?_
                  have ej := Option.some.inj hx25
                  simp only [Prod.mk.injEq] at ej
                  obtain ⟨ej0, ej1⟩ := ej
                  subst ej0
                  subst ej1
                  refine thn_normal ?_
                  exact Sub.env ⟨rfl, rfl, rfl, rfl, rfl, rfl, rfl, rfl, trivial⟩
              · try dsimp only at h
                refine AWP.region ?_
                refine AOps.move rfl rfl ?_
                refine S.add rfl rfl rfl ?_
                refine AOps.assign rfl rfl ?_
                refine AOps.nil ?_
                have ej := Option.some.inj h
                subst ej
                refine thn_normal ⟨_, rfl, ?_⟩
                exact Sub.env ⟨rfl, rfl, rfl, rfl, rfl, rfl, rfl, rfl, trivial⟩
            · refine AWP.exit ?_
              refine thn_exit ?_
              have ej := Option.some.inj h
              subst ej
              refine thn_exit ⟨_, rfl, rfl, ?_⟩
              exact Sub.env ⟨rfl, rfl, rfl, rfl, rfl, rfl, rfl, trivial⟩
        · intro e s hq
          obtain ⟨rfl, hs⟩ := hq
          refine ⟨_, hs, ?_⟩
          refine inB_exit ?_
          refine thn_normal ?_
          refine AWP.seq ?_
          refine AWP.seq ?_
          refine AWP.region ?_
          refine W.fieldAddr rfl rfl rfl rfl ?_
          refine AOps.load rfl rfl rfl rfl rfl rfl ?_
          refine AOps.neq rfl rfl rfl ?_
          refine AOps.nil ?_
          refine thn_normal ?_
          refine AWP.iteN rfl h (fun hc27 h => ?_) (fun hc27 h => ?_)
          · obtain ⟨t28, hx29, h⟩ := bind_some h
            refine AWP.seqJ (⟨[(8, .c (bool t28))], []⟩) ?_ ?_
            · rcases Bool.eq_false_or_eq_true ((decide (a26.2.code = c20)) && (decide (a26.2.index = c21))) with hb30 | hb30
              · replace hx29 := iteBT hb30 hx29
                rcases Bool.eq_false_or_eq_true (!a26.1) with hb31 | hb31
                · replace hx29 := iteBT hb31 hx29
                  obtain ⟨a106, ha106, hx29⟩ := bind_some hx29
                  refine AWP.region ?_
                  refine W.loadAgg rfl rfl rfl rfl rfl rfl rfl ?_
                  refine W.loadAgg rfl rfl rfl rfl rfl rfl rfl ?_
                  refine AOps.eqlP rfl rfl rfl rfl rfl rfl rfl ?_
                  refine AOps.move rfl rfl ?_
                  refine AOps.guardT rfl rfl rfl hb30 ?_; refine AOps.move rfl rfl ?_
                  refine AOps.guardT rfl rfl rfl hb30 ?_; refine AOps.not rfl rfl ?_
                  refine AOps.pickT rfl hb30 rfl rfl ?_
                  refine AOps.move rfl rfl ?_
                  refine AOps.guardT rfl rfl rfl hb31 ?_; refine AOps.callR rfl rfl rfl rfl (law8_merged_ok ha106) rfl ?_
                  refine AOps.pickT rfl hb31 rfl rfl ?_
                  refine AOps.assign rfl rfl ?_
                  refine AOps.nil ?_
                  have ej := Option.some.inj hx29
                  subst ej
                  refine thn_normal ?_
                  exact Sub.cut ⟨rfl, trivial⟩ rfl trivial rfl
                · replace hx29 := iteBF hb31 hx29
                  refine AWP.region ?_
                  refine W.loadAgg rfl rfl rfl rfl rfl rfl rfl ?_
                  refine W.loadAgg rfl rfl rfl rfl rfl rfl rfl ?_
                  refine AOps.eqlP rfl rfl rfl rfl rfl rfl rfl ?_
                  refine AOps.move rfl rfl ?_
                  refine AOps.guardT rfl rfl rfl hb30 ?_; refine AOps.move rfl rfl ?_
                  refine AOps.guardT rfl rfl rfl hb30 ?_; refine AOps.not rfl rfl ?_
                  refine AOps.pickT rfl hb30 rfl rfl ?_
                  refine AOps.move rfl rfl ?_
                  refine AOps.guardF rfl rfl rfl hb31 ?_
                  refine AOps.pickF rfl hb31 rfl rfl ?_
                  refine AOps.assign rfl rfl ?_
                  refine AOps.nil ?_
                  have ej := Option.some.inj hx29
                  subst ej
                  refine thn_normal ?_
                  exact Sub.cut ⟨rfl, trivial⟩ rfl trivial rfl
              · replace hx29 := iteBF hb30 hx29
                refine AWP.region ?_
                refine W.loadAgg rfl rfl rfl rfl rfl rfl rfl ?_
                refine W.loadAgg rfl rfl rfl rfl rfl rfl rfl ?_
                refine AOps.eqlP rfl rfl rfl rfl rfl rfl rfl ?_
                refine AOps.move rfl rfl ?_
                refine AOps.guardF rfl rfl rfl hb30 ?_
                refine AOps.guardF rfl rfl rfl hb30 ?_
                refine AOps.pickF rfl hb30 rfl rfl ?_
                refine AOps.move rfl rfl ?_
                refine AOps.guardF rfl rfl rfl rfl ?_
                refine AOps.pickF rfl rfl rfl rfl ?_
                refine AOps.assign rfl rfl ?_
                refine AOps.nil ?_
                have ej := Option.some.inj hx29
                subst ej
                refine thn_normal ?_
                exact Sub.cut ⟨rfl, trivial⟩ rfl trivial rfl
            · refine AWP.ret ?_
              refine thn_ret ?_
              have ej := Option.some.inj h
              subst ej
              exact Done.ret rfl rfl
          · refine AWP.skip ?_
            refine thn_normal ?_
            obtain ⟨t32, hx33, h⟩ := bind_some h
            refine AWP.seqJ (⟨[(8, .c (bool t32))], []⟩) ?_ ?_
            · rcases Bool.eq_false_or_eq_true (decide (a26.2.code = 0)) with hb34 | hb34
              · replace hx33 := iteDT hb34 hx33
                obtain ⟨a117, ha117, hx33⟩ := bind_some hx33
                rcases Bool.eq_false_or_eq_true (decide (a26.1 = a117)) with hb35 | hb35
                · replace hx33 := iteDT hb35 hx33
                  obtain ⟨a121, ha121, hx33⟩ := bind_some hx33
                  refine AWP.region ?_
                  refine W.fieldAddr rfl rfl rfl rfl ?_
                  refine AOps.load rfl rfl rfl rfl rfl rfl ?_
                  refine AOps.eql rfl rfl rfl ?_
                  refine AOps.move rfl rfl ?_
                  refine AOps.guardT rfl rfl rfl hb34 ?_; refine AOps.move rfl rfl ?_
                  refine AOps.guardT rfl rfl rfl hb34 ?_; refine W.loadAgg rfl rfl rfl rfl rfl rfl rfl ?_
                  refine AOps.guardT rfl rfl rfl hb34 ?_; refine AOps.move rfl rfl ?_
                  refine AOps.guardT rfl rfl rfl hb34 ?_; refine AOps.move rfl rfl ?_
                  refine AOps.guardT rfl rfl rfl hb34 ?_; refine AOps.move rfl rfl ?_
                  refine AOps.guardT rfl rfl rfl hb34 ?_; refine AOps.callR rfl rfl rfl rfl (ref8_TurnsWork_ok ha117) rfl ?_
                  refine AOps.guardT rfl rfl rfl hb34 ?_; refine AOps.eqlB rfl rfl rfl ?_
                  refine AOps.pickT rfl hb34 rfl rfl ?_
                  refine AOps.move rfl rfl ?_
                  refine AOps.guardT rfl rfl rfl hb35 ?_; refine AOps.callR rfl rfl rfl rfl (law8_merged_ok ha121) rfl ?_
                  refine AOps.pickT rfl hb35 rfl rfl ?_
                  refine AOps.assign rfl rfl ?_
                  refine AOps.nil ?_
                  have ej := Option.some.inj hx33
                  subst ej
                  refine thn_normal ?_
                  exact Sub.cut ⟨rfl, trivial⟩ rfl trivial rfl
                · replace hx33 := iteDF hb35 hx33
                  refine AWP.region ?_
                  refine W.fieldAddr rfl rfl rfl rfl ?_
                  refine AOps.load rfl rfl rfl rfl rfl rfl ?_
                  refine AOps.eql rfl rfl rfl ?_
                  refine AOps.move rfl rfl ?_
                  refine AOps.guardT rfl rfl rfl hb34 ?_; refine AOps.move rfl rfl ?_
                  refine AOps.guardT rfl rfl rfl hb34 ?_; refine W.loadAgg rfl rfl rfl rfl rfl rfl rfl ?_
                  refine AOps.guardT rfl rfl rfl hb34 ?_; refine AOps.move rfl rfl ?_
                  refine AOps.guardT rfl rfl rfl hb34 ?_; refine AOps.move rfl rfl ?_
                  refine AOps.guardT rfl rfl rfl hb34 ?_; refine AOps.move rfl rfl ?_
                  refine AOps.guardT rfl rfl rfl hb34 ?_; refine AOps.callR rfl rfl rfl rfl (ref8_TurnsWork_ok ha117) rfl ?_
                  refine AOps.guardT rfl rfl rfl hb34 ?_; refine AOps.eqlB rfl rfl rfl ?_
                  refine AOps.pickT rfl hb34 rfl rfl ?_
                  refine AOps.move rfl rfl ?_
                  refine AOps.guardF rfl rfl rfl hb35 ?_
                  refine AOps.pickF rfl hb35 rfl rfl ?_
                  refine AOps.assign rfl rfl ?_
                  refine AOps.nil ?_
                  have ej := Option.some.inj hx33
                  subst ej
                  refine thn_normal ?_
                  exact Sub.cut ⟨rfl, trivial⟩ rfl trivial rfl
              · replace hx33 := iteDF hb34 hx33
                refine AWP.region ?_
                refine W.fieldAddr rfl rfl rfl rfl ?_
                refine AOps.load rfl rfl rfl rfl rfl rfl ?_
                refine AOps.eql rfl rfl rfl ?_
                refine AOps.move rfl rfl ?_
                refine AOps.guardF rfl rfl rfl hb34 ?_
                refine AOps.guardF rfl rfl rfl hb34 ?_
                refine AOps.guardF rfl rfl rfl hb34 ?_
                refine AOps.guardF rfl rfl rfl hb34 ?_
                refine AOps.guardF rfl rfl rfl hb34 ?_
                refine AOps.guardF rfl rfl rfl hb34 ?_
                refine AOps.guardF rfl rfl rfl hb34 ?_
                refine AOps.pickF rfl hb34 rfl rfl ?_
                refine AOps.move rfl rfl ?_
                refine AOps.guardF rfl rfl rfl rfl ?_
                refine AOps.pickF rfl rfl rfl rfl ?_
                refine AOps.assign rfl rfl ?_
                refine AOps.nil ?_
                have ej := Option.some.inj hx33
                subst ej
                refine thn_normal ?_
                exact Sub.cut ⟨rfl, trivial⟩ rfl trivial rfl
            · refine AWP.ret ?_
              have ej := Option.some.inj h
              subst ej
              exact Done.ret rfl rfl
end Ab
end
section
namespace Ab
open Go
theorem ix_nat {α : Type} {l : List α} {k : Nat} : ix l (k : Int) = l[k]? := by simp [ix]
theorem ix_of {α : Type} {l : List α} {i : Int} (h0 : 0 ≤ i) (h1 : i < l.length) : ∃ a, ix l i = some a ∧ l[i.toNat]? = some a := by
  have h : i.toNat < l.length := by omega
  exact ⟨l[i.toNat], by simp [ix, h0, h], by simp [h]⟩
theorem ix_lo {α : Type} {l : List α} {i : Int} {a : α} (h : ix l i = some a) : 0 ≤ i ∧ i < l.length ∧ l[i.toNat]? = some a := by
  unfold ix at h
  split at h
  · have := (List.getElem?_eq_some_iff.1 h).1
    exact ⟨by assumption, by omega, h⟩
  · cases h
theorem w64_of {n : Int} (h1 : -9223372036854775808 ≤ n) (h2 : n ≤ 9223372036854775807) : w64 n = n := w64_eq ⟨h1, h2⟩
theorem forN_inv {S : Type} {body : Int → S → Option S} (P : Int → S → Prop) : ∀ (k : Nat) (i : Int) (s : S), P i s →
    (∀ j s, i ≤ j → j < i + k → P j s → ∃ s', body j s = some s' ∧ P (j + 1) s') → ∃ s', forN body k i s = some s' ∧ P (i + k) s'
  | 0, i, s, h, _ => ⟨s, rfl, by simpa using h⟩
  | k + 1, i, s, h, hb => by
    obtain ⟨s1, h1, h2⟩ := hb i s (Int.le_refl _) (by omega) h
    obtain ⟨s2, h3, h4⟩ := forN_inv P k (i + 1) s1 h2 (fun j s g1 g2 => hb j s (by omega) (by omega))
    exact ⟨s2, by simp only [forN, h1]; exact h3, by rw [show i + ((k + 1 : Nat) : Int) = i + 1 + k by omega]; exact h4⟩
/-- A loop over numbers, from what it keeps. -/
theorem forR_inv {S : Type} {body : Int → S → Option S} {n : Int} (P : Int → S → Prop) {s : S} (hn : 0 ≤ n) (h0 : P 0 s)
    (hb : ∀ j s, 0 ≤ j → j < n → P j s → ∃ s', body j s = some s' ∧ P (j + 1) s') : ∃ s', forR 0 n body s = some s' ∧ P n s' := by
  obtain ⟨s', h1, h2⟩ := forN_inv P (n - 0).toNat 0 s h0 (fun j s g1 g2 => hb j s g1 (by omega))
  exact ⟨s', h1, by rwa [show (0 : Int) + ((n - 0).toNat : Int) = n by omega] at h2⟩
theorem rngN_inv {S O : Type} {body : Int → S → Option (S ⊕ O)} (P : Int → S → Prop) (Q : O → Prop) : ∀ (k : Nat) (i : Int) (s : S), P i s →
    (∀ j s, i ≤ j → j < i + k → P j s → (∃ s', body j s = some (.inl s') ∧ P (j + 1) s') ∨ ∃ o, body j s = some (.inr o) ∧ Q o) →
    (∃ s', rngN body k i s = some (.inl s') ∧ P (i + k) s') ∨ ∃ o, rngN body k i s = some (.inr o) ∧ Q o
  | 0, i, s, h, _ => .inl ⟨s, rfl, by simpa using h⟩
  | k + 1, i, s, h, hb => by
    rcases hb i s (Int.le_refl _) (by omega) h with ⟨s1, h1, h2⟩ | ⟨o, h1, h2⟩
    · rcases rngN_inv P Q k (i + 1) s1 h2 (fun j s g1 g2 => hb j s (by omega) (by omega)) with ⟨s2, h3, h4⟩ | ⟨o, h3, h4⟩
      · exact .inl ⟨s2, by simp only [rngN, h1]; exact h3, by rw [show i + ((k + 1 : Nat) : Int) = i + 1 + k by omega]; exact h4⟩
      · exact .inr ⟨o, by simp only [rngN, h1]; exact h3, h4⟩
    · exact .inr ⟨o, by simp only [rngN, h1], h2⟩
/-- A loop over numbers with ways out, from what it keeps. -/
theorem rngX_inv {S O : Type} {body : Int → S → Option (S ⊕ O)} {n : Int} (P : Int → S → Prop) (Q : O → Prop) {s : S} (hn : 0 ≤ n) (h0 : P 0 s)
    (hb : ∀ j s, 0 ≤ j → j < n → P j s → (∃ s', body j s = some (.inl s') ∧ P (j + 1) s') ∨ ∃ o, body j s = some (.inr o) ∧ Q o) :
    (∃ s', rngX 0 n body s = some (.inl s') ∧ P n s') ∨ ∃ o, rngX 0 n body s = some (.inr o) ∧ Q o := by
  rcases rngN_inv P Q (n - 0).toNat 0 s h0 (fun j s g1 g2 => hb j s g1 (by omega)) with ⟨s', h1, h2⟩ | h
  · exact .inl ⟨s', h1, by rwa [show (0 : Int) + ((n - 0).toNat : Int) = n by omega] at h2⟩
  · exact .inr h
/-- A loop that tests: all pass. -/
theorem rngX_all {O : Type} {body : Int → Unit → Option (Unit ⊕ O)} {n : Int} (hn : 0 ≤ n) (hb : ∀ j, 0 ≤ j → j < n → body j () = some (.inl ())) : rngX 0 n body () = some (.inl ()) := by
  rcases rngX_inv (body := body) (fun _ _ => True) (fun _ => False) (s := ()) hn trivial (fun j s g1 g2 _ => .inl ⟨(), hb j g1 g2, trivial⟩) with ⟨s', h, _⟩ | ⟨o, _, h⟩
  · exact h
  · exact h.elim
theorem LoopN_inv {S O : Type} {body : S → Option (S ⊕ O)} (P : S → Prop) (Q : O → Prop) (μ : S → Nat) (hb : ∀ s, P s → (∃ s', body s = some (.inl s') ∧ P s' ∧ μ s' < μ s) ∨ ∃ o, body s = some (.inr o) ∧ Q o) :
    ∀ (k : Nat) (s : S), μ s < k → P s → ∃ o, LoopN body k s = some o ∧ Q o
  | 0, s, h, _ => by omega
  | k + 1, s, h, hs => by
    rcases hb s hs with ⟨s', h1, h2, h3⟩ | ⟨o, h1, h2⟩
    · obtain ⟨o, g1, g2⟩ := LoopN_inv P Q μ hb k s' (by omega) h2
      exact ⟨o, by simp only [LoopN, h1]; exact g1, g2⟩
    · exact ⟨o, by simp only [LoopN, h1], h2⟩
/-- A loop, from what it keeps and a measure that sinks. -/
theorem Loop_inv {S O : Type} {body : S → Option (S ⊕ O)} (P : S → Prop) (Q : O → Prop) (μ : S → Nat) {s : S} (hs : P s)
    (hb : ∀ s, P s → (∃ s', body s = some (.inl s') ∧ P s' ∧ μ s' < μ s) ∨ ∃ o, body s = some (.inr o) ∧ Q o) : ∃ o, Loop body s = some o ∧ Q o := by
  obtain ⟨o, h1, h2⟩ := LoopN_inv P Q μ hb (μ s + 1) s (by omega) hs
  exact ⟨o, Loop_iff.2 ⟨_, h1⟩, h2⟩
/-! ### Two loops that do the same -/
theorem rngN_eq {S O : Type} {b1 b2 : Int → S → Option (S ⊕ O)} (P : Int → S → Prop) : ∀ (k : Nat) (i : Int) (s : S), P i s →
    (∀ j s, i ≤ j → j < i + k → P j s → b1 j s = b2 j s ∧ b1 j s ≠ none ∧ ∀ s', b1 j s = some (.inl s') → P (j + 1) s') →
    rngN b1 k i s = rngN b2 k i s ∧ rngN b1 k i s ≠ none ∧ ∀ s', rngN b1 k i s = some (.inl s') → P (i + k) s'
  | 0, i, s, h, _ => ⟨rfl, by simp [rngN], fun s' hs => by simp only [rngN, Option.some.injEq, Sum.inl.injEq] at hs; subst hs; simpa using h⟩
  | k + 1, i, s, h, hb => by
    obtain ⟨h1, h2, h3⟩ := hb i s (Int.le_refl _) (by omega) h
    simp only [rngN]
    rw [← h1]
    cases hc : b1 i s with
    | none => exact absurd hc h2
    | some x =>
      cases x with
      | inr o => exact ⟨rfl, by simp, fun s' hs => by simp at hs⟩
      | inl s1 =>
        dsimp only
        have := rngN_eq (b1 := b1) (b2 := b2) P k (i + 1) s1 (h3 s1 hc) (fun j s g1 g2 => hb j s (by omega) (by omega))
        rwa [show i + 1 + (k : Int) = i + ((k + 1 : Nat) : Int) by omega] at this
theorem rngX_eq {S O : Type} {b1 b2 : Int → S → Option (S ⊕ O)} {n : Int} (P : Int → S → Prop) {s : S} (hn : 0 ≤ n) (h0 : P 0 s)
    (hb : ∀ j s, 0 ≤ j → j < n → P j s → b1 j s = b2 j s ∧ b1 j s ≠ none ∧ ∀ s', b1 j s = some (.inl s') → P (j + 1) s') :
    rngX 0 n b1 s = rngX 0 n b2 s ∧ rngX 0 n b1 s ≠ none ∧ ∀ s', rngX 0 n b1 s = some (.inl s') → P n s' := by
  have := rngN_eq P (n - 0).toNat 0 s h0 (fun j s g1 g2 => hb j s g1 (by omega))
  rwa [show (0 : Int) + ((n - 0).toNat : Int) = n by omega] at this
end Ab
end
section
namespace Ab
open Go
/-- A proposition as' a truth value. -/
noncomputable def dec (p : Prop) : Bool := @decide p (Classical.propDecidable p)
@[simp] theorem dec_true {p : Prop} : dec p = true ↔ p := by simp [dec]
@[simp] theorem dec_false {p : Prop} : dec p = false ↔ ¬ p := by simp [dec]
@[simp] theorem dec_not {p : Prop} : (!dec p) = dec (¬ p) := by by_cases h : p <;> simp [dec, h]
theorem decide_dec {p : Prop} [Decidable p] : decide p = dec p := by by_cases h : p <;> simp [dec, h]
theorem dec_of {p : Prop} (h : p) : dec p = true := dec_true.2 h
theorem dec_no {p : Prop} (h : ¬ p) : dec p = false := dec_false.2 h
theorem dec_congr {p q : Prop} (h : p ↔ q) : dec p = dec q := by rw [propext h]
theorem dec_and {p q : Prop} : (dec p && dec q) = dec (p ∧ q) := by by_cases h : p <;> by_cases g : q <;> simp [dec, h, g]
theorem ifP {α : Type} {p : Prop} {a b : α} (h : p) : (if dec p = true then a else b) = a := if_pos (dec_of h)
theorem ifN {α : Type} {p : Prop} {a b : α} (h : ¬ p) : (if dec p = true then a else b) = b := if_neg fun g => h (dec_true.1 g)
theorem ifNN {α : Type} {p : Prop} {a b : α} (h : p) : (if dec (¬ p) = true then a else b) = b := ifN (not_not_intro h)
theorem ix_mem {α : Type} {l : List α} {i : Int} {a : α} (h : ix l i = some a) : a ∈ l := List.mem_of_getElem? (ix_lo h).2.2
theorem mem_ix {α : Type} {l : List α} {a : α} (h : a ∈ l) : ∃ i : Int, 0 ≤ i ∧ i < l.length ∧ ix l i = some a := by
  obtain ⟨k, hk⟩ := List.getElem?_of_mem h
  exact ⟨k, by omega, by have := (List.getElem?_eq_some_iff.1 hk).1; omega, by rw [ix_nat, hk]⟩
theorem ix_put {α : Type} {l : List α} {i j : Int} {x : α} (h0 : 0 ≤ i) (h1 : i < l.length) (hj : 0 ≤ j) : ix (l.set i.toNat x) j = if j = i then some x else ix l j := by
  simp only [ix, hj, if_true, List.getElem?_set]
  by_cases h : j = i
  · subst h; rw [if_pos rfl, if_pos rfl, if_pos (by omega)]
  · rw [if_neg h, if_neg (by omega)]
/-- A loop that tests: the first number that fails ends it. -/
theorem rngX_test {O : Type} {body : Int → Unit → Option (Unit ⊕ O)} {n : Int} (g : Int → Option O) (hn : 0 ≤ n)
    (hb : ∀ j, 0 ≤ j → j < n → (∀ i, 0 ≤ i → i < j → g i = none) → body j () = some (match g j with | none => .inl () | some o => .inr o)) :
    (rngX 0 n body () = some (.inl ()) ∧ ∀ j, 0 ≤ j → j < n → g j = none) ∨ ∃ j o, 0 ≤ j ∧ j < n ∧ g j = some o ∧ (∀ i, 0 ≤ i → i < j → g i = none) ∧ rngX 0 n body () = some (.inr o) := by
  rcases rngX_inv (body := body) (n := n) (fun j _ => ∀ i, 0 ≤ i → i < j → g i = none) (fun o => ∃ j, 0 ≤ j ∧ j < n ∧ g j = some o ∧ ∀ i, 0 ≤ i → i < j → g i = none) (s := ()) hn (fun i h1 h2 => by omega) (fun j s h0 h1 hP => by
    have := hb j h0 h1 hP
    cases hg : g j with
    | none => rw [hg] at this; exact .inl ⟨(), this, fun i h2 h3 => by
        rcases Int.lt_or_eq_of_le (Int.le_of_lt_add_one h3) with h | h
        · exact hP i h2 h
        · rw [h, hg]⟩
    | some o => rw [hg] at this; exact .inr ⟨o, this, j, h0, h1, hg, hP⟩) with ⟨s', h1, h2⟩ | ⟨o, h1, j, h2, h3, h4, h5⟩
  · exact .inl ⟨h1, h2⟩
  · exact .inr ⟨j, o, h2, h3, h4, h5, h1⟩
/-- A loop over a list that tests its elements. -/
theorem rng_list {α O : Type} {l : List α} {body : Int → Unit → Option (Unit ⊕ O)} (q : α → Prop) (b : O)
    (hb : ∀ j a, ix l j = some a → (q a ∧ body j () = some (.inl ())) ∨ (¬ q a ∧ body j () = some (.inr b))) :
    rngX 0 (l.length : Int) body () = some (if dec (∀ a ∈ l, q a) = true then .inl () else .inr b) := by
  rcases rngX_test (body := body) (n := (l.length : Int)) (fun j => match ix l j with | some a => if dec (q a) = true then none else some b | none => none) (by omega) (fun j h0 h1 _ => by
    obtain ⟨a, h2, _⟩ := ix_of h0 h1
    rw [h2]
    rcases hb j a h2 with ⟨h3, h4⟩ | ⟨h3, h4⟩
    · rw [h4]; simp [h3]
    · rw [h4]; simp [h3]) with ⟨h1, h2⟩ | ⟨j, o, h0, h1, h2, _, h4⟩
  · rw [h1, if_pos]
    rw [dec_true]
    intro a ha
    obtain ⟨i, g1, g2, g3⟩ := mem_ix ha
    have := h2 i g1 g2
    rw [g3] at this
    simpa using this
  · rw [h4]
    obtain ⟨a, g1, _⟩ := ix_of h0 h1
    rw [g1] at h2
    simp only [dec_true] at h2
    split at h2
    · cases h2
    · rename_i hq
      cases h2
      rw [if_neg]
      rw [dec_true]
      exact fun h => hq (dec_of (h a (ix_mem g1)))
/-- Rising lists. -/
abbrev Inc (l : List Int) : Prop := l.Pairwise (· < ·)
theorem inc_of_adj : ∀ {l : List Int}, (∀ (k : Nat) a b, l[k]? = some a → l[k + 1]? = some b → a < b) → Inc l
  | [], _ => .nil
  | [_], _ => by simp
  | a :: b :: l, h => by
    have ih : Inc (b :: l) := inc_of_adj fun k x y h1 h2 => h (k + 1) x y (by simpa using h1) (by simpa using h2)
    have hab : a < b := h 0 a b rfl rfl
    refine List.pairwise_cons.2 ⟨fun c hc => ?_, ih⟩
    rcases List.mem_cons.1 hc with rfl | hc
    · exact hab
    · exact Int.lt_trans hab ((List.pairwise_cons.1 ih).1 c hc)
theorem Inc.get {l : List Int} (h : Inc l) {i j : Nat} {a b : Int} (hi : l[i]? = some a) (hj : l[j]? = some b) (hij : i < j) : a < b := by
  obtain ⟨h1, rfl⟩ := List.getElem?_eq_some_iff.1 hi
  obtain ⟨h2, rfl⟩ := List.getElem?_eq_some_iff.1 hj
  exact List.pairwise_iff_getElem.1 h i j h1 h2 hij
theorem Inc.ext : ∀ {l m : List Int}, Inc l → Inc m → (∀ x, x ∈ l ↔ x ∈ m) → l = m
  | [], [], _, _, _ => rfl
  | [], b :: m, _, _, h => absurd ((h b).2 (by simp)) (by simp)
  | a :: l, [], _, _, h => absurd ((h a).1 (by simp)) (by simp)
  | a :: l, b :: m, hl, hm, h => by
    obtain ⟨l1, l2⟩ := List.pairwise_cons.1 hl
    obtain ⟨m1, m2⟩ := List.pairwise_cons.1 hm
    have hab : a = b := by
      rcases List.mem_cons.1 ((h a).1 (by simp)) with e | e
      · exact e
      · rcases List.mem_cons.1 ((h b).2 (by simp)) with e' | e'
        · exact e'.symm
        · have := l1 b e'; have := m1 a e; omega
    subst hab
    rw [Inc.ext l2 m2 fun x => ⟨fun hx => ?_, fun hx => ?_⟩]
    · rcases List.mem_cons.1 ((h x).1 (by simp [hx])) with e | e
      · have := l1 x hx; omega
      · exact e
    · rcases List.mem_cons.1 ((h x).2 (by simp [hx])) with e | e
      · have := m1 x hx; omega
      · exact e
theorem Inc.filter {l : List Int} (h : Inc l) (p : Int → Bool) : Inc (l.filter p) := List.Pairwise.filter p h
/-- Numbers from lo on. -/
def nums (lo : Int) : Nat → List Int
  | 0 => []
  | k + 1 => lo :: nums (lo + 1) k
theorem mem_nums {x : Int} : ∀ {k : Nat} {lo : Int}, x ∈ nums lo k ↔ lo ≤ x ∧ x < lo + k
  | 0, lo => by simp [nums]
  | k + 1, lo => by
    rw [nums, List.mem_cons, mem_nums (k := k)]
    omega
theorem inc_nums : ∀ (k : Nat) (lo : Int), Inc (nums lo k)
  | 0, _ => .nil
  | k + 1, lo => List.pairwise_cons.2 ⟨fun x hx => by have := mem_nums.1 hx; omega, inc_nums k (lo + 1)⟩
theorem len_nums : ∀ (k : Nat) (lo : Int), (nums lo k).length = k
  | 0, _ => rfl
  | k + 1, lo => by simp [nums, len_nums k]
/-- The set of the numbers below n of which p holds. -/
noncomputable def setOf (p : Int → Prop) (n : Int) : List Int := (nums 0 n.toNat).filter fun x => dec (p x)
theorem mem_setOf {p : Int → Prop} {n x : Int} : x ∈ setOf p n ↔ 0 ≤ x ∧ x < n ∧ p x := by
  rw [setOf, List.mem_filter, mem_nums, dec_true]
  constructor
  · rintro ⟨⟨h1, h2⟩, h3⟩; exact ⟨h1, by omega, h3⟩
  · rintro ⟨h1, h2, h3⟩; exact ⟨⟨h1, by omega⟩, h3⟩
theorem inc_setOf (p : Int → Prop) (n : Int) : Inc (setOf p n) := (inc_nums _ _).filter _
theorem setOf_congr {p q : Int → Prop} {n : Int} (h : ∀ x, 0 ≤ x → x < n → (p x ↔ q x)) : setOf p n = setOf q n := by
  refine List.filter_congr fun x hx => dec_congr ?_
  have := mem_nums.1 hx
  exact h x (by omega) (by omega)
/-- A rising list of numbers below n. -/
def SetN (l : List Int) (n : Int) : Prop := Inc l ∧ ∀ x ∈ l, 0 ≤ x ∧ x < n
theorem setN_setOf (p : Int → Prop) (n : Int) : SetN (setOf p n) n := ⟨inc_setOf p n, fun x hx => by have := mem_setOf.1 hx; exact ⟨this.1, this.2.1⟩⟩
theorem SetN.eq {l : List Int} {n : Int} (h : SetN l n) : l = setOf (· ∈ l) n :=
  h.1.ext (inc_setOf _ _) fun x => ⟨fun hx => mem_setOf.2 ⟨(h.2 x hx).1, (h.2 x hx).2, hx⟩, fun hx => (mem_setOf.1 hx).2.2⟩
theorem SetN.eq_of {l : List Int} {n : Int} (h : SetN l n) {p : Int → Prop} (hp : ∀ x, 0 ≤ x → x < n → (x ∈ l ↔ p x)) : l = setOf p n :=
  h.eq.trans (setOf_congr hp)
theorem SetN.len {l : List Int} {n : Int} (h : SetN l n) : l.length ≤ n.toNat := by
  rw [h.eq, setOf]
  exact Nat.le_trans (List.length_filter_le _ _) (Nat.le_of_eq (len_nums _ _))
theorem setN_nil (n : Int) : SetN [] n := ⟨.nil, by simp⟩
/-- A list of the elements that pass, made by appending. -/
theorem forR_filter {α : Type} {l : List α} {b : Nat} {body : Int → List α → Option (List α)} (q : α → Prop)
    (hb : ∀ j a c, ix l j = some a → (q a → body j c = app b c [a]) ∧ (¬ q a → body j c = some c)) (c0 : List α) (hl : (c0.length + l.length) * b ≤ 140737488355328) :
    forR 0 (l.length : Int) body c0 = some (c0 ++ l.filter fun a => dec (q a)) := by
  obtain ⟨s', h1, h2⟩ := forR_inv (body := body) (n := (l.length : Int)) (s := c0) (fun j c => c = c0 ++ (l.take j.toNat).filter fun a => dec (q a)) (by omega) (by simp) (fun j c h0 h1 hP => by
    obtain ⟨a, g1, g2⟩ := ix_of h0 h1
    have e : (j + 1).toNat = j.toNat + 1 := by omega
    have ht : l.take (j + 1).toNat = l.take j.toNat ++ [a] := by rw [e, List.take_add_one, g2]; rfl
    by_cases hq : q a
    · have happ : app b c [a] = some (c ++ [a]) := by
        rw [app, if_pos]
        have h3 : ((l.take j.toNat).filter fun a => dec (q a)).length ≤ (l.take j.toNat).length := List.length_filter_le _ _
        rw [List.length_take] at h3
        have h5 : c.length + 1 ≤ c0.length + l.length := by rw [hP, List.length_append]; omega
        refine Nat.le_trans (Nat.mul_le_mul_right b ?_) hl
        simpa using h5
      refine ⟨c ++ [a], by rw [(hb j a c g1).1 hq, happ], ?_⟩
      rw [ht, List.filter_append, hP]
      simp [hq]
    · refine ⟨c, (hb j a c g1).2 hq, ?_⟩
      rw [ht, List.filter_append, hP]
      simp [hq])
  rw [h1, h2]
  simp
/-- The same over numbers. -/
theorem forR_setOf {b : Nat} {n : Int} {body : Int → List Int → Option (List Int)} (q : Int → Prop) (hn : 0 ≤ n) (hl : n.toNat * b ≤ 140737488355328)
    (hb : ∀ j c, 0 ≤ j → j < n → (q j → body j c = app b c [j]) ∧ (¬ q j → body j c = some c)) : forR 0 n body [] = some (setOf q n) := by
  obtain ⟨s', h1, h2⟩ := forR_inv (body := body) (n := n) (s := []) (fun j c => c = setOf q j) hn (by simp [setOf, nums]) (fun j c h0 h1 hP => by
    have hs : setOf q (j + 1) = setOf q j ++ if dec (q j) = true then [j] else [] := by
      refine (inc_setOf q (j + 1)).ext ?_ fun x => ?_
      · refine List.pairwise_append.2 ⟨inc_setOf _ _, by split <;> simp, fun a ha b hb => ?_⟩
        have := mem_setOf.1 ha
        split at hb
        · simp at hb; omega
        · cases hb
      · rw [List.mem_append, mem_setOf, mem_setOf]
        by_cases hq : q j
        · rw [if_pos (dec_of hq)]
          simp only [List.mem_singleton]
          refine ⟨fun h => ?_, fun h => ?_⟩
          · by_cases e : x = j
            · exact .inr e
            · exact .inl ⟨h.1, by omega, h.2.2⟩
          · rcases h with h | rfl
            · exact ⟨h.1, by omega, h.2.2⟩
            · exact ⟨h0, by omega, hq⟩
        · rw [if_neg (by simpa using hq)]
          simp only [List.not_mem_nil, or_false]
          refine ⟨fun h => ⟨h.1, ?_, h.2.2⟩, fun h => ⟨h.1, by omega, h.2.2⟩⟩
          rcases Int.lt_or_eq_of_le (Int.le_of_lt_add_one h.2.1) with e | e
          · exact e
          · rw [e] at h; exact absurd h.2.2 hq
    by_cases hq : q j
    · refine ⟨c ++ [j], ?_, by rw [hs, hP, if_pos (dec_of hq)]⟩
      rw [(hb j c h0 h1).1 hq, app, if_pos]
      have h3 : c.length ≤ j.toNat := by rw [hP]; exact (setN_setOf q j).len
      refine Nat.le_trans (Nat.mul_le_mul_right b ?_) hl
      simp; omega
    · refine ⟨c, (hb j c h0 h1).2 hq, ?_⟩
      rw [hs, hP, if_neg (by simpa using hq), List.append_nil])
  rw [h1, h2]
end Ab
end
section
namespace Ab
open Go
theorem has_eq (l : List Int) (n : Int) : ref1_Has l n = some (dec (n ∈ l)) := by
  unfold ref1_Has
  rw [rng_list (l := l) (fun a => a ≠ n) true (fun j a h => by
    unfold ref1_Has_l1
    rw [h]
    by_cases e : a = n <;> simp [e])]
  by_cases h : n ∈ l
  · rw [if_neg (by simp only [dec_true]; exact fun g => g n h rfl)]
    simp [h]
  · rw [if_pos (by simp only [dec_true]; exact fun a ha e => h (e ▸ ha))]
    simp [h]
theorem subset_eq (part l : List Int) : ref1_Subset part l = some (dec (∀ x ∈ part, x ∈ l)) := by
  unfold ref1_Subset
  rw [rng_list (l := part) (fun a => a ∈ l) false (fun j a h => by
    unfold ref1_Subset_l1
    rw [h]
    by_cases e : a ∈ l <;> simp [e, has_eq])]
  by_cases h : ∀ x ∈ part, x ∈ l
  · rw [if_pos (dec_of h), dec_of h]; rfl
  · rw [if_neg (by rw [dec_no h]; simp), dec_no h]; rfl
theorem disjoint_eq (a b : List Int) : ref1_Disjoint a b = some (dec (∀ x ∈ a, x ∉ b)) := by
  unfold ref1_Disjoint
  rw [rng_list (l := a) (fun x => x ∉ b) false (fun j x h => by
    unfold ref1_Disjoint_l1
    rw [h]
    by_cases e : x ∈ b <;> simp [e, has_eq])]
  by_cases h : ∀ x ∈ a, x ∉ b
  · rw [if_pos (dec_of h), dec_of h]; rfl
  · rw [if_neg (by rw [dec_no h]; simp), dec_no h]; rfl
theorem in_eq (n lo hi : Int) : ref1_In n lo hi = some (dec (lo ≤ n ∧ n ≤ hi)) := by
  unfold ref1_In; rw [decide_dec, decide_dec, dec_and]
theorem at_eq (c i : Int) : ref1_At c i = some ⟨c, i⟩ := rfl
/-- What a test of a rising list asks at a place. -/
def stepOk (l : List Int) (n j : Int) : Prop := ∀ a, ix l j = some a → (0 ≤ a ∧ a < n) ∧ ∀ b, 0 < j → ix l (j - 1) = some b → b < a
theorem stepOk_iff {l : List Int} {n : Int} : (∀ j : Int, 0 ≤ j → j < l.length → stepOk l n j) ↔ SetN l n := by
  constructor
  · intro h
    refine ⟨inc_of_adj fun k a b h1 h2 => ?_, fun x hx => ?_⟩
    · have hk := (List.getElem?_eq_some_iff.1 h2).1
      have := (h ((k + 1 : Nat) : Int) (by omega) (by omega) b (by rw [ix_nat]; exact h2)).2 a (by omega)
      rw [show ((k + 1 : Nat) : Int) - 1 = (k : Nat) by omega] at this
      exact this (by rw [ix_nat]; exact h1)
    · obtain ⟨i, h1, h2, h3⟩ := mem_ix hx
      exact (h i h1 h2 x h3).1
  · intro h j h0 h1 a ha
    refine ⟨h.2 a (ix_mem ha), fun b hj hb => ?_⟩
    obtain ⟨_, _, ga⟩ := ix_lo ha
    obtain ⟨_, _, gb⟩ := ix_lo hb
    exact h.1.get gb ga (by omega)
theorem isSet_eq (l : List Int) (n : Int) : strips_IsSet l n = some (dec (SetN l n)) := by
  unfold strips_IsSet
  rcases rngX_test (body := strips_IsSet_l1 l n) (n := (l.length : Int)) (fun j => if dec (stepOk l n j) = true then none else some false) (by omega) (fun j h0 h1 _ => by
    obtain ⟨a, ha, _⟩ := ix_of (l := l) h0 h1
    unfold strips_IsSet_l1
    rw [ha]
    simp only [Option.bind_some]
    by_cases c1 : a < 0
    · rw [if_pos c1, if_neg]
      · rfl
      · rw [dec_true]; intro h; have := (h a ha).1; omega
    · rw [if_neg c1]
      by_cases c2 : n ≤ a
      · rw [if_pos c2, if_neg]
        · rfl
        · rw [dec_true]; intro h; have := (h a ha).1; omega
      · rw [if_neg c2]
        by_cases c3 : 0 < j
        · obtain ⟨b, hb, _⟩ := ix_of (l := l) (i := j - 1) (by omega) (by omega)
          rw [if_pos c3, hb]
          simp only [Option.bind_some]
          by_cases c4 : a ≤ b
          · rw [if_pos (by simpa using c4), if_neg]
            rw [dec_true]; intro h; have := (h a ha).2 b c3 hb; omega
          · rw [if_neg (by simpa using c4), if_pos]
            rw [dec_true]; intro x hx
            rw [ha] at hx; cases hx
            exact ⟨by omega, fun y _ hy => by rw [hb] at hy; cases hy; omega⟩
        · rw [if_neg c3]
          simp only [Option.bind_some]
          rw [if_neg (by simp), if_pos]
          rw [dec_true]; intro x hx
          rw [ha] at hx; cases hx
          exact ⟨by omega, fun y hy => absurd hy c3⟩) with ⟨h1, h2⟩ | ⟨j, o, h0, h1, h2, _, h4⟩
  · rw [h1, dec_of]
    · rfl
    · exact stepOk_iff.1 fun j g1 g2 => by have := h2 j g1 g2; simpa using this
  · rw [h4]
    split at h2
    · cases h2
    · rename_i hs
      cases h2
      rw [dec_no]
      · rfl
      · exact fun h => hs (dec_of (stepOk_iff.2 h j h0 h1))
theorem rIsSet_eq (l : List Int) {n : Int} (hn : -9223372036854775808 < n) (hn' : n ≤ 9223372036854775807) : ref1_IsSet l n = some (dec (SetN l n)) := by
  unfold ref1_IsSet
  rcases rngX_test (body := ref1_IsSet_l1 l n) (n := (l.length : Int)) (fun j => if dec (stepOk l n j) = true then none else some false) (by omega) (fun j h0 h1 _ => by
    obtain ⟨a, ha, _⟩ := ix_of (l := l) h0 h1
    unfold ref1_IsSet_l1
    rw [ha]
    simp only [Option.bind_some, in_eq, w64_of (n := n - 1) (by omega) (by omega), dec_not]
    by_cases c1 : 0 ≤ a ∧ a ≤ n - 1
    · rw [if_neg (by simpa using c1)]
      by_cases c3 : 0 < j
      · obtain ⟨b, hb, _⟩ := ix_of (l := l) (i := j - 1) (by omega) (by omega)
        rw [if_pos c3, hb]
        simp only [Option.bind_some]
        by_cases c4 : a ≤ b
        · rw [if_pos (by simpa using c4), if_neg]
          rw [dec_true]; intro h; have := (h a ha).2 b c3 hb; omega
        · rw [if_neg (by simpa using c4), if_pos]
          rw [dec_true]; intro x hx
          rw [ha] at hx; cases hx
          exact ⟨by omega, fun y _ hy => by rw [hb] at hy; cases hy; omega⟩
      · rw [if_neg c3]
        simp only [Option.bind_some]
        rw [if_neg (by simp), if_pos]
        rw [dec_true]; intro x hx
        rw [ha] at hx; cases hx
        exact ⟨by omega, fun y hy => absurd hy c3⟩
    · rw [if_pos (by simpa using c1), if_neg]
      · rfl
      · rw [dec_true]; intro h; have := (h a ha).1; omega) with ⟨h1, h2⟩ | ⟨j, o, h0, h1, h2, _, h4⟩
  · rw [h1, dec_of]
    · rfl
    · exact stepOk_iff.1 fun j g1 g2 => by have := h2 j g1 g2; simpa using this
  · rw [h4]
    split at h2
    · cases h2
    · rename_i hs
      cases h2
      rw [dec_no]
      · rfl
      · exact fun h => hs (dec_of (stepOk_iff.2 h j h0 h1))
theorem containsLoop {s : List Int} (hs : Inc s) (hl : s.length ≤ 1000000) (x : Int) {i : Int} (h0 : 0 ≤ i) (h1 : i ≤ s.length) (hlt : ∀ k a, 0 ≤ k → k < i → ix s k = some a → a < x) :
    ∃ i', Loop (strips_Contains_l2 s x) i = some i' ∧ i ≤ i' ∧ i' ≤ s.length ∧ (∀ k a, 0 ≤ k → k < i' → ix s k = some a → a < x) ∧ (∀ a, ix s i' = some a → x ≤ a) := by
  obtain ⟨o, h2, h3⟩ := Loop_inv (body := strips_Contains_l2 s x) (fun j => i ≤ j ∧ j ≤ s.length ∧ ∀ k a, 0 ≤ k → k < j → ix s k = some a → a < x) (fun i' => i ≤ i' ∧ i' ≤ s.length ∧ (∀ k a, 0 ≤ k → k < i' → ix s k = some a → a < x) ∧ (∀ a, ix s i' = some a → x ≤ a)) (fun j => (s.length - j).toNat) (s := i) ⟨Int.le_refl _, h1, hlt⟩ (fun j ⟨g1, g2, g3⟩ => by
    unfold strips_Contains_l2
    by_cases c : j < s.length
    · obtain ⟨a, ha, _⟩ := ix_of (l := s) (i := j) (by omega) c
      rw [if_pos c, ha]
      simp only [Option.bind_some, decide_eq_true_eq]
      by_cases c2 : a < x
      · rw [if_pos c2]
        rw [w64_of (by omega) (by omega)]
        refine .inl ⟨j + 1, rfl, ⟨by omega, by omega, fun k b k0 k1 hb => ?_⟩, by omega⟩
        by_cases e : k = j
        · subst e; rw [ha] at hb; cases hb; exact c2
        · exact g3 k b k0 (by omega) hb
      · rw [if_neg c2]
        exact .inr ⟨j, rfl, g1, g2, g3, fun b hb => by rw [ha] at hb; cases hb; omega⟩
    · rw [if_neg c]
      exact .inr ⟨j, rfl, g1, g2, g3, fun b hb => by have := (ix_lo hb).2.1; omega⟩)
  exact ⟨o, h2, h3⟩
theorem contains_eq {s part : List Int} (hs : Inc s) (hp : Inc part) (hl : s.length ≤ 1000000) : strips_Contains s part = some (dec (∀ x ∈ part, x ∈ s)) := by
  unfold strips_Contains
  rcases rngX_inv (body := strips_Contains_l1 s part) (n := (part.length : Int)) (fun j i => (0 ≤ i ∧ i ≤ s.length ∧ ∀ k a, 0 ≤ k → k < i → ix s k = some a → ∀ m x, j ≤ m → ix part m = some x → a < x) ∧ ∀ m x, 0 ≤ m → m < j → ix part m = some x → x ∈ s) (fun o => o = false ∧ ¬ ∀ x ∈ part, x ∈ s) (s := 0) (by omega) ⟨⟨by omega, by omega, fun k a h1 h2 => by omega⟩, fun m x h1 h2 => by omega⟩ (fun j i h0 h1 ⟨⟨g1, g2, g3⟩, g4⟩ => by
    obtain ⟨x, hx, gx⟩ := ix_of (l := part) h0 h1
    unfold strips_Contains_l1
    obtain ⟨i', e1, e2, e3, e4, e5⟩ := containsLoop hs hl x g1 g2 (fun k a k0 k1 ha => g3 k a k0 k1 ha j x (Int.le_refl _) hx)
    rw [hx]
    simp only [Option.bind_some, e1]
    have nin : (∀ a, ix s i' = some a → x < a) → x ∉ s := fun hgt hin => by
      obtain ⟨k, k0, k1, hk⟩ := mem_ix hin
      rcases Int.lt_trichotomy k i' with c | c | c
      · have := e4 k x k0 c hk; omega
      · subst c; have := hgt x hk; omega
      · obtain ⟨b, hb, gb⟩ := ix_of (l := s) (i := i') (by omega) (by omega)
        obtain ⟨_, _, gk⟩ := ix_lo hk
        have := hs.get gb gk (by omega)
        have := e5 b hb
        omega
    by_cases c : i' = s.length
    · rw [if_pos c]
      refine .inr ⟨false, rfl, rfl, fun h => ?_⟩
      exact nin (fun a ha => by have := (ix_lo ha).2.1; omega) (h x (ix_mem hx))
    · rw [if_neg c]
      obtain ⟨b, hb, gb⟩ := ix_of (l := s) (i := i') (by omega) (by omega)
      rw [hb]
      simp only [Option.bind_some]
      have hxb := e5 b hb
      by_cases c2 : b = x
      · subst c2
        rw [if_neg (by simp)]
        refine .inl ⟨i', rfl, ⟨by omega, e3, fun k a k0 k1 ha m y hm hy => ?_⟩, fun m y m0 m1 hy => ?_⟩
        · obtain ⟨_, _, gy⟩ := ix_lo hy
          have := hp.get gx gy (by omega)
          have := e4 k a k0 k1 ha
          omega
        · by_cases e : m = j
          · subst e; rw [hx] at hy; cases hy; exact ix_mem hb
          · exact g4 m y m0 (by omega) hy
      · rw [if_pos (by simpa using c2)]
        refine .inr ⟨false, rfl, rfl, fun h => ?_⟩
        exact nin (fun a ha => by rw [hb] at ha; cases ha; omega) (h x (ix_mem hx))) with ⟨s', h1, _, h2⟩ | ⟨o, h1, rfl, h2⟩
  · rw [h1, dec_of]
    · rfl
    · intro x hx
      obtain ⟨m, m0, m1, hm⟩ := mem_ix hx
      exact h2 m x m0 m1 hm
  · rw [h1, dec_no h2]; rfl
end Ab
end
section
namespace Ab
open Go
theorem half_eq {i j : Int} (h0 : 0 ≤ i) (h1 : i ≤ j) (h2 : j ≤ 1000000) : w64 (shrW .u64 ((IntKind.u64).wrap (w64 (i + j))) 1) = (i + j) / 2 := by
  rw [w64_of (n := i + j) (by omega) (by omega), IntKind.wrap_u64, Int.emod_eq_of_lt (by omega) (by omega)]
  have : shrW .u64 (i + j) 1 = (i + j) / 2 := by
    simp only [shrW, IntKind.bits]
    rw [show min (1 : Int).toNat 64 = 1 by rfl, Int.fdiv_eq_ediv_of_nonneg _ (by decide)]
    rfl
  rw [this]
  exact w64_of (by omega) (by omega)
theorem less_eq (a b : Int) : cmp_Less_int a b = some (decide (a < b)) := by simp [cmp_Less_int, cmp_isNaN_int]
theorem bsearch_eq {xs : List Int} (hs : Inc xs) (hl : xs.length ≤ 500000) (t : Int) : ∃ i, slices_BinarySearch_int_int xs t = some (i, dec (t ∈ xs)) ∧ 0 ≤ i ∧ i ≤ xs.length ∧ (∀ k a, 0 ≤ k → k < i → ix xs k = some a → a < t) ∧ (∀ k a, i ≤ k → ix xs k = some a → t ≤ a) := by
  unfold slices_BinarySearch_int_int
  obtain ⟨i, h1, h2, h3, h4, h5⟩ := Loop_inv (body := slices_BinarySearch_int_int_l1 xs t) (fun p => (0 ≤ p.1 ∧ p.1 ≤ p.2 ∧ p.2 ≤ xs.length) ∧ (∀ k a, 0 ≤ k → k < p.1 → ix xs k = some a → a < t) ∧ (∀ k a, p.2 ≤ k → ix xs k = some a → t ≤ a))
    (fun i => 0 ≤ i ∧ i ≤ xs.length ∧ (∀ k a, 0 ≤ k → k < i → ix xs k = some a → a < t) ∧ (∀ k a, i ≤ k → ix xs k = some a → t ≤ a)) (fun p => (p.2 - p.1).toNat) (s := (0, (xs.length : Int)))
    ⟨⟨by simp, by simp, by simp⟩, fun k a h1 h2 => by simp at h2; omega, fun k a h1 h2 => by have := (ix_lo h2).2.1; simp at h1; omega⟩ (fun ⟨i, j⟩ ⟨⟨g1, g2, g3⟩, g4, g5⟩ => by
    dsimp only at g1 g2 g3 g4 g5 ⊢
    unfold slices_BinarySearch_int_int_l1
    dsimp only
    by_cases c : i < j
    · rw [if_pos c, half_eq g1 g2 (by omega)]
      obtain ⟨a, ha, ga⟩ := ix_of (l := xs) (i := (i + j) / 2) (by omega) (by omega)
      rw [ha]
      simp only [Option.bind_some, less_eq, decide_eq_true_eq]
      by_cases c2 : a < t
      · rw [if_pos c2, w64_of (by omega) (by omega)]
        refine .inl ⟨_, rfl, ⟨⟨by dsimp only; omega, by dsimp only; omega, g3⟩, fun k b k0 k1 hb => ?_, g5⟩, by dsimp only; omega⟩
        dsimp only at k1
        obtain ⟨_, _, gb⟩ := ix_lo hb
        by_cases e : k = (i + j) / 2
        · subst e; rw [ha] at hb; cases hb; exact c2
        · have := hs.get gb ga (by omega); omega
      · rw [if_neg c2]
        refine .inl ⟨_, rfl, ⟨⟨g1, by dsimp only; omega, by dsimp only; omega⟩, g4, fun k b k0 hb => ?_⟩, by dsimp only; omega⟩
        dsimp only at k0
        obtain ⟨_, _, gb⟩ := ix_lo hb
        by_cases e : k = (i + j) / 2
        · subst e; rw [ha] at hb; cases hb; omega
        · have := hs.get ga gb (by omega); omega
    · rw [if_neg c]
      have : i = j := by omega
      subst this
      exact .inr ⟨i, rfl, g1, g3, g4, g5⟩)
  rw [h1]
  simp only [Option.bind_some]
  refine ⟨i, ?_, h2, h3, h4, h5⟩
  have nin : (∀ a, ix xs i = some a → a ≠ t) → t ∉ xs := fun hne hin => by
    obtain ⟨k, k0, k1, hk⟩ := mem_ix hin
    rcases Int.lt_trichotomy k i with c | c | c
    · have := h4 k t k0 c hk; omega
    · subst c; exact hne t hk rfl
    · obtain ⟨b, hb, gb⟩ := ix_of (l := xs) (i := i) (by omega) (by omega)
      obtain ⟨_, _, gk⟩ := ix_lo hk
      have := hs.get gb gk (by omega)
      have := h5 i b (Int.le_refl _) hb
      omega
  by_cases c : i < xs.length
  · obtain ⟨a, ha, ga⟩ := ix_of (l := xs) (i := i) (by omega) c
    rw [if_pos c, ha]
    simp only [Option.bind_some]
    by_cases c2 : a = t
    · subst c2
      rw [if_pos rfl, dec_of (ix_mem ha)]
      rfl
    · rw [if_neg c2]
      simp only [slices_isNaN_int, decide_true, Bool.not_true, Bool.false_eq_true, if_false, Option.bind_some]
      rw [dec_no (nin fun b hb => by rw [ha] at hb; cases hb; exact c2)]
  · rw [if_neg c]
    simp only [Option.bind_some]
    rw [dec_no (nin fun b hb => by have := (ix_lo hb).2.1; omega)]
theorem bsearch2 {xs : List Int} (hs : Inc xs) (hl : xs.length ≤ 500000) (t : Int) : ∃ i, slices_BinarySearch_int_int xs t = some (i, dec (t ∈ xs)) :=
  let ⟨i, h, _⟩ := bsearch_eq hs hl t
  ⟨i, h⟩
theorem containsFunc_eq {l : List Int} {f : Int → Option Bool} (p : Int → Prop) (hf : ∀ x ∈ l, f x = some (dec (p x))) : slices_ContainsFunc_int_int l f = some (dec (∃ x ∈ l, p x)) := by
  unfold slices_ContainsFunc_int_int slices_IndexFunc_int_int
  rcases rngX_test (body := slices_IndexFunc_int_int_l1 l f) (n := (l.length : Int)) (fun j => if dec (∀ a, ix l j = some a → ¬ p a) = true then none else some j) (by omega) (fun j h0 h1 _ => by
    obtain ⟨a, ha, _⟩ := ix_of (l := l) h0 h1
    unfold slices_IndexFunc_int_int_l1
    rw [ha]
    simp only [Option.bind_some, hf a (ix_mem ha)]
    by_cases c : p a
    · rw [if_pos (dec_of c), if_neg (by rw [dec_true]; exact fun h => h a rfl c)]
    · rw [if_neg (by rw [dec_no c]; simp), if_pos (dec_of fun b hb => by cases hb; exact c)]) with ⟨h1, h2⟩ | ⟨j, o, h0, h1, h2, _, h4⟩
  · rw [h1]
    simp only [Option.bind_some]
    rw [dec_no]
    · rfl
    · rintro ⟨x, hx, hp⟩
      obtain ⟨i, g1, g2, g3⟩ := mem_ix hx
      have := h2 i g1 g2
      split at this
      · rename_i h; exact dec_true.1 h x g3 hp
      · cases this
  · rw [h4]
    split at h2
    · cases h2
    · rename_i h
      cases h2
      simp only [Option.bind_some]
      rw [dec_of]
      · simp [h0]
      · simp only [dec_true] at h
        obtain ⟨a, g1, _⟩ := ix_of (l := l) h0 h1
        refine ⟨a, ix_mem g1, ?_⟩
        rcases Classical.em (p a) with c | c
        · exact c
        · exact absurd (fun b hb => by rw [g1] at hb; cases hb; exact c) h
theorem meets_eq {a b : List Int} (hb : Inc b) (hl : b.length ≤ 500000) : strips_Meets a b = some (dec (∃ x ∈ a, x ∈ b)) := by
  unfold strips_Meets
  rw [containsFunc_eq (fun x => x ∈ b) (fun x _ => by
    unfold strips_Meets_1
    obtain ⟨i, h⟩ := bsearch2 hb hl x
    rw [h]; rfl)]
  rfl
/-! ### Sorted, and equal neighbours made one -/
theorem compact_spec {l : List Int} (hs : l.Pairwise (· ≤ ·)) : Inc (compactL l) ∧ ∀ x, x ∈ compactL l ↔ x ∈ l := by
  have key : ∀ m, m ≤ l.length → Inc (Go.Lib.compactUpTo l.toArray m) ∧ (∀ x, x ∈ Go.Lib.compactUpTo l.toArray m ↔ x ∈ l.take m) := by
    intro m
    induction m with
    | zero => intro _; simp [Go.Lib.compactUpTo]
    | succ m ih =>
      intro hm
      obtain ⟨h1, h2⟩ := ih (by omega)
      have hlt : m < l.length := by omega
      have hd : l.toArray[m]! = l[m] := by simp [hlt]
      have ht : l.take (m + 1) = l.take m ++ [l[m]] := by rw [List.take_add_one]; simp [hlt]
      rw [Go.Lib.compactUpTo_succ, ht]
      by_cases hk : Go.Lib.keeps l.toArray m = true
      · rw [if_pos hk, hd]
        refine ⟨List.pairwise_append.2 ⟨h1, by simp, fun a ha b hb => ?_⟩, fun x => by rw [List.mem_append, List.mem_append, h2]⟩
        simp only [List.mem_singleton] at hb
        subst hb
        have ha' := (h2 a).1 ha
        obtain ⟨i, hi, rfl⟩ := List.mem_iff_getElem.1 ha'
        rw [List.length_take] at hi
        rw [List.getElem_take]
        simp only [Go.Lib.keeps, decide_eq_true_eq] at hk
        rcases hk with hk | hk
        · omega
        · have hm1 : l.toArray[m - 1]! = l[m - 1] := by simp [show m - 1 < l.length by omega]
          rw [hd, hm1] at hk
          have e1 : l[m - 1] ≤ l[m] := List.pairwise_iff_getElem.1 hs (m - 1) m (by omega) hlt (by omega)
          have e2 : l[i] ≤ l[m - 1] := by
            rcases Nat.lt_or_ge i (m - 1) with c | c
            · exact List.pairwise_iff_getElem.1 hs i (m - 1) (by omega) (by omega) c
            · have : i = m - 1 := by omega
              subst this; exact Int.le_refl _
          omega
      · rw [if_neg hk, List.append_nil]
        refine ⟨h1, fun x => ?_⟩
        rw [h2, List.mem_append]
        refine ⟨.inl, fun h => ?_⟩
        rcases h with h | h
        · exact h
        · simp only [List.mem_singleton] at h
          subst h
          have hm0 : m ≠ 0 := fun e => hk (by simp [Go.Lib.keeps, e])
          have hm1 : l.toArray[m - 1]! = l[m - 1] := by simp [show m - 1 < l.length by omega]
          have he : l[m] = l[m - 1] := by
            simp only [Go.Lib.keeps, decide_eq_true_eq, not_or] at hk
            have h3 : l.toArray[m]! = l.toArray[m - 1]! := Classical.not_not.1 (fun h => hk.2 h)
            rw [hd, hm1] at h3; exact h3
          rw [he, List.mem_take_iff_getElem]
          exact ⟨m - 1, by omega, rfl⟩
  obtain ⟨h1, h2⟩ := key l.length (Nat.le_refl _)
  refine ⟨?_, fun x => ?_⟩
  · simpa [compactL, Go.Lib.compact] using h1
  · have := h2 x
    rw [List.take_length] at this
    simpa [compactL, Go.Lib.compact] using this
theorem srt_spec (l : List Int) : (srt l).Pairwise (· ≤ ·) ∧ ∀ x, x ∈ srt l ↔ x ∈ l := by
  refine ⟨?_, fun x => by simp [srt]⟩
  have := List.pairwise_mergeSort (le := fun x y : Int => decide (x ≤ y)) (fun a b c h1 h2 => by simp at h1 h2 ⊢; omega) (fun a b => by simp; omega) l
  refine this.imp fun h => by simpa using h
theorem sortL_eq {l : List Int} (h : l.length < 4611686018427387904) : sortL l = some (srt l) := by rw [sortL, if_pos h]
theorem update_inc {s add del : List Int} (hd : Inc del) (hl : del.length ≤ 500000) (h1 : s.length ≤ 500000) (h2 : add.length ≤ 500000) :
    ∃ r, strips_Update s add del = some r ∧ Inc r ∧ ∀ x, x ∈ r ↔ (x ∈ s ∧ x ∉ del) ∨ x ∈ add := by
  unfold strips_Update
  rw [forR_filter (l := s) (b := 8) (fun a => a ∉ del) (fun j a c h => by
    obtain ⟨i, hi⟩ := bsearch2 hd hl a
    unfold strips_Update_l1
    rw [h]
    simp only [Option.bind_some, hi, dec_not]
    refine ⟨fun hq => ?_, fun hq => ?_⟩
    · rw [if_pos (dec_of hq)]
      cases app 8 c [a] <;> rfl
    · rw [if_neg (by simpa using hq)]; rfl) [] (by simp; omega)]
  simp only [Option.bind_some, List.nil_append]
  have hle : (s.filter fun a => dec (a ∉ del)).length ≤ s.length := List.length_filter_le _ _
  rw [show app 8 (s.filter fun a => dec (a ∉ del)) add = some ((s.filter fun a => dec (a ∉ del)) ++ add) by rw [app, if_pos]; omega]
  simp only [Option.bind_some]
  rw [sortL_eq (by rw [List.length_append]; omega)]
  simp only [Option.bind_some]
  obtain ⟨e1, e2⟩ := srt_spec ((s.filter fun a => dec (a ∉ del)) ++ add)
  obtain ⟨e3, e4⟩ := compact_spec e1
  refine ⟨_, rfl, e3, fun x => ?_⟩
  rw [e4, e2, List.mem_append, List.mem_filter, dec_true]
theorem update_eq {s add del : List Int} {n : Int} (hn : n ≤ 1000) (hd : Inc del) (hl : del.length ≤ 500000) (hs : SetN s n) (ha : SetN add n) :
    strips_Update s add del = some (setOf (fun x => (x ∈ s ∧ x ∉ del) ∨ x ∈ add) n) := by
  have h1 := hs.len; have h2 := ha.len
  obtain ⟨r, e1, e2, e3⟩ := update_inc (s := s) (add := add) hd hl (by omega) (by omega)
  rw [e1, SetN.eq_of (n := n) ⟨e2, fun x hx => ?_⟩ (fun x _ _ => e3 x)]
  rcases (e3 x).1 hx with h | h
  · exact hs.2 x h.1
  · exact ha.2 x h
theorem union_eq {a b : List Int} {n : Int} (hn : n ≤ 1000) (ha : SetN a n) (hb : SetN b n) : strips_Union a b = some (setOf (fun x => x ∈ a ∨ x ∈ b) n) := by
  unfold strips_Union
  rw [update_eq hn .nil (by simp) ha hb]
  simp
end Ab
end
section
namespace Ab
open Go
def opSets (o : TOperator) (n : Int) : Prop := SetN o.pre n ∧ SetN o.add n ∧ SetN o.del n ∧ ∀ x ∈ o.add, x ∉ o.del
def opCost (o : TOperator) : Prop := 0 ≤ o.cost ∧ o.cost ≤ 100
noncomputable def opCode (o : TOperator) (n : Int) : Int := if dec (opSets o n) = true then if dec (opCost o) = true then 0 else 3 else 5
structure TaskOk (t : TTask) : Prop where
  n0 : 0 ≤ t.facts
  n1 : t.facts ≤ 24
  init : SetN t.init t.facts
  goal : SetN t.goal t.facts
  ops : t.operators.length ≤ 40
  op : ∀ o ∈ t.operators, opSets o t.facts ∧ opCost o
theorem opCode_zero {o : TOperator} {n : Int} : opCode o n = 0 ↔ opSets o n ∧ opCost o := by
  unfold opCode
  by_cases h : opSets o n
  · rw [if_pos (dec_of h)]
    by_cases g : opCost o
    · rw [if_pos (dec_of g)]; simp [h, g]
    · rw [if_neg (by rw [dec_no g]; simp)]; simp [g]
  · rw [if_neg (by rw [dec_no h]; simp)]; simp [h]
theorem operator_eq {o : TOperator} {n : Int} (h0 : 0 ≤ n) (h1 : n ≤ 24) : strips_operator o n = some (opCode o n) := by
  unfold strips_operator opCode
  simp only [isSet_eq, Option.bind_some, dec_not]
  have bad : ¬ opSets o n → dec (opSets o n) = true → False := fun h g => h (dec_true.1 g)
  by_cases c1 : SetN o.pre n
  · rw [if_neg (by simpa using c1)]
    by_cases c2 : SetN o.add n
    · rw [if_neg (by simpa using c2)]
      by_cases c3 : SetN o.del n
      · rw [if_neg (by simpa using c3)]
        have hl := c3.len
        rw [meets_eq c3.1 (by omega)]
        simp only [Option.bind_some]
        by_cases c4 : ∃ x ∈ o.add, x ∈ o.del
        · rw [if_pos (dec_of c4), if_neg]
          rw [dec_true]
          obtain ⟨x, g1, g2⟩ := c4
          exact fun h => h.2.2.2 x g1 g2
        · have hs : opSets o n := ⟨c1, c2, c3, fun x g1 g2 => c4 ⟨x, g1, g2⟩⟩
          rw [if_neg (by rw [dec_no c4]; simp), if_pos (dec_of hs)]
          by_cases c5 : opCost o
          · rw [if_pos (dec_of c5), if_neg]
            have := c5.1; have := c5.2
            simp; omega
          · rw [if_neg (fun h => c5 (dec_true.1 h)), if_pos]
            unfold opCost at c5
            simp; omega
      · rw [if_pos (by simpa using c3)]
        simp only [Option.bind_some, if_true]
        rw [if_neg fun h => c3 (dec_true.1 h).2.2.1]
    · rw [if_pos (by simpa using c2)]
      simp only [Option.bind_some, if_true]
      rw [if_neg fun h => c2 (dec_true.1 h).2.1]
  · rw [if_pos (by simpa using c1)]
    simp only [Option.bind_some, if_true]
    rw [if_neg fun h => c1 (dec_true.1 h).1]
theorem validate_eq (t : TTask) : ∃ f, strips_Validate t = some f ∧ ref1_TaskFault t = some f ∧ ((f = ⟨0, 0⟩ ∧ TaskOk t) ∨ (f.code ≠ 0 ∧ ¬ TaskOk t)) := by
  unfold strips_Validate ref1_TaskFault
  simp only [in_eq, at_eq, Option.bind_some, dec_not]
  by_cases c1 : 0 ≤ t.facts ∧ t.facts ≤ 24
  · rw [if_neg (by simp; omega), ifNN c1]
    simp only [isSet_eq, rIsSet_eq (n := t.facts) _ (by omega) (by omega), Option.bind_some, dec_not]
    by_cases c2 : SetN t.init t.facts
    · rw [ifNN c2, ifNN c2]
      by_cases c3 : SetN t.goal t.facts
      · rw [ifNN c3, ifNN c3]
        by_cases c4 : 40 < (t.operators.length : Int)
        · rw [if_pos c4, if_pos c4]
          exact ⟨_, rfl, rfl, .inr ⟨by simp, fun h => by have := h.ops; omega⟩⟩
        · rw [if_neg c4, if_neg c4]
          have hb : ∀ j : Int, 0 ≤ j → j < t.operators.length → ∃ o, ix t.operators j = some o ∧ strips_Validate_l1 t j () = some (if opCode o t.facts = 0 then .inl () else .inr ⟨opCode o t.facts, j⟩) ∧ ref1_TaskFault_l1 t j () = some (if opCode o t.facts = 0 then .inl () else .inr ⟨opCode o t.facts, j⟩) := fun j h0 h1 => by
            obtain ⟨o, ho, _⟩ := ix_of (l := t.operators) h0 h1
            refine ⟨o, ho, ?_, ?_⟩
            · unfold strips_Validate_l1
              rw [ho]
              simp only [Option.bind_some, operator_eq c1.1 c1.2]
              by_cases e : opCode o t.facts = 0
              · rw [if_pos e, if_pos e]
              · rw [if_neg e, if_neg e]
            · unfold ref1_TaskFault_l1
              rw [ho]
              simp only [Option.bind_some, rIsSet_eq (n := t.facts) _ (show -9223372036854775808 < t.facts by omega) (show t.facts ≤ 9223372036854775807 by omega), disjoint_eq, in_eq, at_eq, dec_not]
              have hp : (if dec (¬ SetN o.pre t.facts) = true then some true else if dec (¬ SetN o.add t.facts) = true then some true else if dec (¬ SetN o.del t.facts) = true then some true else some (dec (¬ ∀ x ∈ o.add, x ∉ o.del))) = some (dec (¬ opSets o t.facts)) := by
                unfold opSets
                by_cases g1 : SetN o.pre t.facts
                · rw [if_neg (by simpa using g1)]
                  by_cases g2 : SetN o.add t.facts
                  · rw [if_neg (by simpa using g2)]
                    by_cases g3 : SetN o.del t.facts
                    · rw [if_neg (by simpa using g3)]
                      exact congrArg some (dec_congr ⟨fun h g => h g.2.2.2, fun h g => h ⟨g1, g2, g3, g⟩⟩)
                    · rw [if_pos (by simpa using g3), dec_of (fun g => g3 g.2.2.1)]
                  · rw [if_pos (by simpa using g2), dec_of (fun g => g2 g.2.1)]
                · rw [if_pos (by simpa using g1), dec_of (fun g => g1 g.1)]
              rw [hp]
              simp only [Option.bind_some]
              unfold opCode
              by_cases g1 : opSets o t.facts
              · rw [if_neg (by simpa using g1), if_pos (dec_of g1)]
                by_cases g2 : opCost o
                · rw [ifP g2, ifNN (p := 0 ≤ o.cost ∧ o.cost ≤ 100) g2]; rfl
                · rw [ifN g2, ifP (p := ¬ (0 ≤ o.cost ∧ o.cost ≤ 100)) g2]; rfl
              · rw [if_pos (dec_of g1), if_neg (fun h => g1 (dec_true.1 h))]; rfl
          have heq : rngX 0 (t.operators.length : Int) (strips_Validate_l1 t) () = rngX 0 (t.operators.length : Int) (ref1_TaskFault_l1 t) () :=
            (rngX_eq (fun _ _ => True) (by omega) trivial (fun j s h0 h1 _ => by
              obtain ⟨o, _, e1, e2⟩ := hb j h0 h1
              exact ⟨by rw [e1, e2], by rw [e1]; simp, fun _ _ => trivial⟩)).1
          rcases rngX_test (body := ref1_TaskFault_l1 t) (n := (t.operators.length : Int)) (fun j => match ix t.operators j with | some o => if opCode o t.facts = 0 then none else some (⟨opCode o t.facts, j⟩ : TFault) | none => none) (by omega) (fun j h0 h1 _ => by
            obtain ⟨o, e0, _, e2⟩ := hb j h0 h1
            rw [e2, e0]
            dsimp only
            split <;> rfl) with ⟨h1, h2⟩ | ⟨j, f, h0, h1, h2, _, h4⟩
          · rw [heq, h1]
            refine ⟨⟨0, 0⟩, rfl, rfl, .inl ⟨rfl, c1.1, c1.2, c2, c3, by omega, fun o ho => ?_⟩⟩
            obtain ⟨j, g0, g1, g2⟩ := mem_ix ho
            have := h2 j g0 g1
            rw [g2] at this
            dsimp only at this
            split at this
            · rename_i e; exact opCode_zero.1 e
            · cases this
          · rw [heq, h4]
            obtain ⟨o, e0, _, _⟩ := hb j h0 h1
            rw [e0] at h2
            dsimp only at h2
            split at h2
            · cases h2
            · rename_i e
              cases h2
              exact ⟨_, rfl, rfl, .inr ⟨e, fun h => e (opCode_zero.2 (h.op o (ix_mem e0)))⟩⟩
      · rw [ifP c3, ifP c3]
        exact ⟨_, rfl, rfl, .inr ⟨by simp, fun h => c3 h.goal⟩⟩
    · rw [ifP c2, ifP c2]
      exact ⟨_, rfl, rfl, .inr ⟨by simp, fun h => c2 h.init⟩⟩
  · rw [if_pos (by simp; omega), if_pos (dec_of c1)]
    exact ⟨_, rfl, rfl, .inr ⟨by simp, fun h => c1 ⟨h.n0, h.n1⟩⟩⟩
theorem fault_no {f : TFault} (h : f.code ≠ 0) : (!((decide (f.code = 0)) && (decide (f.index = 0)))) = true := by simp [h]
theorem rSteps_eq {n : Int} (h0 : 0 ≤ n) (h1 : n ≤ 9223372036854775807) (plan : List Int) : ∃ f, ref1_StepsFault n plan = some f ∧ ((f = ⟨0, 0⟩ ∧ plan.length ≤ 60 ∧ ∀ x ∈ plan, 0 ≤ x ∧ x < n) ∨ (f.code ≠ 0 ∧ ¬ (plan.length ≤ 60 ∧ ∀ x ∈ plan, 0 ≤ x ∧ x < n))) := by
  unfold ref1_StepsFault
  by_cases c : 60 < (plan.length : Int)
  · rw [if_pos c]
    exact ⟨⟨2, -5⟩, rfl, .inr ⟨by simp, fun h => by omega⟩⟩
  · rw [if_neg c]
    rw [rng_list (l := plan) (fun x => 0 ≤ x ∧ x < n) (⟨3, -6⟩ : TFault) (fun j a h => by
      unfold ref1_StepsFault_l1
      rw [h]
      simp only [Option.bind_some, in_eq, at_eq, w64_of (n := n - 1) (by omega) (by omega), dec_not]
      by_cases g : 0 ≤ a ∧ a < n
      · rw [if_neg (by simp; omega)]; exact .inl ⟨g, rfl⟩
      · rw [if_pos (by rw [dec_true]; omega)]; exact .inr ⟨g, rfl⟩)]
    by_cases g : ∀ x ∈ plan, 0 ≤ x ∧ x < n
    · rw [if_pos (dec_of g)]
      exact ⟨_, rfl, .inl ⟨rfl, by omega, g⟩⟩
    · rw [if_neg (fun h => g (dec_true.1 h))]
      exact ⟨_, rfl, .inr ⟨by simp, fun h => g h.2⟩⟩
/-! ### What operators and plans do -/
def noOp : TOperator := ⟨[], [], [], 0⟩
def opAt (t : TTask) (op : Int) : TOperator := (t.operators[op.toNat]?).getD noOp
theorem ix_op {t : TTask} {op : Int} (h0 : 0 ≤ op) (h1 : op < t.operators.length) : ix t.operators op = some (opAt t op) := by
  obtain ⟨a, h2, h3⟩ := ix_of h0 h1
  rw [h2, opAt, h3]; rfl
theorem TaskOk.at {t : TTask} (h : TaskOk t) {op : Int} (h0 : 0 ≤ op) (h1 : op < t.operators.length) : opSets (opAt t op) t.facts ∧ opCost (opAt t op) := h.op _ (ix_mem (ix_op h0 h1))
def can (t : TTask) (s : List Int) (op : Int) : Prop := ∀ x ∈ (opAt t op).pre, x ∈ s
noncomputable def aft (t : TTask) (s : List Int) (op : Int) : List Int := setOf (fun x => x ∈ (opAt t op).add ∨ x ∈ s ∧ x ∉ (opAt t op).del) t.facts
theorem setN_aft (t : TTask) (s : List Int) (op : Int) : SetN (aft t s op) t.facts := setN_setOf _ _
theorem applies_eq {t : TTask} {op : Int} (h0 : 0 ≤ op) (h1 : op < t.operators.length) (s : List Int) : ref1_Applies t s op = some (dec (can t s op)) := by
  unfold ref1_Applies
  rw [ix_op h0 h1]
  simp only [Option.bind_some, subset_eq]
  rfl
theorem after_eq {t : TTask} (ht : TaskOk t) {op : Int} (h0 : 0 ≤ op) (h1 : op < t.operators.length) (s : List Int) : ref1_After t s op = some (aft t s op) := by
  have := ht.n1
  unfold ref1_After
  rw [if_pos (by omega)]
  rw [forR_setOf (b := 8) (fun x => x ∈ (opAt t op).add ∨ x ∈ s ∧ x ∉ (opAt t op).del) ht.n0 (by omega) (fun j c g0 g1 => by
    unfold ref1_After_l1
    simp only [ix_op h0 h1, Option.bind_some, has_eq, dec_not]
    have e : (if dec (j ∈ (opAt t op).add) = true then some true else if dec (j ∈ s) = true then some (dec (j ∉ (opAt t op).del)) else some false) = some (dec (j ∈ (opAt t op).add ∨ j ∈ s ∧ j ∉ (opAt t op).del)) := by
      by_cases c1 : j ∈ (opAt t op).add
      · rw [if_pos (dec_of c1), dec_of (.inl c1)]
      · rw [if_neg (fun h => c1 (dec_true.1 h))]
        by_cases c2 : j ∈ s
        · rw [if_pos (dec_of c2)]
          exact congrArg some (dec_congr ⟨fun h => .inr ⟨c2, h⟩, fun h => (h.resolve_left c1).2⟩)
        · rw [if_neg (fun h => c2 (dec_true.1 h)), dec_no (fun h => c2 (h.resolve_left c1).1)]
    rw [e]
    simp only [Option.bind_some]
    refine ⟨fun hq => ?_, fun hq => ?_⟩
    · rw [if_pos (dec_of hq)]
      cases app 8 c [j] <;> rfl
    · rw [if_neg (fun h => hq (dec_true.1 h))]; rfl)]
  rfl
theorem can_eq {t : TTask} (ht : TaskOk t) {op : Int} (h0 : 0 ≤ op) (h1 : op < t.operators.length) {s : List Int} (hs : SetN s t.facts) : strips_Can t s op = some (dec (can t s op)) := by
  have := ht.n1; have := hs.len
  unfold strips_Can
  rw [ix_op h0 h1]
  simp only [Option.bind_some]
  rw [contains_eq hs.1 (ht.at h0 h1).1.1.1 (by omega)]
  rfl
theorem next_eq {t : TTask} (ht : TaskOk t) {op : Int} (h0 : 0 ≤ op) (h1 : op < t.operators.length) {s : List Int} (hs : SetN s t.facts) : strips_Next t s op = some (aft t s op) := by
  have := ht.n1
  obtain ⟨⟨_, k2, k3, _⟩, _⟩ := ht.at h0 h1
  have hl := k3.len
  unfold strips_Next
  rw [ix_op h0 h1]
  simp only [Option.bind_some]
  rw [update_eq (n := t.facts) (by omega) k3.1 (by omega) hs k2]
  simp only [Option.bind_some, aft]
  exact congrArg some (setOf_congr fun x _ _ => Or.comm)
/-- The state in which a plan ends, if its steps are applicable. -/
noncomputable def ends (t : TTask) : List Int → List Int → Option (List Int)
  | s, [] => some s
  | s, op :: r => if dec (can t s op) = true then ends t (aft t s op) r else none
theorem ends_append {t : TTask} : ∀ {p q s : List Int}, ends t s (p ++ q) = (ends t s p).bind fun e => ends t e q
  | [], q, s => rfl
  | op :: r, q, s => by
    simp only [List.cons_append, ends]
    split
    · exact ends_append
    · rfl
theorem rEnds_eq {t : TTask} (ht : TaskOk t) {plan : List Int} (hp : ∀ x ∈ plan, 0 ≤ x ∧ x < t.operators.length) (s : List Int) : ref1_Ends t s plan = some (match ends t s plan with | some e => (e, true) | none => ([], false)) := by
  unfold ref1_Ends
  rcases rngX_inv (body := ref1_Ends_l1 t plan) (n := (plan.length : Int)) (fun j c => ends t s plan = ends t c (plan.drop j.toNat)) (fun o => o = ([], false) ∧ ends t s plan = none) (s := s) (by omega) (by simp) (fun j c g0 g1 hP => by
    obtain ⟨a, ha, ga⟩ := ix_of (l := plan) g0 g1
    have hm := hp a (ix_mem ha)
    have hd : plan.drop j.toNat = a :: plan.drop (j.toNat + 1) := by
      obtain ⟨hlt, rfl⟩ := List.getElem?_eq_some_iff.1 ga
      exact List.drop_eq_getElem_cons hlt
    rw [hd] at hP
    unfold ref1_Ends_l1
    rw [ha]
    simp only [Option.bind_some, applies_eq hm.1 hm.2, dec_not, after_eq ht hm.1 hm.2]
    by_cases c1 : can t c a
    · rw [if_neg (by simpa using c1)]
      refine .inl ⟨_, rfl, ?_⟩
      rw [hP, ends, if_pos (dec_of c1), show (j + 1).toNat = j.toNat + 1 by omega]
    · rw [if_pos (dec_of c1)]
      refine .inr ⟨_, rfl, rfl, ?_⟩
      rw [hP, ends, if_neg (fun h => c1 (dec_true.1 h))]) with ⟨e, h1, h2⟩ | ⟨o, h1, rfl, h2⟩
  · rw [h1, h2]
    simp [ends]
  · rw [h1, h2]; rfl
theorem clone_eq {s : List Int} (h : s.length ≤ 1000000) : slices_Clone_int_int s = some s := by
  rw [slices_Clone_int_int, app, if_pos (by simp; omega)]; rfl
end Ab
end
section
namespace Ab
open Go
/-- A number under 100 in decimal digits. -/
def dg (x : Int) : List Int := if x < 10 then [48 + x] else [48 + x / 10, 48 + x % 10]
def encS (s : List Int) : List Int := s.flatMap (fun x => dg x ++ [44]) ++ [59]
def encK (l : List (List Int)) : List Int := l.flatMap encS
def small (s : List Int) : Prop := ∀ x ∈ s, 0 ≤ x ∧ x < 100
theorem dg_split {x y : Int} (hx : 0 ≤ x ∧ x < 100) (hy : 0 ≤ y ∧ y < 100) {r r' : List Int} (h : dg x ++ 44 :: r = dg y ++ 44 :: r') : x = y ∧ r = r' := by
  unfold dg at h
  split at h <;> split at h <;> simp only [List.cons_append, List.nil_append, List.cons.injEq] at h
  · exact ⟨by omega, h.2.2⟩
  · exfalso; omega
  · exfalso; omega
  · exact ⟨by omega, h.2.2.2⟩
theorem dg_head {x : Int} (hx : 0 ≤ x ∧ x < 100) : ∃ a l, dg x = a :: l ∧ 48 ≤ a ∧ a < 58 := by
  unfold dg
  split
  · exact ⟨_, _, rfl, by omega, by omega⟩
  · exact ⟨_, _, rfl, by omega, by omega⟩
theorem encS_cons (x : Int) (s : List Int) : encS (x :: s) = dg x ++ 44 :: encS s := by simp [encS]
theorem encS_inj : ∀ {s s' r r' : List Int}, small s → small s' → encS s ++ r = encS s' ++ r' → s = s' ∧ r = r'
  | [], [], r, r', _, _, h => by simp [encS] at h; exact ⟨rfl, h⟩
  | [], y :: s', r, r', _, h2, h => by
    obtain ⟨a, l, ha, h3, h4⟩ := dg_head (h2 y (by simp))
    rw [encS_cons, ha] at h
    simp only [encS, List.flatMap_nil, List.nil_append, List.cons_append, List.cons.injEq] at h
    omega
  | x :: s, [], r, r', h1, _, h => by
    obtain ⟨a, l, ha, h3, h4⟩ := dg_head (h1 x (by simp))
    rw [encS_cons, ha] at h
    simp only [encS, List.flatMap_nil, List.nil_append, List.cons_append, List.cons.injEq] at h
    omega
  | x :: s, y :: s', r, r', h1, h2, h => by
    rw [encS_cons, encS_cons, List.append_assoc, List.append_assoc, List.cons_append, List.cons_append] at h
    obtain ⟨rfl, g⟩ := dg_split (h1 x (by simp)) (h2 y (by simp)) h
    obtain ⟨e1, e2⟩ := encS_inj (s := s) (s' := s') (fun z hz => h1 z (List.mem_cons_of_mem _ hz)) (fun z hz => h2 z (List.mem_cons_of_mem _ hz)) g
    exact ⟨by rw [e1], e2⟩
theorem encK_inj : ∀ {l l' : List (List Int)}, (∀ s ∈ l, small s) → (∀ s ∈ l', small s) → encK l = encK l' → l = l'
  | [], [], _, _, _ => rfl
  | [], s :: l', _, _, h => by
    have h := congrArg List.length h
    simp only [encK, encS, List.flatMap_nil, List.flatMap_cons, List.length_append, List.length_nil, List.length_cons] at h
    omega
  | s :: l, [], _, _, h => by
    have h := congrArg List.length h
    simp only [encK, encS, List.flatMap_nil, List.flatMap_cons, List.length_append, List.length_nil, List.length_cons] at h
    omega
  | s :: l, s' :: l', h1, h2, h => by
    have h : encS s ++ encK l = encS s' ++ encK l' := h
    obtain ⟨e1, e2⟩ := encS_inj (h1 s (List.mem_cons_self ..)) (h2 s' (List.mem_cons_self ..)) h
    have e3 := encK_inj (l := l) (l' := l') (fun z hz => h1 z (List.mem_cons_of_mem _ hz)) (fun z hz => h2 z (List.mem_cons_of_mem _ hz)) e2
    rw [e1, e3]
theorem dg_byte {x : Int} (hx : 0 ≤ x ∧ x < 100) : ∀ a ∈ dg x, 0 ≤ a ∧ a < 256 := by
  intro a ha
  unfold dg at ha
  split at ha <;> simp at ha <;> omega
theorem encS_byte {s : List Int} (h : small s) : ∀ a ∈ encS s, 0 ≤ a ∧ a < 256 := by
  intro a ha
  simp only [encS, List.mem_append, List.mem_flatMap, List.mem_singleton] at ha
  rcases ha with ⟨x, hx, h1 | h1⟩ | h1
  · exact dg_byte (h x hx) a h1
  · omega
  · omega
theorem encK_byte {l : List (List Int)} (h : ∀ s ∈ l, small s) : ∀ a ∈ encK l, 0 ≤ a ∧ a < 256 := by
  intro a ha
  simp only [encK, List.mem_flatMap] at ha
  obtain ⟨s, hs, h1⟩ := ha
  exact encS_byte (h s hs) a h1
theorem strB_inj {l l' : List Int} (h1 : ∀ a ∈ l, 0 ≤ a ∧ a < 256) (h2 : ∀ a ∈ l', 0 ≤ a ∧ a < 256) (h : strB l = strB l') : l = l' := by
  have h3 : l.map (fun n => UInt8.ofNat n.toNat) = l'.map (fun n => UInt8.ofNat n.toNat) := by
    have := congrArg ByteArray.data h
    simpa [strB] using this
  have back : ∀ {m : List Int}, (∀ a ∈ m, 0 ≤ a ∧ a < 256) → (m.map (fun n => UInt8.ofNat n.toNat)).map (fun b => (b.toNat : Int)) = m := by
    intro m hm
    rw [List.map_map]
    conv => rhs; rw [← List.map_id m]
    apply List.map_congr_left
    intro a ha
    have := hm a ha
    simp only [Function.comp_apply, id_eq, UInt8.toNat_ofNat']
    omega
  rw [← back h1, ← back h2, h3]
/-- The key of a list of sets. -/
def keyK (l : List (List Int)) : ByteArray := strB (encK l)
theorem keyK_inj {l l' : List (List Int)} (h1 : ∀ s ∈ l, small s) (h2 : ∀ s ∈ l', small s) (h : keyK l = keyK l') : l = l' := encK_inj h1 h2 (strB_inj (encK_byte h1) (encK_byte h2) h)
/-! ### Maps -/
theorem mget_mset {K V : Type} [DecidableEq K] (k k' : K) (v : V) : ∀ m : List (K × V), mget (mset m k v) k' = if k' = k then some v else mget m k'
  | [] => by
    simp only [mset, mget]
  | p :: r => by
    simp only [mset]
    by_cases h : k = p.1
    · rw [if_pos h]
      simp only [mget]
      by_cases h2 : k' = k
      · rw [if_pos h2, if_pos h2]
      · rw [if_neg h2, if_neg h2, if_neg (by rw [← h]; exact h2)]
    · rw [if_neg h]
      simp only [mget]
      rw [mget_mset k k' v r]
      by_cases h2 : k' = p.1
      · rw [if_pos h2, if_pos h2, if_neg (fun e => h (e.symm.trans h2))]
      · rw [if_neg h2, if_neg h2]
end Ab
end
section
namespace Ab
open Go
def lexLe : List Int → List Int → Prop
  | [], _ => True
  | _ :: _, [] => False
  | a :: l, b :: m => a < b ∨ a = b ∧ lexLe l m
theorem lexLe.refl : ∀ l : List Int, lexLe l l
  | [] => trivial
  | a :: l => .inr ⟨rfl, lexLe.refl l⟩
/-- The step of party p that comes next. -/
def nxt (plans : List (List Int)) (at_ : List Int) (p : Int) : Option Int := (ix plans p).bind fun l => (ix at_ p).bind fun a => ix l a
def bump (at_ : List Int) (p : Int) : List Int := at_.set p.toNat ((ix at_ p).getD 0 + 1)
/-- How far each party is. -/
structure AtOk (plans : List (List Int)) (at_ : List Int) : Prop where
  len : at_.length = plans.length
  rng : ∀ p l a, ix plans p = some l → ix at_ p = some a → 0 ≤ a ∧ a ≤ l.length
def allDone (plans : List (List Int)) (at_ : List Int) : Prop := ∀ p l a, ix plans p = some l → ix at_ p = some a → a = l.length
def good (t : TTask) (plans : List (List Int)) (gs : List Int) : List Int → List Int → List Int → Prop
  | s, at_, [] => allDone plans at_ ∧ ∀ x ∈ gs, x ∈ s
  | s, at_, p :: l => ∃ op, nxt plans at_ p = some op ∧ can t s op ∧ good t plans gs (aft t s op) (bump at_ p) l
def Least (t : TTask) (plans : List (List Int)) (gs : List Int) (s at_ l : List Int) : Prop := good t plans gs s at_ l ∧ ∀ m, good t plans gs s at_ m → lexLe l m
theorem AtOk.get {plans : List (List Int)} {at_ : List Int} (h : AtOk plans at_) {p : Int} {l : List Int} (hp : ix plans p = some l) : ∃ a, ix at_ p = some a ∧ 0 ≤ a ∧ a ≤ l.length := by
  obtain ⟨h0, h1, _⟩ := ix_lo hp
  obtain ⟨a, ha, _⟩ := ix_of (l := at_) h0 (by rw [h.len]; exact h1)
  exact ⟨a, ha, h.rng p l a hp ha⟩
theorem nxt_some {plans : List (List Int)} {at_ : List Int} {p op : Int} (h : nxt plans at_ p = some op) : ∃ l a, ix plans p = some l ∧ ix at_ p = some a ∧ ix l a = some op := by
  unfold nxt at h
  cases h1 : ix plans p with
  | none => rw [h1] at h; cases h
  | some l =>
    cases h2 : ix at_ p with
    | none => rw [h1, h2] at h; cases h
    | some a => rw [h1, h2] at h; exact ⟨l, a, rfl, rfl, h⟩
theorem nxt_of {plans : List (List Int)} {at_ : List Int} {p op a : Int} {l : List Int} (h1 : ix plans p = some l) (h2 : ix at_ p = some a) (h3 : ix l a = some op) : nxt plans at_ p = some op := by
  unfold nxt
  rw [h1, h2]
  exact h3
theorem bump_eq {at_ : List Int} {p a : Int} (h : ix at_ p = some a) : bump at_ p = at_.set p.toNat (a + 1) := by
  unfold bump
  rw [h]; rfl
theorem ix_bump {at_ : List Int} {p a q : Int} (h : ix at_ p = some a) (hq : 0 ≤ q) : ix (bump at_ p) q = if q = p then some (a + 1) else ix at_ q := by
  obtain ⟨h0, h1, _⟩ := ix_lo h
  rw [bump_eq h, ix_put h0 h1 hq]
theorem AtOk.bump {plans : List (List Int)} {at_ : List Int} (h : AtOk plans at_) {p op : Int} (hn : nxt plans at_ p = some op) : AtOk plans (bump at_ p) := by
  obtain ⟨l, a, h1, h2, h3⟩ := nxt_some hn
  refine ⟨by rw [bump_eq h2, List.length_set]; exact h.len, fun q m b hq hb => ?_⟩
  obtain ⟨q0, _, _⟩ := ix_lo hq
  rw [ix_bump h2 q0] at hb
  split at hb
  · rename_i e
    subst e
    rw [h1] at hq
    cases hq; cases hb
    obtain ⟨a0, a1, _⟩ := ix_lo h3
    omega
  · exact h.rng q m b hq hb
/-- The steps that are left. -/
def left (plans : List (List Int)) (at_ : List Int) : Nat := ((List.zip plans at_).map fun x => x.1.length - x.2.toNat).sum
theorem left_bump : ∀ {plans : List (List Int)} {at_ : List Int} {p : Nat} {l : List Int} {a : Int}, plans[p]? = some l → at_[p]? = some a → 0 ≤ a → a < l.length → left plans (at_.set p (a + 1)) + 1 = left plans at_
  | l0 :: plans, a0 :: at_, 0, l, a, h1, h2, h3, h4 => by
    simp only [List.getElem?_cons_zero, Option.some.injEq] at h1 h2
    subst h1 h2
    simp only [List.set_cons_zero, left, List.zip_cons_cons, List.map_cons, List.sum_cons]
    omega
  | l0 :: plans, a0 :: at_, p + 1, l, a, h1, h2, h3, h4 => by
    have := left_bump (plans := plans) (at_ := at_) (p := p) (by simpa using h1) (by simpa using h2) h3 h4
    simp only [List.set_cons_succ, left, List.zip_cons_cons, List.map_cons, List.sum_cons] at this ⊢
    omega
  | [], _, _, _, _, h, _, _, _ => by simp at h
  | _ :: _, [], _, _, _, _, h, _, _ => by simp at h
theorem nxt_left {plans : List (List Int)} {at_ : List Int} {p op : Int} (hn : nxt plans at_ p = some op) : left plans (bump at_ p) + 1 = left plans at_ := by
  obtain ⟨l, a, h1, h2, h3⟩ := nxt_some hn
  obtain ⟨p0, p1, p2⟩ := ix_lo h1
  obtain ⟨_, _, q2⟩ := ix_lo h2
  obtain ⟨a0, a1, _⟩ := ix_lo h3
  rw [bump_eq h2]
  exact left_bump p2 q2 a0 a1
theorem good_len {t : TTask} {plans : List (List Int)} {gs : List Int} : ∀ {l s at_ : List Int}, AtOk plans at_ → good t plans gs s at_ l → l.length = left plans at_
  | [], s, at_, ha, h => by
    have : ∀ (plans : List (List Int)) (at_ : List Int), (∀ (k : Nat) (l : List Int) (a : Int), plans[k]? = some l → at_[k]? = some a → a = (l.length : Int)) → left plans at_ = 0 := by
      intro plans
      induction plans with
      | nil => intro at_ _; simp [left]
      | cons l plans ih =>
        intro at_ h
        cases at_ with
        | nil => simp [left]
        | cons a at_ =>
          have h0 := h 0 l a rfl rfl
          have h1 := ih at_ fun k l a h1 h2 => h (k + 1) l a (by simpa using h1) (by simpa using h2)
          simp only [left, List.zip_cons_cons, List.map_cons, List.sum_cons] at h1 ⊢
          omega
    rw [this plans at_ fun k l a h1 h2 => h.1 k l a (by rw [ix_nat]; exact h1) (by rw [ix_nat]; exact h2)]
    rfl
  | p :: l, s, at_, ha, h => by
    obtain ⟨op, h1, _, h3⟩ := h
    have := good_len (ha.bump h1) h3
    have := nxt_left h1
    simp only [List.length_cons]
    omega
end Ab
end
section
namespace Ab
open Go
theorem numbers_eq (a b : List Int) : equal_Numbers a b = some (dec (a = b)) := by
  unfold equal_Numbers
  by_cases hl : (a.length : Int) = b.length
  · rw [if_pos hl]
    rcases rngX_test (body := equal_Numbers_l1 a b) (n := (a.length : Int)) (fun j => if dec (ix a j = ix b j) = true then none else some false) (by omega) (fun j h0 h1 _ => by
      obtain ⟨x, hx, _⟩ := ix_of (l := a) h0 h1
      obtain ⟨y, hy, _⟩ := ix_of (l := b) (i := j) h0 (by omega)
      unfold equal_Numbers_l1
      rw [hx, hy]
      simp only [Option.bind_some]
      by_cases e : x = y
      · rw [if_pos e, ifP (by rw [e])]
      · rw [if_neg e, ifN (by simpa using e)]) with ⟨h1, h2⟩ | ⟨j, o, h0, h1, h2, _, h4⟩
    · rw [h1, dec_of]
      · rfl
      · refine List.ext_getElem? fun k => ?_
        by_cases hk : k < a.length
        · have := h2 k (by omega) (by omega)
          split at this
          · rename_i e
            have := dec_true.1 e
            rwa [ix_nat, ix_nat] at this
          · cases this
        · rw [List.getElem?_eq_none (by omega), List.getElem?_eq_none (by omega)]
    · rw [h4]
      split at h2
      · cases h2
      · rename_i e
        cases h2
        rw [dec_no (fun h => e (dec_of (by rw [h])))]; rfl
  · rw [if_neg hl, dec_no (fun h => hl (by rw [h]))]
def stepT : TTask := ⟨2, [0], [1], [⟨[0], [1], [0], 1⟩, ⟨[], [1], [], 3⟩]⟩
theorem setN1 (a : Int) {n : Int} (h0 : 0 ≤ a) (h1 : a < n) : SetN [a] n := ⟨by simp, by simp [h0, h1]⟩
theorem step_ok : TaskOk stepT where
  n0 := by decide
  n1 := by decide
  init := setN1 0 (by decide) (by decide)
  goal := setN1 1 (by decide) (by decide)
  ops := by decide
  op o ho := by
    simp only [stepT, List.mem_cons, List.not_mem_nil, or_false] at ho
    rcases ho with rfl | rfl
    · exact ⟨⟨setN1 0 (by decide) (by decide), setN1 1 (by decide) (by decide), setN1 0 (by decide) (by decide), by simp⟩, by decide, by decide⟩
    · exact ⟨⟨setN_nil _, setN1 1 (by decide) (by decide), setN_nil _, by simp⟩, by decide, by decide⟩
end Ab
end
section
namespace Ab
open Go
/-- A list made by appending a piece for each element. -/
theorem forR_flatMap {α β : Type} {l : List α} {body : Int → List β → Option (List β)} (g : α → List β) (N : Nat) (c0 : List β)
    (hb : ∀ j a c, ix l j = some a → c.length + (g a).length ≤ N → body j c = some (c ++ g a)) (hN : c0.length + (l.flatMap g).length ≤ N) :
    forR 0 (l.length : Int) body c0 = some (c0 ++ l.flatMap g) := by
  obtain ⟨s', h1, h2⟩ := forR_inv (body := body) (n := (l.length : Int)) (s := c0) (fun j c => c = c0 ++ (l.take j.toNat).flatMap g) (by omega) (by simp) (fun j c h0 h1 hP => by
    obtain ⟨a, g1, g2⟩ := ix_of h0 h1
    have e : (j + 1).toNat = j.toNat + 1 := by omega
    have ht : l.take (j + 1).toNat = l.take j.toNat ++ [a] := by rw [e, List.take_add_one, g2]; rfl
    refine ⟨c ++ g a, hb j a c g1 ?_, ?_⟩
    · have hs : l = l.take j.toNat ++ [a] ++ l.drop (j + 1).toNat := by rw [← ht, List.take_append_drop]
      have hl : (l.flatMap g).length = ((l.take j.toNat).flatMap g).length + (g a).length + ((l.drop (j + 1).toNat).flatMap g).length := by
        conv => lhs; rw [hs]
        simp [List.flatMap_append]; omega
      rw [hP, List.length_append]; omega
    · rw [ht, List.flatMap_append, hP]; simp)
  rw [h1, h2]
  simp
theorem small_eq : ∀ n : Fin 100, (internal_strconv_small (n : Nat)).map strL = some (dg (n : Nat)) := by decide +kernel
theorem appendInt_eq {x : Int} (hx : 0 ≤ x ∧ x < 100) {l : List Int} (hl : l.length ≤ 1000000) : strconv_AppendInt_w1 x 10 l = some (l ++ dg x) := by
  have h := small_eq ⟨x.toNat, by omega⟩
  rw [show (((⟨x.toNat, by omega⟩ : Fin 100) : Nat) : Int) = x by simp; omega] at h
  obtain ⟨b, h1, h2⟩ := Option.map_eq_some_iff.1 h
  unfold strconv_AppendInt_w1 internal_strconv_AppendInt_w2 internal_strconv_AppendUint_w3
  rw [if_neg (by omega), IntKind.wrap_u64, Int.emod_eq_of_lt (by omega) (by omega)]
  simp only [Option.bind_some, if_true]
  rw [if_pos hx.2, w64_of (by omega) (by omega), h1]
  simp only [Option.bind_some, h2]
  have : (dg x).length ≤ 2 := by unfold dg; split <;> simp
  rw [app, if_pos (by omega)]
  rfl
theorem dg_len (x : Int) : (dg x).length ≤ 2 := by unfold dg; split <;> simp
theorem key_eq {l : List (List Int)} (hs : ∀ s ∈ l, small s) (hN : (encK l).length ≤ 900000) : belief_Key l = some (keyK l) := by
  unfold belief_Key
  rw [forR_flatMap encS 900000 [] (fun j s c hj hc => by
    unfold belief_Key_l1
    rw [hj]
    simp only [Option.bind_some]
    have hlen : (encS s).length = (s.flatMap fun x => dg x ++ [44]).length + 1 := by simp [encS]
    rw [forR_flatMap (fun x => dg x ++ [44]) 900000 c (fun i x c' hi hc' => by
      unfold belief_Key_l2
      rw [hi]
      simp only [List.length_append, List.length_singleton] at hc'
      simp only [Option.bind_some, appendInt_eq (hs s (ix_mem hj) x (ix_mem hi)) (l := c') (by omega)]
      rw [app, if_pos (by simp; omega)]
      simp) (by omega)]
    simp only [Option.bind_some]
    rw [app, if_pos (by rw [List.length_append]; simp only [List.length_singleton]; omega)]
    simp [encS]) (by simpa [encK] using hN)]
  rfl
theorem encS_len : ∀ s : List Int, (encS s).length ≤ 3 * s.length + 1
  | [] => by simp [encS]
  | x :: s => by
    have := encS_len s
    have := dg_len x
    rw [encS_cons]
    simp only [List.length_append, List.length_cons]
    omega
theorem key2_eq {s a : List Int} (hs : small s) (ha : small a) (h1 : s.length ≤ 1000) (h2 : a.length ≤ 1000) : belief_Key [s, a] = some (keyK [s, a]) := by
  refine key_eq (by simp [hs, ha]) ?_
  have := encS_len s; have := encS_len a
  simp only [encK, List.flatMap_cons, List.flatMap_nil, List.length_append, List.append_nil]
  omega
end Ab
end
section
namespace Ab
open Go
structure PartiesOk (t : TTask) (goals plans : List (List Int)) : Prop where
  task : TaskOk t
  n1 : 1 ≤ plans.length
  n4 : plans.length ≤ 4
  len : goals.length = plans.length
  goal : ∀ g ∈ goals, SetN g t.facts
  six : ∀ p ∈ plans, p.length ≤ 6
  op : ∀ p ∈ plans, ∀ x ∈ p, 0 ≤ x ∧ x < t.operators.length
theorem parties_eq (t : TTask) (goals plans : List (List Int)) : ∃ f, merging_check t goals plans = some f ∧ ref8_PartiesFault t goals plans = some f ∧ ((f = ⟨0, 0⟩ ∧ PartiesOk t goals plans) ∨ (f.code ≠ 0 ∧ ¬ PartiesOk t goals plans)) := by
  obtain ⟨f, h1, h2, h3⟩ := validate_eq t
  unfold merging_check ref8_PartiesFault
  rw [h1, h2]
  simp only [Option.bind_some]
  rcases h3 with ⟨rfl, ht⟩ | ⟨hc, ht⟩
  · rw [if_neg (by simp), if_pos rfl, in_eq]
    simp only [Option.bind_some, dec_not, at_eq]
    by_cases c1 : 1 ≤ (plans.length : Int) ∧ (plans.length : Int) ≤ 4
    · rw [if_neg (by rw [Bool.or_eq_true, decide_eq_true_eq, decide_eq_true_eq]; omega), ifNN c1]
      by_cases c2 : (goals.length : Int) = plans.length
      · rw [if_pos c2, if_pos c2]
        have b1 : ∀ j : Int, 0 ≤ j → j < goals.length → ∃ g, ix goals j = some g ∧ merging_check_l1 t goals j () = some (if dec (SetN g t.facts) = true then .inl () else .inr ⟨5, w64 (-10 - j)⟩) ∧ ref8_PartiesFault_l1 t goals j () = some (if dec (SetN g t.facts) = true then .inl () else .inr ⟨5, w64 (-10 - j)⟩) := fun j h0 h1 => by
          obtain ⟨g, hg, _⟩ := ix_of (l := goals) h0 h1
          refine ⟨g, hg, ?_, ?_⟩
          · unfold merging_check_l1
            rw [hg]
            simp only [Option.bind_some, isSet_eq, dec_not]
            by_cases e : SetN g t.facts
            · rw [ifNN e, ifP e]
            · rw [ifP e, ifN e]
          · unfold ref8_PartiesFault_l1
            rw [hg]
            have := ht.n0; have := ht.n1
            simp only [Option.bind_some, rIsSet_eq g (n := t.facts) (by omega) (by omega), dec_not, at_eq]
            by_cases e : SetN g t.facts
            · rw [ifNN e, ifP e]
            · rw [ifP e, ifN e]
        have e1 : rngX 0 (goals.length : Int) (merging_check_l1 t goals) () = rngX 0 (goals.length : Int) (ref8_PartiesFault_l1 t goals) () :=
          (rngX_eq (fun _ _ => True) (by omega) trivial (fun j s h0 h1 _ => by
            obtain ⟨o, _, e1, e2⟩ := b1 j h0 h1
            exact ⟨by rw [e1, e2], by rw [e1]; simp, fun _ _ => trivial⟩)).1
        rw [e1]
        have rng : ∀ a : Int, ((decide (a < 0)) || (decide ((t.operators.length : Int) ≤ a))) = true ↔ ¬ (0 ≤ a ∧ a < t.operators.length) := fun a => by simp; omega
        have b2 : ∀ j : Int, 0 ≤ j → j < plans.length → ∃ p, ix plans j = some p ∧ ∃ r : Unit ⊕ TFault, merging_check_l2 t plans j () = some r ∧ ref8_PartiesFault_l2 t plans j () = some r ∧ (r = .inl () ∨ ∃ f : TFault, r = .inr f ∧ f.code ≠ 0) ∧ (r = .inl () ↔ (p.length ≤ 6 ∧ ∀ x ∈ p, 0 ≤ x ∧ x < t.operators.length)) := fun j h0 h1 => by
          obtain ⟨p, hp, _⟩ := ix_of (l := plans) h0 h1
          refine ⟨p, hp, ?_⟩
          unfold merging_check_l2 ref8_PartiesFault_l2
          rw [hp]
          simp only [Option.bind_some]
          by_cases c3 : 6 < (p.length : Int)
          · rw [if_pos c3, if_pos c3]
            exact ⟨.inr ⟨2, w64 (-20 - j)⟩, rfl, rfl, .inr ⟨_, rfl, by simp⟩, ⟨fun h => by simp at h, fun h => by omega⟩⟩
          · rw [if_neg c3, if_neg c3]
            obtain ⟨q, q2, q3⟩ := rSteps_eq (n := (t.operators.length : Int)) (by omega) (by have := ht.ops; omega) p
            rw [q2, rng_list (l := p) (fun x => 0 ≤ x ∧ x < t.operators.length) (⟨3, w64 (-20 - j)⟩ : TFault) (fun i a hi => by
              unfold merging_check_l3
              rw [hi]
              simp only [Option.bind_some]
              by_cases g : 0 ≤ a ∧ a < t.operators.length
              · rw [if_neg (by rw [rng]; exact fun h => h g)]; exact .inl ⟨g, rfl⟩
              · rw [if_pos ((rng a).2 g)]; exact .inr ⟨g, rfl⟩)]
            simp only [Option.bind_some, at_eq]
            by_cases g : ∀ x ∈ p, 0 ≤ x ∧ x < t.operators.length
            · rw [ifP g]
              rcases q3 with ⟨rfl, _⟩ | ⟨_, k⟩
              · rw [if_pos rfl]
                exact ⟨.inl (), rfl, rfl, .inl rfl, ⟨fun _ => ⟨by omega, g⟩, fun _ => rfl⟩⟩
              · exact absurd ⟨by omega, g⟩ k
            · rw [ifN g]
              rcases q3 with ⟨_, k⟩ | ⟨k, _⟩
              · exact absurd k.2 g
              · rw [if_neg k]
                exact ⟨.inr ⟨3, w64 (-20 - j)⟩, rfl, rfl, .inr ⟨_, rfl, by simp⟩, ⟨fun h => by simp at h, fun h => absurd h.2 g⟩⟩
        have e2 : rngX 0 (plans.length : Int) (merging_check_l2 t plans) () = rngX 0 (plans.length : Int) (ref8_PartiesFault_l2 t plans) () :=
          (rngX_eq (fun _ _ => True) (by omega) trivial (fun j s h0 h1 _ => by
            obtain ⟨o, _, r, e1, e2, _⟩ := b2 j h0 h1
            exact ⟨by rw [e1, e2], by rw [e1]; simp, fun _ _ => trivial⟩)).1
        rw [e2]
        rcases rngX_inv (body := ref8_PartiesFault_l1 t goals) (n := (goals.length : Int)) (fun j _ => ∀ i g, 0 ≤ i → i < j → ix goals i = some g → SetN g t.facts) (fun o => o.code ≠ 0 ∧ ¬ PartiesOk t goals plans) (s := ()) (by omega) (fun i g h0 h1 => by omega) (fun j s h0 h1 hP => by
          obtain ⟨g, hg, _, e2⟩ := b1 j h0 h1
          rw [e2]
          by_cases e : SetN g t.facts
          · rw [ifP e]
            refine .inl ⟨(), rfl, fun i g' g0 g1 hi => ?_⟩
            by_cases e' : i = j
            · subst e'; rw [hg] at hi; cases hi; exact e
            · exact hP i g' g0 (by omega) hi
          · rw [ifN e]
            exact .inr ⟨_, rfl, by simp, fun h => e (h.goal g (ix_mem hg))⟩) with ⟨u, r1, r2⟩ | ⟨o, r1, r2, r3⟩
        · rw [r1]
          simp only [Option.bind_some]
          rcases rngX_inv (body := ref8_PartiesFault_l2 t plans) (n := (plans.length : Int)) (fun j _ => ∀ i p, 0 ≤ i → i < j → ix plans i = some p → p.length ≤ 6 ∧ ∀ x ∈ p, 0 ≤ x ∧ x < t.operators.length) (fun o => o.code ≠ 0 ∧ ¬ PartiesOk t goals plans) (s := ()) (by omega) (fun i g h0 h1 => by omega) (fun j s h0 h1 hP => by
            obtain ⟨p, hp, r, _, e2, e3, e4⟩ := b2 j h0 h1
            rw [e2]
            rcases e3 with rfl | ⟨f, rfl, hf⟩
            · refine .inl ⟨(), rfl, fun i p' g0 g1 hi => ?_⟩
              by_cases e' : i = j
              · subst e'; rw [hp] at hi; cases hi; exact e4.1 rfl
              · exact hP i p' g0 (by omega) hi
            · exact .inr ⟨_, rfl, hf, fun h => by have := e4.2 ⟨h.six p (ix_mem hp), h.op p (ix_mem hp)⟩; cases this⟩) with ⟨v, s1, s2⟩ | ⟨o, s1, s2, s3⟩
          · rw [s1]
            refine ⟨_, rfl, rfl, .inl ⟨rfl, ht, by omega, by omega, by omega, fun g hg => ?_, fun p hp => ?_, fun p hp => ?_⟩⟩
            · obtain ⟨i, i0, i1, hi⟩ := mem_ix hg; exact r2 i g i0 i1 hi
            · obtain ⟨i, i0, i1, hi⟩ := mem_ix hp; exact (s2 i p i0 i1 hi).1
            · obtain ⟨i, i0, i1, hi⟩ := mem_ix hp; exact (s2 i p i0 i1 hi).2
          · rw [s1]
            exact ⟨_, rfl, rfl, .inr ⟨s2, s3⟩⟩
        · rw [r1]
          exact ⟨_, rfl, rfl, .inr ⟨r2, r3⟩⟩
      · rw [if_neg c2, if_neg c2]
        exact ⟨_, rfl, rfl, .inr ⟨by simp, fun h => c2 (by rw [h.len])⟩⟩
    · rw [if_pos (by rw [Bool.or_eq_true, decide_eq_true_eq, decide_eq_true_eq]; omega), ifP c1]
      exact ⟨_, rfl, rfl, .inr ⟨by simp, fun h => c1 ⟨by have := h.n1; omega, by have := h.n4; omega⟩⟩⟩
  · rw [if_pos (fault_no hc), if_neg hc]
    exact ⟨f, rfl, rfl, .inr ⟨hc, fun h => ht h.task⟩⟩
/-- The goals of all parties. -/
noncomputable def allGoals (t : TTask) (goals : List (List Int)) : List Int := setOf (fun x => ∃ g ∈ goals, x ∈ g) t.facts
theorem union_all {t : TTask} {goals : List (List Int)} (hn : t.facts ≤ 24) (hg : ∀ g ∈ goals, SetN g t.facts) : merging_union goals = some (allGoals t goals) := by
  unfold merging_union
  obtain ⟨s', h1, h2⟩ := forR_inv (body := merging_union_l1 goals) (n := (goals.length : Int)) (s := []) (fun j c => c = setOf (fun x => ∃ i g, 0 ≤ i ∧ i < j ∧ ix goals i = some g ∧ x ∈ g) t.facts) (by omega) (by
    refine (setN_nil t.facts).eq_of fun x _ _ => ⟨fun h => (by cases h), ?_⟩
    rintro ⟨i, g, h0, h1, _⟩; omega) (fun j c h0 h1 hP => by
    obtain ⟨g, hj, _⟩ := ix_of (l := goals) h0 h1
    unfold merging_union_l1
    rw [hj]
    simp only [Option.bind_some]
    rw [hP, union_eq (n := t.facts) (by omega) (setN_setOf _ _) (hg g (ix_mem hj))]
    refine ⟨_, rfl, setOf_congr fun x x0 x1 => ?_⟩
    rw [mem_setOf]
    constructor
    · rintro (⟨_, _, i, g', i0, i1, hi, hx⟩ | hx)
      · exact ⟨i, g', i0, by omega, hi, hx⟩
      · exact ⟨j, g, h0, by omega, hj, hx⟩
    · rintro ⟨i, g', i0, i1, hi, hx⟩
      by_cases e : i = j
      · subst e; rw [hj] at hi; cases hi; exact .inr hx
      · exact .inl ⟨x0, x1, i, g', i0, by omega, hi, hx⟩)
  rw [h1, h2]
  simp only [Option.bind_some]
  refine congrArg some (setOf_congr fun x _ _ => ⟨fun ⟨i, g, _, _, hi, hx⟩ => ⟨g, ix_mem hi, hx⟩, fun ⟨g, hm, hx⟩ => ?_⟩)
  obtain ⟨i, i0, i1, hi⟩ := mem_ix hm
  exact ⟨i, g, i0, i1, hi, hx⟩
theorem mkL_eq {α : Type} {b : Nat} {n : Nat} {z : α} (h : b * n ≤ 281474976710656) (hn : n ≤ 9223372036854775807) : mkL b (n : Int) z = some (List.replicate n z) := by
  rw [mkL, if_pos ⟨by omega, by omega, by omega⟩]; simp
theorem ix_replicate {α : Type} {n : Nat} {z a : α} {i : Int} (h : ix (List.replicate n z) i = some a) : a = z := List.eq_of_mem_replicate (ix_mem h)
theorem atOk_zero (plans : List (List Int)) : AtOk plans (List.replicate plans.length 0) := ⟨by simp, fun p l a _ h => by rw [ix_replicate h]; omega⟩
/-- Turns that perform all plans and reach all goals. -/
noncomputable def goodT (t : TTask) (goals plans : List (List Int)) (l : List Int) : Prop := good t plans (allGoals t goals) t.init (List.replicate plans.length 0) l
theorem good_rng {t : TTask} {plans : List (List Int)} {gs : List Int} : ∀ {l s at_ : List Int}, good t plans gs s at_ l → ∀ p ∈ l, 0 ≤ p ∧ p < plans.length
  | [], _, _, _, p, hp => by cases hp
  | q :: l, s, at_, h, p, hp => by
    obtain ⟨op, h1, _, h3⟩ := h
    obtain ⟨m, a, g1, _, _⟩ := nxt_some h1
    rcases List.mem_cons.1 hp with rfl | hp
    · exact ⟨(ix_lo g1).1, (ix_lo g1).2.1⟩
    · exact good_rng h3 p hp
theorem drop_ix {α : Type} {l : List α} {j : Int} {a : α} (h : ix l j = some a) : l.drop j.toNat = a :: l.drop (j + 1).toNat := by
  obtain ⟨h0, h1, h2⟩ := ix_lo h
  obtain ⟨hlt, rfl⟩ := List.getElem?_eq_some_iff.1 h2
  rw [show (j + 1).toNat = j.toNat + 1 by omega]
  exact List.drop_eq_getElem_cons hlt
theorem mCheck_eq (t : TTask) (goals plans : List (List Int)) (turns : List Int) : ∃ b f, merging_Check t goals plans turns = some (b, f) ∧
    ((f = ⟨0, 0⟩ ∧ PartiesOk t goals plans ∧ turns.length ≤ 60 ∧ (∀ p ∈ turns, 0 ≤ p ∧ p < plans.length) ∧ b = dec (goodT t goals plans turns)) ∨
     (b = false ∧ f.code ≠ 0 ∧ ((ref8_PartiesFault t goals plans = some f) ∨ (PartiesOk t goals plans ∧ ((60 < turns.length ∧ f = ⟨2, -5⟩) ∨ (turns.length ≤ 60 ∧ (¬ ∀ p ∈ turns, 0 ≤ p ∧ p < plans.length) ∧ f = ⟨3, -6⟩)))))) := by
  obtain ⟨f, h1, h2, h3⟩ := parties_eq t goals plans
  unfold merging_Check
  rw [h1]
  simp only [Option.bind_some]
  rcases h3 with ⟨rfl, hp⟩ | ⟨hc, hn⟩
  · rw [if_neg (by simp)]
    by_cases c1 : 60 < (turns.length : Int)
    · rw [if_pos c1]
      exact ⟨_, _, rfl, .inr ⟨rfl, by simp, .inr ⟨hp, .inl ⟨by omega, rfl⟩⟩⟩⟩
    · rw [if_neg c1]
      have ht := hp.task
      have hn := ht.n1
      have h4 := hp.n4
      rw [rng_list (l := turns) (fun x => 0 ≤ x ∧ x < plans.length) (false, (⟨3, -6⟩ : TFault)) (fun i a hi => by
        unfold merging_Check_l1
        rw [hi]
        simp only [Option.bind_some]
        by_cases g : 0 ≤ a ∧ a < plans.length
        · rw [if_neg (by simp; omega)]; exact .inl ⟨g, rfl⟩
        · rw [if_pos (by simp; omega)]; exact .inr ⟨g, rfl⟩)]
      simp only [Option.bind_some]
      by_cases c2 : ∀ p ∈ turns, 0 ≤ p ∧ p < plans.length
      · rw [ifP c2]
        simp only []
        rw [mkL_eq (by omega) (by omega)]
        simp only [Option.bind_some]
        have key := rngX_inv (body := merging_Check_l2 t plans turns) (n := (turns.length : Int)) (s := (List.replicate plans.length 0, t.init))
          (fun j p => AtOk plans p.1 ∧ SetN p.2 t.facts ∧ (goodT t goals plans turns ↔ good t plans (allGoals t goals) p.2 p.1 (turns.drop j.toNat)))
          (fun o => o = (false, ⟨0, 0⟩) ∧ ¬ goodT t goals plans turns) (by omega) ⟨atOk_zero _, ht.init, by simp [goodT]⟩ (fun j ⟨c9, s⟩ j0 j1 ⟨k1, k2, k3⟩ => by
          dsimp only at k1 k2 k3 ⊢
          obtain ⟨p, hj, _⟩ := ix_of (l := turns) j0 j1
          obtain ⟨p0, p1⟩ := c2 p (ix_mem hj)
          obtain ⟨l, hl, _⟩ := ix_of (l := plans) p0 p1
          obtain ⟨a, ha, a0, a1⟩ := k1.get hl
          have hd := drop_ix hj
          rw [hd] at k3
          unfold merging_Check_l2
          simp only [hj, Option.bind_some, ha, hl]
          by_cases c3 : a = (l.length : Int)
          · rw [if_pos c3]
            simp only [Option.bind_some, if_true]
            refine .inr ⟨_, rfl, rfl, fun h => ?_⟩
            obtain ⟨op, g1, _⟩ := k3.1 h
            obtain ⟨l', a', e1, e2, e3⟩ := nxt_some g1
            rw [hl] at e1; cases e1
            rw [ha] at e2; cases e2
            have := (ix_lo e3).2.1
            omega
          · rw [if_neg c3]
            obtain ⟨op, hop, _⟩ := ix_of (l := l) a0 (by omega)
            obtain ⟨o0, o1⟩ := hp.op l (ix_mem hl) op (ix_mem hop)
            have hnx := nxt_of hl ha hop
            simp only [Option.bind_some, hop, can_eq ht o0 o1 k2, dec_not]
            by_cases c4 : can t s op
            · rw [ifNN c4, next_eq ht o0 o1 k2]
              simp only [Option.bind_some]
              have hl6 := hp.six l (ix_mem hl)
              rw [w64_of (by omega) (by omega), ← bump_eq ha]
              refine .inl ⟨_, rfl, k1.bump hnx, setN_aft _ _ _, k3.trans ⟨?_, fun h => ⟨op, hnx, c4, h⟩⟩⟩
              rintro ⟨op', g1, g2, g3⟩
              rw [hnx] at g1; cases g1
              exact g3
            · rw [ifP c4]
              refine .inr ⟨_, rfl, rfl, fun h => ?_⟩
              obtain ⟨op', g1, g2, g3⟩ := k3.1 h
              rw [hnx] at g1; cases g1
              exact c4 g2)
        rcases key with ⟨⟨c9, s⟩, r1, r2, r3, r4⟩ | ⟨o, r1, rfl, r2⟩
        · dsimp only at r2 r3 r4
          rw [r1]
          simp only [Option.bind_some]
          have e0 : turns.drop (turns.length : Int).toNat = [] := by simp
          rw [e0] at r4
          have hlen : (plans.length : Int) = c9.length := by rw [r2.len]
          have key := rngX_test (body := merging_Check_l3 plans c9) (n := (plans.length : Int)) (fun j => match ix plans j, ix c9 j with | some l, some a => if dec (a = (l.length : Int)) = true then none else some (false, (⟨0, 0⟩ : TFault)) | _, _ => none) (by omega) (fun j j0 j1 _ => by
            obtain ⟨l, hl, _⟩ := ix_of (l := plans) j0 j1
            obtain ⟨a, ha, a0, a1⟩ := r2.get hl
            unfold merging_Check_l3
            simp only [hl, ha, Option.bind_some]
            by_cases e : a = (l.length : Int)
            · rw [if_neg (by omega), ifP e]
            · rw [if_pos (by omega), ifN e])
          have hall : (∀ j, 0 ≤ j → j < (plans.length : Int) → (match ix plans j, ix c9 j with | some l, some a => if dec (a = (l.length : Int)) = true then none else some (false, (⟨0, 0⟩ : TFault)) | _, _ => none) = none) ↔ allDone plans c9 := by
            constructor
            · intro h p l a hl ha
              have := h p (ix_lo hl).1 (ix_lo hl).2.1
              simp only [hl, ha] at this
              split at this
              · exact dec_true.1 ‹_›
              · cases this
            · intro h j j0 j1
              obtain ⟨l, hl, _⟩ := ix_of (l := plans) j0 j1
              obtain ⟨a, ha, _⟩ := r2.get hl
              simp only [hl, ha]
              rw [ifP (h j l a hl ha)]
          rcases key with ⟨s1, s2⟩ | ⟨j, o, j0, j1, s2, _, s3⟩
          · rw [s1]
            simp only [Option.bind_some]
            rw [union_all hn hp.goal]
            simp only [Option.bind_some]
            have := r3.len
            rw [contains_eq (part := allGoals t goals) r3.1 (inc_setOf _ _) (by omega)]
            refine ⟨_, _, rfl, .inl ⟨rfl, hp, by omega, c2, dec_congr ?_⟩⟩
            rw [r4]
            exact ⟨fun h => ⟨hall.1 s2, h⟩, fun h => h.2⟩
          · rw [s3]
            have hnd : ¬ allDone plans c9 := fun h => by have := hall.2 h j j0 j1; rw [this] at s2; cases s2
            obtain ⟨l, hl, _⟩ := ix_of (l := plans) j0 j1
            obtain ⟨a, ha, _⟩ := r2.get hl
            simp only [hl, ha] at s2
            split at s2
            · cases s2
            · cases s2
              exact ⟨_, _, rfl, .inl ⟨rfl, hp, by omega, c2, (dec_no fun h => hnd (r4.1 h).1).symm⟩⟩
        · rw [r1]
          exact ⟨_, _, rfl, .inl ⟨rfl, hp, by omega, c2, (dec_no r2).symm⟩⟩
      · rw [ifN c2]
        exact ⟨_, _, rfl, .inr ⟨rfl, by simp, .inr ⟨hp, .inr ⟨by omega, c2, rfl⟩⟩⟩⟩
  · rw [if_pos (fault_no hc)]
    exact ⟨_, _, rfl, .inr ⟨rfl, hc, .inl h2⟩⟩
end Ab
end
section
namespace Ab
open Go
/-- Where x has a value, y has the same one. -/
def Lt {α : Type} (x y : Option α) : Prop := ∀ r, x = some r → y = some r
theorem Lt.rfl' {α : Type} {x : Option α} : Lt x x := fun _ h => h
theorem Lt.bind {α β : Type} {x y : Option α} {f g : α → Option β} (h : Lt x y) (k : ∀ a, Lt (f a) (g a)) : Lt (x.bind f) (y.bind g) := fun r hr => by
  obtain ⟨a, h1, h2⟩ := bind_some hr
  rw [h a h1]; exact k a r h2
theorem Lt.ite {α : Type} {c : Prop} [Decidable c] {x y x' y' : Option α} (h : Lt x y) (k : Lt x' y') : Lt (if c then x else x') (if c then y else y') := fun r hr => by
  split at hr
  · rw [if_pos ‹_›]; exact h r hr
  · rw [if_neg ‹_›]; exact k r hr
theorem Lt.rngN {S O : Type} {f g : Int → S → Option (S ⊕ O)} (h : ∀ i s, Lt (f i s) (g i s)) : ∀ (k : Nat) (i : Int) (s : S), Lt (rngN f k i s) (rngN g k i s)
  | 0, _, _ => Lt.rfl'
  | k + 1, i, s => fun r hr => by
    simp only [Ab.rngN] at hr ⊢
    cases hf : f i s with
    | none => rw [hf] at hr; cases hr
    | some x =>
      rw [h i s x hf]
      rw [hf] at hr
      cases x with
      | inl s' => exact Lt.rngN h k (i + 1) s' r hr
      | inr o => exact hr
theorem Lt.rngX {S O : Type} {f g : Int → S → Option (S ⊕ O)} {lo n : Int} {s : S} (h : ∀ i s, Lt (f i s) (g i s)) : Lt (rngX lo n f s) (rngX lo n g s) := Lt.rngN h _ _ _
theorem Lt.LoopN {S O : Type} {f g : S → Option (S ⊕ O)} (h : ∀ s, Lt (f s) (g s)) : ∀ (k : Nat) (s : S), Lt (LoopN f k s) (LoopN g k s)
  | 0, _ => Lt.rfl'
  | k + 1, s => fun r hr => by
    simp only [Ab.LoopN] at hr ⊢
    cases hf : f s with
    | none => rw [hf] at hr; cases hr
    | some x =>
      rw [h s x hf]
      rw [hf] at hr
      cases x with
      | inl s' => exact Lt.LoopN h k s' r hr
      | inr o => exact hr
theorem Lt.Loop {S O : Type} {f g : S → Option (S ⊕ O)} {s : S} (h : ∀ s, Lt (f s) (g s)) : Lt (Loop f s) (Loop g s) := fun r hr => by
  obtain ⟨n, hn⟩ := Loop_iff.1 hr
  exact Loop_iff.2 ⟨n, Lt.LoopN h n s r hn⟩
/-- A step that asks its part for no more than its values. -/
def Mono {A R : Type} (F : (A → Option R) → A → Option R) : Prop := ∀ f g, (∀ a, Lt (f a) (g a)) → ∀ a, Lt (F f a) (F g a)
theorem recN_up {A R : Type} {F : (A → Option R) → A → Option R} (hF : Mono F) : ∀ (n : Nat) (a : A), Lt (recN F n a) (recN F (n + 1) a)
  | 0, a => fun r h => by cases h
  | n + 1, a => hF _ _ (recN_up hF n) a
theorem recN_le {A R : Type} {F : (A → Option R) → A → Option R} (hF : Mono F) {n m : Nat} (h : n ≤ m) (a : A) : Lt (recN F n a) (recN F m a) := by
  induction h with
  | refl => exact Lt.rfl'
  | step _ ih => exact fun r hr => recN_up hF _ a r (ih r hr)
theorem Rec_recN {A R : Type} {F : (A → Option R) → A → Option R} (hF : Mono F) {n : Nat} {a : A} {r : R} (h : recN F n a = some r) : Rec F a = some r := by
  obtain ⟨r', h1, m, h2⟩ := Rec_of h
  have e1 := recN_le hF (Nat.le_max_left n m) a r h
  have e2 := recN_le hF (Nat.le_max_right n m) a r' h2
  rw [h1, ← e2, e1]
/-- Whole from step: μ sinks. -/
theorem Rec_inv {A R : Type} {F : (A → Option R) → A → Option R} (hF : Mono F) (P : A → Prop) (V : A → R → Prop) (μ : A → Nat)
    (hb : ∀ f a, P a → (∀ a', P a' → μ a' < μ a → ∃ r, f a' = some r ∧ V a' r) → ∃ r, F f a = some r ∧ V a r) {a : A} (ha : P a) : ∃ r, Rec F a = some r ∧ V a r := by
  have key : ∀ (n : Nat) (a : A), P a → μ a < n → ∃ r, recN F n a = some r ∧ V a r := by
    intro n
    induction n with
    | zero => intro a _ h; omega
    | succ n ih => exact fun a ha hn => hb (recN F n) a ha fun a' ha' hm => ih a' ha' (by omega)
  obtain ⟨r, h1, h2⟩ := key (μ a + 1) a ha (by omega)
  exact ⟨r, Rec_recN hF h1, h2⟩
end Ab
end
section
namespace Ab
open Go
theorem bind_map_congr {α β γ : Type} {x : Option α} {f : α → Option γ} {g : α → Option β} {k : β → γ} (h : ∀ a, f a = (g a).map k) : x.bind f = (x.bind g).map k := by
  cases x with
  | none => rfl
  | some a => exact h a
theorem ite_map_congr {β γ : Type} {c : Prop} [Decidable c] {x y : Option γ} {x' y' : Option β} {k : β → γ} (h : x = x'.map k) (h' : y = y'.map k) : (if c then x else y) = (if c then x' else y').map k := by
  split
  · exact h
  · exact h'
theorem rngN_map {S O O' : Type} {b1 : Int → S → Option (S ⊕ O)} {b2 : Int → S → Option (S ⊕ O')} (g : O → O') (h : ∀ i s, b2 i s = (b1 i s).map (Sum.map id g)) : ∀ (k : Nat) (i : Int) (s : S), rngN b2 k i s = (rngN b1 k i s).map (Sum.map id g)
  | 0, _, _ => rfl
  | k + 1, i, s => by
    simp only [rngN]
    rw [h]
    cases b1 i s with
    | none => rfl
    | some x =>
      cases x with
      | inl s' => exact rngN_map g h k (i + 1) s'
      | inr o => rfl
theorem rngX_map {S O O' : Type} {b1 : Int → S → Option (S ⊕ O)} {b2 : Int → S → Option (S ⊕ O')} (g : O → O') (h : ∀ i s, b2 i s = (b1 i s).map (Sum.map id g)) {lo n : Int} {s : S} : rngX lo n b2 s = (rngX lo n b1 s).map (Sum.map id g) := rngN_map g h _ _ _
theorem turns_mono (t : TTask) (plans : List (List Int)) : Mono (merging_merger_turns_w1_b t plans) := by
  intro f g h ⟨sv, atv, l, l6⟩
  unfold merging_merger_turns_w1_b
  dsimp only
  refine Lt.bind Lt.rfl' fun _ => Lt.ite Lt.rfl' (Lt.bind (Lt.rngX fun i s => ?_) fun x => Lt.rfl')
  obtain ⟨c12, c13, d⟩ := s
  unfold merging_merger_turns_w1_l1
  dsimp only
  repeat (first | exact Lt.rfl' | exact h _ | refine Lt.ite ?_ ?_ | refine Lt.bind ?_ fun _ => ?_)
section
variable {t : TTask} {plans : List (List Int)} {gs : List Int}
/-- No turns lead on from a node that is remembered. -/
def InvM (t : TTask) (plans : List (List Int)) (gs : List Int) (m : List (ByteArray × Int)) : Prop := ∀ s at_ : List Int, SetN s t.facts → AtOk plans at_ → 0 < Option.getD (mget m (keyK [s, at_])) 0 → ∀ l, ¬ good t plans gs s at_ l
structure Plans6 (t : TTask) (plans : List (List Int)) : Prop where
  n4 : plans.length ≤ 4
  six : ∀ p ∈ plans, p.length ≤ 6
  op : ∀ p ∈ plans, ∀ x ∈ p, 0 ≤ x ∧ x < t.operators.length
theorem AtOk.small (hp : Plans6 t plans) {at_ : List Int} (h : AtOk plans at_) : small at_ := fun x hx => by
  obtain ⟨i, i0, i1, hi⟩ := mem_ix hx
  obtain ⟨l, hl, _⟩ := ix_of (l := plans) i0 (by rw [← h.len]; exact i1)
  have := h.rng i l x hl hi
  have := hp.six l (ix_mem hl)
  omega
theorem SetN.small (h1 : t.facts ≤ 24) {s : List Int} (h : SetN s t.facts) : small s := fun x hx => by have := h.2 x hx; omega
theorem nodeKey (ht : TaskOk t) (hp : Plans6 t plans) {s at_ : List Int} (hs : SetN s t.facts) (ha : AtOk plans at_) : belief_Key [s, at_] = some (keyK [s, at_]) := by
  have := hs.len; have := ht.n1; have := ha.len; have := hp.n4
  exact key2_eq (SetN.small ht.n1 hs) (ha.small hp) (by omega) (by omega)
/-- What a search finds. -/
def Found (t : TTask) (plans : List (List Int)) (gs s at_ out : List Int) (ok : Bool) : Prop := (ok = true ∧ Least t plans gs s at_ out) ∨ (ok = false ∧ out = [] ∧ ∀ l, ¬ good t plans gs s at_ l)
abbrev Node := List Int × List Int × List Int × List (ByteArray × Int)
def NodeOk (t : TTask) (plans : List (List Int)) (gs : List Int) (a : Node) : Prop := SetN a.1 t.facts ∧ AtOk plans a.2.1 ∧ a.2.2.1 = gs ∧ InvM t plans gs a.2.2.2
def NodeV (t : TTask) (plans : List (List Int)) (gs : List Int) (a : Node) (r : List Int × Bool × List Int × List (ByteArray × Int)) : Prop := r.2.2.1 = gs ∧ InvM t plans gs r.2.2.2 ∧ Found t plans gs a.1 a.2.1 r.1 r.2.1
theorem turnsLoop (ht : TaskOk t) (hp : Plans6 t plans) {f : Node → Option (List Int × Bool × List Int × List (ByteArray × Int))} {s at_ : List Int} (hs : SetN s t.facts) (ha : AtOk plans at_)
    (ih : ∀ a : Node, NodeOk t plans gs a → left plans a.2.1 < left plans at_ → ∃ r, f a = some r ∧ NodeV t plans gs a r) {m : List (ByteArray × Int)} (hm : InvM t plans gs m) :
    (∃ m' d, rngX 0 (plans.length : Int) (merging_merger_turns_w1_l1 s at_ t plans f) (gs, m, true) = some (.inl (gs, m', d)) ∧ InvM t plans gs m' ∧ (∀ q l, ¬ good t plans gs s at_ (q :: l)) ∧ (d = true ↔ allDone plans at_)) ∨
    ∃ r, rngX 0 (plans.length : Int) (merging_merger_turns_w1_l1 s at_ t plans f) (gs, m, true) = some (.inr r) ∧ NodeV t plans gs (s, at_, gs, m) r := by
  have hlen := ha.len
  have h4 := hp.n4
  rcases rngX_inv (body := merging_merger_turns_w1_l1 s at_ t plans f) (n := (plans.length : Int)) (s := (gs, m, true))
    (fun j x => x.1 = gs ∧ InvM t plans gs x.2.1 ∧ (∀ q l, q < j → ¬ good t plans gs s at_ (q :: l)) ∧ (x.2.2 = true ↔ ∀ p l a, 0 ≤ p → p < j → ix plans p = some l → ix at_ p = some a → a = l.length))
    (fun r => NodeV t plans gs (s, at_, gs, m) r) (by omega)
    ⟨rfl, hm, fun q l hq h => by have := good_rng h q (by simp); omega, by simp; intro p l a h0 h1; omega⟩ (fun p ⟨g', m', d⟩ p0 p1 ⟨k1, k2, k3, k4⟩ => by
      dsimp only at k1 k2 k3 k4 ⊢
      subst k1
      obtain ⟨l, hl, _⟩ := ix_of (l := plans) p0 p1
      obtain ⟨a, hav, a0, a1⟩ := ha.get hl
      unfold merging_merger_turns_w1_l1
      simp only [hl, hav, Option.bind_some]
      have step : ∀ {q : Int} {l' : List Int}, q < p + 1 → (q = p → ¬ good t plans g' s at_ (q :: l')) → ¬ good t plans g' s at_ (q :: l') := fun hq hn => by
        rename_i q l'
        by_cases e : q = p
        · exact hn e
        · exact k3 q l' (by omega)
      have hj2 : ∀ x : List Int × List (ByteArray × Int) × Bool, merging_merger_turns_w1_j2 x = some (.inl x) := fun _ => rfl
      by_cases c1 : a = (l.length : Int)
      · rw [if_pos c1, hj2]
        refine .inl ⟨_, rfl, rfl, k2, fun q l' hq => step hq ?_, ?_⟩
        · rintro rfl ⟨op, g1, _⟩
          obtain ⟨l2, a2, e1, e2, e3⟩ := nxt_some g1
          rw [hl] at e1; cases e1
          rw [hav] at e2; cases e2
          have := (ix_lo e3).2.1
          omega
        · dsimp only
          rw [k4]
          constructor
          · intro h q l' a' q0 q1 e1 e2
            by_cases e : q = p
            · subst e; rw [hl] at e1; cases e1; rw [hav] at e2; cases e2; exact c1
            · exact h q l' a' q0 (by omega) e1 e2
          · exact fun h q l' a' q0 q1 => h q l' a' q0 (by omega)
      · rw [if_neg c1]
        obtain ⟨op, hop, _⟩ := ix_of (l := l) a0 (by omega)
        obtain ⟨o0, o1⟩ := hp.op l (ix_mem hl) op (ix_mem hop)
        have hnx := nxt_of hl hav hop
        have hnd : ∀ b : Bool, b = false → (b = true ↔ ∀ q l a, 0 ≤ q → q < p + 1 → ix plans q = some l → ix at_ q = some a → a = l.length) := fun b hb => by
          subst hb
          exact ⟨fun h => (by cases h), fun h => absurd (h p l a p0 (by omega) hl hav) c1⟩
        simp only [hop, Option.bind_some, can_eq ht o0 o1 hs, dec_not]
        by_cases c2 : can t s op
        · rw [ifNN c2, clone_eq (by omega)]
          simp only [Option.bind_some, hav, next_eq ht o0 o1 hs]
          have hl6 := hp.six l (ix_mem hl)
          rw [w64_of (by omega) (by omega), ← bump_eq hav]
          have hlt := nxt_left hnx
          obtain ⟨r, r1, r2, r3, r4⟩ := ih (aft t s op, bump at_ p, g', m') ⟨setN_aft _ _ _, ha.bump hnx, rfl, k2⟩ (by dsimp only; omega)
          rw [r1]
          simp only [Option.bind_some]
          rcases r4 with ⟨ok, r4⟩ | ⟨ok, _, r4⟩
          · rw [if_pos ok]
            have hlen := good_len (ha.bump hnx) r4.1
            have hsum : left plans (bump at_ p) ≤ 24 := by
              rw [← hlen]
              have : ∀ (pl : List (List Int)) (b : List Int), (∀ x ∈ pl, x.length ≤ 6) → left pl b ≤ 6 * pl.length := by
                intro pl
                induction pl with
                | nil => intro b _; simp [left]
                | cons x pl ihp =>
                  intro b hb
                  cases b with
                  | nil => simp [left]
                  | cons y b =>
                    have h1 := hb x (by simp)
                    have h2 := ihp b fun z hz => hb z (by simp [hz])
                    simp only [left, List.zip_cons_cons, List.map_cons, List.sum_cons, List.length_cons] at h2 ⊢
                    omega
              have := this plans (bump at_ p) hp.six
              rw [hlen]; omega
            rw [app, if_pos (by simp; omega)]
            simp only [Option.bind_some]
            refine .inr ⟨_, rfl, r2, r3, .inl ⟨rfl, ⟨op, hnx, c2, r4.1⟩, fun m2 hm2 => ?_⟩⟩
            match m2, hm2 with
            | [], hm2 => exact absurd (hm2.1 p l a hl hav) c1
            | q :: m3, hm2 =>
              rcases Int.lt_trichotomy q p with hq | hq | hq
              · exact absurd hm2 (k3 q m3 hq)
              · subst hq
                obtain ⟨op', e1, e2, e3⟩ := hm2
                rw [hnx] at e1; cases e1
                exact .inr ⟨rfl, r4.2 m3 e3⟩
              · exact .inl hq
          · rw [if_neg (by rw [ok]; simp), hj2]
            refine .inl ⟨_, rfl, r2, r3, fun q l' hq => step hq ?_, hnd _ rfl⟩
            rintro rfl ⟨op', e1, e2, e3⟩
            rw [hnx] at e1; cases e1
            exact r4 l' e3
        · rw [ifP c2, hj2]
          refine .inl ⟨_, rfl, rfl, k2, fun q l' hq => step hq ?_, hnd _ rfl⟩
          rintro rfl ⟨op', e1, e2, e3⟩
          rw [hnx] at e1; cases e1
          exact c2 e2) with ⟨⟨g', m', d⟩, r1, r2, r3, r4, r5⟩ | ⟨r, r1, r2⟩
  · dsimp only at r2 r3 r4 r5
    subst r2
    refine .inl ⟨m', d, r1, r3, fun q l h => r4 q l (good_rng h q (by simp)).2 h, r5.trans ⟨fun h p l a e1 e2 => h p l a (ix_lo e1).1 (ix_lo e1).2.1 e1 e2, fun h p l a _ _ e1 e2 => h p l a e1 e2⟩⟩
  · exact .inr ⟨r, r1, r2⟩
theorem InvM.set (ht : TaskOk t) (hp : Plans6 t plans) {m : List (ByteArray × Int)} (hm : InvM t plans gs m) {s at_ : List Int} (hs : SetN s t.facts) (ha : AtOk plans at_) (hn : ∀ l, ¬ good t plans gs s at_ l) : InvM t plans gs (mset m (keyK [s, at_]) 1) := fun s' a' hs' ha' h => by
  rw [mget_mset] at h
  split at h
  · rename_i e
    have := keyK_inj (l := [s', a']) (l' := [s, at_]) (by simp [SetN.small ht.n1 hs', ha'.small hp]) (by simp [SetN.small ht.n1 hs, ha.small hp]) e
    simp only [List.cons.injEq, and_true] at this
    obtain ⟨rfl, rfl⟩ := this
    exact hn
  · exact hm s' a' hs' ha' h
theorem turnsEnd (ht : TaskOk t) (hp : Plans6 t plans) (hg : SetN gs t.facts) {s at_ : List Int} (hs : SetN s t.facts) (ha : AtOk plans at_) {d : Bool} (h1 : ∀ q l, ¬ good t plans gs s at_ (q :: l)) (h2 : d = true ↔ allDone plans at_) :
    ∃ b, (Option.bind (if d = true then Option.bind (strips_Contains s gs) fun a97 => some a97 else some false) fun t22 => some t22) = some b ∧ (b = true → Least t plans gs s at_ []) ∧ (b = false → ∀ l, ¬ good t plans gs s at_ l) := by
  have := hs.len; have := ht.n1
  rw [contains_eq hs.1 hg.1 (by omega)]
  by_cases c : d = true
  · rw [if_pos c]
    refine ⟨_, rfl, fun h => ⟨⟨h2.1 c, dec_true.1 h⟩, fun m hm => ?_⟩, fun h l hl => ?_⟩
    · cases m with
      | nil => trivial
      | cons q m => exact absurd hm (h1 q m)
    · cases l with
      | nil => rw [dec_false] at h; exact h hl.2
      | cons q l => exact h1 q l hl
  · rw [if_neg c]
    refine ⟨_, rfl, fun h => by simp at h, fun h l hl => ?_⟩
    cases l with
    | nil => exact c (h2.2 hl.1)
    | cons q l => exact h1 q l hl
theorem turns_rec (ht : TaskOk t) (hp : Plans6 t plans) (hg : SetN gs t.facts) {a : Node} (h : NodeOk t plans gs a) : ∃ r, Rec (merging_merger_turns_w1_b t plans) a = some r ∧ NodeV t plans gs a r := by
  refine Rec_inv (turns_mono t plans) (NodeOk t plans gs) (NodeV t plans gs) (fun a => left plans a.2.1) (fun f ⟨s, at_, g, m⟩ ⟨k1, k2, k3, k4⟩ ih => ?_) h
  dsimp only at k1 k2 k3 k4 ih
  subst k3
  unfold merging_merger_turns_w1_b
  dsimp only
  rw [nodeKey ht hp k1 k2]
  simp only [Option.bind_some]
  by_cases c : 0 < Option.getD (mget m (keyK [s, at_])) 0
  · rw [if_pos c]
    exact ⟨_, rfl, rfl, k4, .inr ⟨rfl, rfl, k4 s at_ k1 k2 c⟩⟩
  · rw [if_neg c]
    rcases turnsLoop ht hp k1 k2 ih k4 with ⟨m', d, r1, r2, r3, r4⟩ | ⟨r, r1, r2⟩
    · rw [r1]
      simp only [Option.bind_some]
      obtain ⟨b, b1, b2, b3⟩ := turnsEnd ht hp hg k1 k2 r3 r4
      obtain ⟨b', b4, b5⟩ := bind_some b1
      cases b5
      rw [b4]
      simp only [Option.bind_some]
      cases b with
      | true => exact ⟨_, rfl, rfl, r2, .inl ⟨rfl, b2 rfl⟩⟩
      | false => exact ⟨_, rfl, rfl, r2.set ht hp k1 k2 (b3 rfl), .inr ⟨rfl, rfl, b3 rfl⟩⟩
    · rw [r1]
      exact ⟨_, rfl, r2⟩
theorem turns_top (ht : TaskOk t) (hp : Plans6 t plans) (hg : SetN gs t.facts) {s at_ : List Int} {m : List (ByteArray × Int)} (hs : SetN s t.facts) (ha : AtOk plans at_) (hm : InvM t plans gs m) :
    ∃ m' out ok, merging_merger_turns_w s t plans at_ gs m = some (gs, m', out, ok) ∧ Found t plans gs s at_ out ok := by
  unfold merging_merger_turns_w
  rw [nodeKey ht hp hs ha]
  simp only [Option.bind_some]
  by_cases c : 0 < Option.getD (mget m (keyK [s, at_])) 0
  · rw [if_pos c]
    exact ⟨_, _, _, rfl, .inr ⟨rfl, rfl, hm s at_ hs ha c⟩⟩
  · rw [if_neg c]
    rw [rngX_map (b1 := merging_merger_turns_w1_l1 s at_ t plans (fun a => merging_merger_turns_w1 a.1 a.2.1 t plans a.2.2.1 a.2.2.2)) (b2 := merging_merger_turns_w_l1 s t plans at_) (fun o => (o.2.2.1, o.2.2.2, o.1, o.2.1)) (fun i ⟨x, y, z⟩ => by
      unfold merging_merger_turns_w_l1 merging_merger_turns_w1_l1 merging_merger_turns_w_j2 merging_merger_turns_w1_j2
      dsimp only
      repeat (first | rfl | refine ite_map_congr ?_ ?_ | refine bind_map_congr fun _ => ?_))]
    rcases turnsLoop ht hp hs ha (f := fun a => merging_merger_turns_w1 a.1 a.2.1 t plans a.2.2.1 a.2.2.2) (gs := gs) (fun a hA _ => turns_rec ht hp hg hA) hm with ⟨m', d, r1, r2, r3, r4⟩ | ⟨r, r1, r2⟩
    · rw [r1]
      simp only [Option.map_some, Sum.map_inl, id_eq, Option.bind_some]
      obtain ⟨b, b1, b2, b3⟩ := turnsEnd ht hp hg hs ha r3 r4
      obtain ⟨b', b4, b5⟩ := bind_some b1
      cases b5
      rw [b4]
      simp only [Option.bind_some]
      cases b with
      | true => exact ⟨_, _, _, rfl, .inl ⟨rfl, b2 rfl⟩⟩
      | false => exact ⟨_, _, _, rfl, .inr ⟨rfl, rfl, b3 rfl⟩⟩
    · rw [r1]
      obtain ⟨out, ok, g', m'⟩ := r
      obtain ⟨q1, q2, q3⟩ := r2
      dsimp only at q1 q2 q3
      subst q1
      exact ⟨_, _, _, rfl, q3⟩
end
theorem merge_eq (t : TTask) (goals plans : List (List Int)) : ∃ l ok f, merging_Merge t goals plans = some (l, ok, f) ∧ ref8_PartiesFault t goals plans = some f ∧
    ((f = ⟨0, 0⟩ ∧ PartiesOk t goals plans ∧ ((ok = true ∧ goodT t goals plans l ∧ ∀ m, goodT t goals plans m → lexLe l m) ∨ (ok = false ∧ l = [] ∧ ∀ m, ¬ goodT t goals plans m))) ∨ (f.code ≠ 0 ∧ ¬ PartiesOk t goals plans ∧ l = [] ∧ ok = false)) := by
  obtain ⟨f, h1, h2, h3⟩ := parties_eq t goals plans
  unfold merging_Merge
  rw [h1]
  simp only [Option.bind_some]
  rcases h3 with ⟨rfl, hp⟩ | ⟨hc, hn⟩
  · rw [if_neg (by simp)]
    have h4 := hp.n4
    have hn := hp.task.n1
    rw [union_all hn hp.goal]
    simp only [Option.bind_some]
    rw [mkL_eq (by omega) (by omega)]
    simp only [Option.bind_some]
    obtain ⟨m', out, ok, e1, e2⟩ := turns_top (gs := allGoals t goals) hp.task ⟨hp.n4, hp.six, hp.op⟩ (setN_setOf _ _) (m := []) hp.task.init (atOk_zero plans) (fun _ _ _ _ h => by simp [mget] at h)
    rw [e1]
    refine ⟨_, _, _, rfl, h2, .inl ⟨rfl, hp, ?_⟩⟩
    rcases e2 with ⟨q1, q2⟩ | ⟨q1, q2, q3⟩
    · exact .inl ⟨q1, q2.1, q2.2⟩
    · exact .inr ⟨q1, q2, q3⟩
  · rw [if_pos (fault_no hc)]
    exact ⟨_, _, _, rfl, h2, .inr ⟨hc, hn, rfl, rfl⟩⟩
end Ab
end
section
namespace Ab
open Go
theorem ends_snoc {t : TTask} {p s : List Int} {op : Int} : ends t s (p ++ [op]) = (ends t s p).bind fun e => if dec (can t e op) = true then some (aft t e op) else none := by
  rw [ends_append]
  cases ends t s p with
  | none => rfl
  | some e => simp only [Option.bind_some, ends]
theorem turnsWork_eq {t : TTask} {goals plans : List (List Int)} (hp : PartiesOk t goals plans) {turns : List Int} (hl : turns.length ≤ 60) (hr : ∀ p ∈ turns, 0 ≤ p ∧ p < plans.length) : ref8_TurnsWork t goals plans turns = some (dec (goodT t goals plans turns)) := by
  have ht := hp.task
  have hn := ht.n1
  have h4 := hp.n4
  unfold ref8_TurnsWork
  rw [mkL_eq (by omega) (by omega)]
  simp only [Option.bind_some]
  have key := rngX_inv (body := ref8_TurnsWork_l1 plans turns) (n := (turns.length : Int)) (s := (List.replicate plans.length 0, []))
    (fun j p => AtOk plans p.1 ∧ (p.2.length : Int) = j ∧ (∀ x ∈ p.2, 0 ≤ x ∧ x < t.operators.length) ∧ (goodT t goals plans turns ↔ ∃ s, ends t t.init p.2 = some s ∧ good t plans (allGoals t goals) s p.1 (turns.drop j.toNat)))
    (fun o => o = false ∧ ¬ goodT t goals plans turns) (by omega) ⟨atOk_zero _, rfl, by simp, by simp [goodT, ends]⟩ (fun j ⟨c5, c6⟩ j0 j1 ⟨k1, k2, k2', k3⟩ => by
    dsimp only at k1 k2 k2' k3 ⊢
    obtain ⟨p, hj, _⟩ := ix_of (l := turns) j0 j1
    obtain ⟨p0, p1⟩ := hr p (ix_mem hj)
    obtain ⟨l, hl, _⟩ := ix_of (l := plans) p0 p1
    obtain ⟨a, ha, a0, a1⟩ := k1.get hl
    rw [drop_ix hj] at k3
    unfold ref8_TurnsWork_l1
    simp only [hj, Option.bind_some, ha, hl]
    by_cases c3 : (l.length : Int) ≤ a
    · rw [if_pos c3]
      refine .inr ⟨_, rfl, rfl, fun h => ?_⟩
      obtain ⟨s, _, op, g1, _⟩ := k3.1 h
      obtain ⟨l', a', e1, e2, e3⟩ := nxt_some g1
      rw [hl] at e1; cases e1
      rw [ha] at e2; cases e2
      have := (ix_lo e3).2.1
      omega
    · rw [if_neg c3]
      obtain ⟨op, hop, _⟩ := ix_of (l := l) a0 (by omega)
      have ho := hp.op l (ix_mem hl) op (ix_mem hop)
      have hnx := nxt_of hl ha hop
      have hl6 := hp.six l (ix_mem hl)
      simp only [Option.bind_some, hop]
      rw [app, if_pos (by simp; omega)]
      simp only [Option.bind_some]
      rw [w64_of (by omega) (by omega), ← bump_eq ha]
      refine .inl ⟨_, rfl, k1.bump hnx, by simp; omega, fun x hx => ?_, k3.trans ?_⟩
      · simp only [List.mem_append, List.mem_singleton] at hx
        rcases hx with hx | rfl
        · exact k2' x hx
        · exact ho
      · dsimp only
        rw [ends_snoc]
        constructor
        · rintro ⟨s, g1, op', g2, g3, g4⟩
          rw [hnx] at g2; cases g2
          exact ⟨_, by rw [g1]; simp only [Option.bind_some]; rw [ifP g3], g4⟩
        · rintro ⟨s', g1, g2⟩
          obtain ⟨s, e1, e2⟩ := bind_some g1
          split at e2
          · cases e2
            exact ⟨s, e1, op, hnx, dec_true.1 ‹_›, g2⟩
          · cases e2)
  rcases key with ⟨⟨c5, c6⟩, r1, r2, r3, r3', r4⟩ | ⟨o, r1, rfl, r2⟩
  · dsimp only at r2 r3 r3' r4
    rw [r1]
    simp only [Option.bind_some]
    have e0 : turns.drop (turns.length : Int).toNat = [] := by simp
    rw [e0] at r4
    have key := rngX_test (body := ref8_TurnsWork_l2 plans c5) (n := (plans.length : Int)) (fun j => match ix plans j, ix c5 j with | some l, some a => if dec (a = (l.length : Int)) = true then none else some false | _, _ => none) (by omega) (fun j j0 j1 _ => by
      obtain ⟨l, hl, _⟩ := ix_of (l := plans) j0 j1
      obtain ⟨a, ha, a0, a1⟩ := r2.get hl
      unfold ref8_TurnsWork_l2
      simp only [hl, ha, Option.bind_some]
      by_cases e : a = (l.length : Int)
      · rw [if_neg (by omega), ifP e]
      · rw [if_pos (by omega), ifN e])
    have hall : (∀ j, 0 ≤ j → j < (plans.length : Int) → (match ix plans j, ix c5 j with | some l, some a => if dec (a = (l.length : Int)) = true then none else some false | _, _ => none) = none) ↔ allDone plans c5 := by
      constructor
      · intro h p l a hl ha
        have := h p (ix_lo hl).1 (ix_lo hl).2.1
        simp only [hl, ha] at this
        split at this
        · exact dec_true.1 ‹_›
        · cases this
      · intro h j j0 j1
        obtain ⟨l, hl, _⟩ := ix_of (l := plans) j0 j1
        obtain ⟨a, ha, _⟩ := r2.get hl
        simp only [hl, ha]
        rw [ifP (h j l a hl ha)]
    rcases key with ⟨s1, s2⟩ | ⟨j, o, j0, j1, s2, _, s3⟩
    · rw [s1]
      simp only [Option.bind_some]
      rw [rEnds_eq ht r3']
      simp only [Option.bind_some]
      have hd := hall.1 s2
      cases he : ends t t.init c6 with
      | none =>
        simp only []
        obtain ⟨b, b1, b2⟩ := forR_inv (body := ref8_TurnsWork_l3 goals ([], false)) (n := (goals.length : Int)) (s := false) (fun j b => b = false) (by omega) rfl (fun j b j0 j1 hb => by
          subst hb
          unfold ref8_TurnsWork_l3
          exact ⟨false, by simp, rfl⟩)
        rw [b1, b2]
        simp only [Option.bind_some]
        rw [dec_no]
        intro h
        obtain ⟨s, g1, _⟩ := r4.1 h
        rw [he] at g1; cases g1
      | some e =>
        simp only []
        obtain ⟨b, b1, b2⟩ := forR_inv (body := ref8_TurnsWork_l3 goals (e, true)) (n := (goals.length : Int)) (s := true) (fun j b => b = dec (∀ i g, 0 ≤ i → i < j → ix goals i = some g → ∀ x ∈ g, x ∈ e)) (by omega) (by rw [dec_of]; intro i g h0 h1; omega) (fun j b j0 j1 hb => by
          obtain ⟨g, hg, _⟩ := ix_of (l := goals) j0 j1
          unfold ref8_TurnsWork_l3
          rw [hg]
          simp only [Option.bind_some, subset_eq]
          by_cases c : b = true
          · rw [if_pos c]
            refine ⟨_, rfl, dec_congr ?_⟩
            rw [c] at hb
            have hb := dec_true.1 hb.symm
            constructor
            · intro h i g' i0 i1 hi
              by_cases e : i = j
              · subst e; rw [hg] at hi; cases hi; exact h
              · exact hb i g' i0 (by omega) hi
            · exact fun h => h j g j0 (by omega) hg
          · rw [if_neg c]
            have c : b = false := by simpa using c
            refine ⟨_, rfl, ?_⟩
            rw [c] at hb
            have hb := dec_false.1 hb.symm
            rw [dec_no]
            exact fun h => hb fun i g' i0 i1 hi => h i g' i0 (by omega) hi)
        rw [b1, b2]
        simp only [Option.bind_some]
        refine congrArg some (dec_congr ?_)
        rw [r4]
        constructor
        · intro h
          refine ⟨e, he, hd, fun x hx => ?_⟩
          obtain ⟨_, _, g, hg, hxg⟩ := mem_setOf.1 hx
          obtain ⟨i, i0, i1, hi⟩ := mem_ix hg
          exact h i g i0 i1 hi x hxg
        · rintro ⟨s, g1, _, g3⟩ i g i0 i1 hi x hx
          rw [he] at g1; cases g1
          have := (hp.goal g (ix_mem hi)).2 x hx
          exact g3 x (mem_setOf.2 ⟨this.1, this.2, g, ix_mem hi, hx⟩)
    · rw [s3]
      have hnd : ¬ allDone plans c5 := fun h => by have := hall.2 h j j0 j1; rw [this] at s2; cases s2
      obtain ⟨l, hl, _⟩ := ix_of (l := plans) j0 j1
      obtain ⟨a, ha, _⟩ := r2.get hl
      simp only [hl, ha] at s2
      split at s2
      · cases s2
      · cases s2
        simp only [Option.bind_some]
        rw [dec_no]
        intro h
        obtain ⟨s, _, g2, _⟩ := r4.1 h
        exact hnd g2
  · rw [r1]
    simp only [Option.bind_some]
    rw [dec_no r2]
/-! ### All turns, one after the other -/
def adv (at_ l : List Int) : List Int := l.foldl bump at_
structure Begun (plans : List (List Int)) (l : List Int) : Prop where
  at_ok : AtOk plans (adv (List.replicate plans.length 0) l)
  len : l.length + left plans (adv (List.replicate plans.length 0) l) = left plans (List.replicate plans.length 0)
  rng : ∀ p ∈ l, 0 ≤ p ∧ p < plans.length
  cnt : ∀ p : Int, 0 ≤ p → p < plans.length → ix (adv (List.replicate plans.length 0) l) p = some (l.count p : Int)
/-! ### The small task -/
theorem merged_ok : PartiesOk stepT [[1]] [[1, 0]] where
  task := step_ok
  n1 := by decide
  n4 := by decide
  len := rfl
  goal g hg := by simp only [List.mem_singleton] at hg; subst hg; exact setN1 1 (by decide) (by decide)
  six p hp := by simp only [List.mem_singleton] at hp; subst hp; decide
  op p hp := by simp only [List.mem_singleton] at hp; subst hp; simp [stepT]
theorem merged_good : goodT stepT [[1]] [[1, 0]] [0, 0] := by
  refine ⟨1, rfl, fun x hx => (by cases hx), 0, rfl, fun x hx => ?_, ?_, fun x hx => ?_⟩
  · have : x = 0 := by simpa [opAt, stepT] using hx
    subst this
    exact mem_setOf.2 ⟨by decide, by decide, .inr ⟨by simp [stepT], by simp [opAt, stepT]⟩⟩
  · intro p l a h1 h2
    obtain ⟨p0, p1, _⟩ := ix_lo h1
    have : p = 0 := by simp at p1; omega
    subst this
    cases h1; cases h2; rfl
  · obtain ⟨_, _, g, hg, hx⟩ := mem_setOf.1 hx
    simp only [List.mem_singleton] at hg
    subst hg
    have : x = 1 := by simpa using hx
    subst this
    exact mem_setOf.2 ⟨by decide, by decide, .inl (by simp [opAt, stepT])⟩
theorem merged_true : law8_merged = some true := by
  have h0 : law8_step = some stepT := rfl
  obtain ⟨l, ok, f, h1, h2, h3⟩ := merge_eq stepT [[1]] [[1, 0]]
  rcases h3 with ⟨rfl, hp, h3⟩ | ⟨_, h, _⟩
  · rcases h3 with ⟨rfl, g1, g2⟩ | ⟨_, _, g⟩
    · have hl : l = [0, 0] := by
        have e := good_len (atOk_zero [[1, 0]]) g1
        have r := good_rng g1
        have e : l.length = 2 := e
        match l, e, r with
        | [a, b], _, r =>
          have ra := r a (by simp); have rb := r b (by simp)
          simp at ra rb
          rw [show a = 0 by omega, show b = 0 by omega]
      subst hl
      obtain ⟨b, f2, c1, c2⟩ := mCheck_eq stepT [[1]] [[1, 0]] [0, 0]
      unfold law8_merged
      simp only [h0, Option.bind_some, h1, c1]
      rcases c2 with ⟨rfl, _, _, _, rfl⟩ | ⟨rfl, c2, c3⟩
      · rw [dec_of g1, numbers_eq, dec_of rfl]; simp
      · rcases c3 with c3 | ⟨_, c3 | c3⟩
        · rw [h2] at c3; cases c3; exact absurd rfl c2
        · simp at c3
        · exact absurd (good_rng g1) c3.2.1
    · exact absurd merged_good (g _)
  · exact absurd merged_ok h
/-! ### Laws -/
end Ab
end
section
namespace Ab
open Go
/-- Two operators whose order matters. -/
def inter (t : TTask) (a b : Int) : Prop :=
  (∃ x ∈ (opAt t a).add, x ∈ (opAt t b).pre) ∨ (∃ x ∈ (opAt t a).del, x ∈ (opAt t b).pre) ∨ (∃ x ∈ (opAt t b).add, x ∈ (opAt t a).pre) ∨ (∃ x ∈ (opAt t b).del, x ∈ (opAt t a).pre) ∨ (∃ x ∈ (opAt t a).add, x ∈ (opAt t b).del) ∨ (∃ x ∈ (opAt t a).del, x ∈ (opAt t b).add)
theorem ifDec {p q : Prop} : (if dec p = true then some true else some (dec q)) = some (dec (p ∨ q)) := by
  by_cases h : p
  · rw [ifP h, dec_of (.inl h)]
  · rw [ifN h]; exact congrArg some (dec_congr ⟨.inr, fun g => g.resolve_left h⟩)
theorem not_disj {a b : List Int} : (¬ ∀ x ∈ a, x ∉ b) ↔ ∃ x ∈ a, x ∈ b := by
  constructor
  · intro h
    refine Classical.byContradiction fun g => h fun x hx hb => g ⟨x, hx, hb⟩
  · rintro ⟨x, h1, h2⟩ h
    exact h x h1 h2
theorem interfere_eq {t : TTask} (ht : TaskOk t) {a b : Int} (a0 : 0 ≤ a) (a1 : a < t.operators.length) (b0 : 0 ≤ b) (b1 : b < t.operators.length) : partialorder_Interfere t a b = some (dec (inter t a b)) := by
  have hn := ht.n1
  obtain ⟨⟨p1, p2, p3, _⟩, _⟩ := ht.at a0 a1
  obtain ⟨⟨q1, q2, q3, _⟩, _⟩ := ht.at b0 b1
  have := p1.len; have := p2.len; have := p3.len; have := q1.len; have := q2.len; have := q3.len
  unfold partialorder_Interfere
  rw [ix_op a0 a1, ix_op b0 b1]
  simp only [Option.bind_some]
  rw [meets_eq q1.1 (by omega), meets_eq q1.1 (by omega), meets_eq p1.1 (by omega), meets_eq p1.1 (by omega), meets_eq q3.1 (by omega), meets_eq q2.1 (by omega)]
  simp only [Option.bind_some, ifDec]
  rfl
theorem interfering_eq {t : TTask} {a b : Int} (a0 : 0 ≤ a) (a1 : a < t.operators.length) (b0 : 0 ≤ b) (b1 : b < t.operators.length) : ref7_Interfering t a b = some (dec (inter t a b)) := by
  unfold ref7_Interfering
  rw [ix_op a0 a1, ix_op b0 b1]
  simp only [Option.bind_some, disjoint_eq, dec_not, ifDec, not_disj]
  rfl
/-- A loop that counts, as' a loop over numbers. -/
theorem Loop_for {S : Type} {body : S × Int → Option ((S × Int) ⊕ S)} {b2 : Int → S → Option S} {n : Int} (hn : n ≤ 1000000)
    (h : ∀ s j, 0 ≤ j → body (s, j) = if j < n then (b2 j s).bind fun s' => some (.inl (s', j + 1)) else some (.inr s)) : ∀ (k : Nat) (j : Int) (s : S), 0 ≤ j → (n - j).toNat = k → Loop body (s, j) = forN b2 k j s
  | 0, j, s, h0, hk => by
    rw [Loop_eq, h s j h0, if_neg (by omega)]
    rfl
  | k + 1, j, s, h0, hk => by
    rw [Loop_eq, h s j h0, if_pos (by omega)]
    simp only [forN]
    cases b2 j s with
    | none => rfl
    | some s' => exact Loop_for hn h k (j + 1) s' (by omega) (by omega)
theorem forN_congr {S : Type} {b1 b2 : Int → S → Option S} : ∀ (k : Nat) (i : Int) (s : S), (∀ j s, i ≤ j → j < i + k → b1 j s = b2 j s) → forN b1 k i s = forN b2 k i s
  | 0, _, _, _ => rfl
  | k + 1, i, s, h => by
    simp only [forN]
    rw [h i s (by omega) (by omega)]
    cases b2 i s with
    | none => rfl
    | some s' => exact forN_congr k (i + 1) s' fun j s g1 g2 => h j s (by omega) (by omega)
theorem forR_congr {S : Type} {b1 b2 : Int → S → Option S} {lo n : Int} {s : S} (h : ∀ j s, lo ≤ j → j < n → b1 j s = b2 j s) : forR lo n b1 s = forR lo n b2 s :=
  forN_congr _ _ _ fun j s g1 g2 => h j s g1 (by omega)
theorem bind_id {α : Type} {x : Option α} : (x.bind fun a => some a) = x := by cases x <;> rfl
theorem collisions_eq {t : TTask} {goals plans : List (List Int)} (hp : PartiesOk t goals plans) : forR 0 (plans.length : Int) (merging_Conflicts_l1 t plans) [] = ref8_Collisions t plans := by
  have ht := hp.task
  unfold ref8_Collisions
  rw [bind_id]
  refine forR_congr fun p s p0 p1 => ?_
  unfold merging_Conflicts_l1 ref8_Collisions_l1
  rw [bind_id, bind_id]
  refine forR_congr fun q s q0 q1 => ?_
  unfold merging_Conflicts_l2 ref8_Collisions_l2
  obtain ⟨lp, hlp, _⟩ := ix_of (l := plans) p0 p1
  obtain ⟨lq, hlq, _⟩ := ix_of (l := plans) (i := q) (by omega) q1
  have h6p := hp.six lp (ix_mem hlp)
  have h6q := hp.six lq (ix_mem hlq)
  rw [hlp]
  simp only [Option.bind_some, bind_id]
  rw [Loop_for (n := (lp.length : Int)) (b2 := merging_Conflicts_l3 t plans p q lp) (by omega) (fun s i i0 => by
    unfold ref8_Collisions_l3
    dsimp only
    rw [hlp]
    simp only [Option.bind_some]
    by_cases c : i < lp.length
    · rw [if_pos c, if_pos c, w64_of (by omega) (by omega)]
      congr 1
      unfold merging_Conflicts_l3
      obtain ⟨x, hx, _⟩ := ix_of (l := lp) i0 c
      have hxo := hp.op lp (ix_mem hlp) x (ix_mem hx)
      rw [hx, hlq]
      simp only [Option.bind_some, bind_id]
      rw [Loop_for (n := (lq.length : Int)) (b2 := merging_Conflicts_l4 t p q i x lq) (by omega) (fun s j j0 => by
        unfold ref8_Collisions_l4
        dsimp only
        rw [hlq]
        simp only [Option.bind_some]
        by_cases c2 : j < lq.length
        · rw [if_pos c2, if_pos c2, w64_of (by omega) (by omega)]
          obtain ⟨y, hy, _⟩ := ix_of (l := lq) j0 c2
          have hyo := hp.op lq (ix_mem hlq) y (ix_mem hy)
          unfold merging_Conflicts_l4
          simp only [hlp, hx, hy, Option.bind_some, interfering_eq hxo.1 hxo.2 hyo.1 hyo.2, interfere_eq ht hxo.1 hxo.2 hyo.1 hyo.2, bind_id]
        · rw [if_neg c2, if_neg c2]) _ 0 s (Int.le_refl _) rfl]
      rfl
    · rw [if_neg c, if_neg c]) _ 0 s (Int.le_refl _) rfl]
  rfl
end Ab
end
section
namespace Ab
open Go
theorem forR_from {S : Type} {body : Int → S → Option S} {lo n : Int} (P : Int → S → Prop) {s : S} (hn : lo ≤ n) (h0 : P lo s)
    (hb : ∀ j s, lo ≤ j → j < n → P j s → ∃ s', body j s = some s' ∧ P (j + 1) s') : ∃ s', forR lo n body s = some s' ∧ P n s' := by
  obtain ⟨s', h1, h2⟩ := forN_inv P (n - lo).toNat lo s h0 (fun j s g1 g2 => hb j s g1 (by omega))
  exact ⟨s', h1, by rwa [show lo + ((n - lo).toNat : Int) = n by omega] at h2⟩
/-- Steps of parties p and q do not interfere. -/
def free (t : TTask) (plans : List (List Int)) (p q : Int) : Prop := ∀ lp lq, ix plans p = some lp → ix plans q = some lq → ∀ x ∈ lp, ∀ y ∈ lq, ¬ inter t x y
theorem conflicts_some {t : TTask} {goals plans : List (List Int)} (hp : PartiesOk t goals plans) : ∃ c, forR 0 (plans.length : Int) (merging_Conflicts_l1 t plans) [] = some c ∧ (c = [] → ∀ p q : Int, 0 ≤ p → p < q → q < plans.length → free t plans p q) := by
  have ht := hp.task
  have h4 := hp.n4
  have key := forR_inv (body := merging_Conflicts_l1 t plans) (n := (plans.length : Int)) (s := [])
    (fun p c => (c.length : Int) ≤ 144 * p ∧ (c = [] → ∀ p' q : Int, 0 ≤ p' → p' < q → p' < p → q < plans.length → free t plans p' q)) (by omega) ⟨by simp, fun _ p' q _ _ h => by omega⟩ (fun p c p0 p1 ⟨k1, k2⟩ => by
      unfold merging_Conflicts_l1
      rw [bind_id]
      obtain ⟨lp, hlp, _⟩ := ix_of (l := plans) p0 p1
      have h6p := hp.six lp (ix_mem hlp)
      obtain ⟨c', r1, r2, r3⟩ := forR_from (body := merging_Conflicts_l2 t plans p) (lo := p + 1) (n := (plans.length : Int)) (s := c)
        (fun q d => (d.length : Int) ≤ 144 * p + 36 * (q - p - 1) ∧ (d = [] → c = [] ∧ ∀ q', p < q' → q' < q → free t plans p q')) (by omega) ⟨by omega, fun h => ⟨h, fun q' _ h => by omega⟩⟩ (fun q d q0 q1 ⟨m1, m2⟩ => by
          unfold merging_Conflicts_l2
          obtain ⟨lq, hlq, _⟩ := ix_of (l := plans) (i := q) (by omega) q1
          have h6q := hp.six lq (ix_mem hlq)
          rw [hlp]
          simp only [Option.bind_some, bind_id]
          obtain ⟨d', s1, s2, s3⟩ := forR_inv (body := merging_Conflicts_l3 t plans p q lp) (n := (lp.length : Int)) (s := d)
            (fun i e => (e.length : Int) ≤ 144 * p + 36 * (q - p - 1) + 6 * i ∧ (e = [] → d = [] ∧ ∀ i' x, 0 ≤ i' → i' < i → ix lp i' = some x → ∀ y ∈ lq, ¬ inter t x y)) (by omega) ⟨by omega, fun h => ⟨h, fun i' x _ h => by omega⟩⟩ (fun i e i0 i1 ⟨n1, n2⟩ => by
              unfold merging_Conflicts_l3
              obtain ⟨x, hx, _⟩ := ix_of (l := lp) i0 i1
              have hxo := hp.op lp (ix_mem hlp) x (ix_mem hx)
              rw [hx, hlq]
              simp only [Option.bind_some, bind_id]
              obtain ⟨e', u1, u2, u3⟩ := forR_inv (body := merging_Conflicts_l4 t p q i x lq) (n := (lq.length : Int)) (s := e)
                (fun j g => (g.length : Int) ≤ 144 * p + 36 * (q - p - 1) + 6 * i + j ∧ (g = [] → e = [] ∧ ∀ j' y, 0 ≤ j' → j' < j → ix lq j' = some y → ¬ inter t x y)) (by omega) ⟨by omega, fun h => ⟨h, fun j' y _ h => by omega⟩⟩ (fun j g j0 j1 ⟨v1, v2⟩ => by
                  unfold merging_Conflicts_l4
                  obtain ⟨y, hy, _⟩ := ix_of (l := lq) j0 j1
                  have hyo := hp.op lq (ix_mem hlq) y (ix_mem hy)
                  rw [hy]
                  simp only [Option.bind_some, interfere_eq ht hxo.1 hxo.2 hyo.1 hyo.2, bind_id]
                  by_cases ci : inter t x y
                  · rw [ifP ci, app, if_pos (by simp; omega)]
                    exact ⟨_, rfl, by simp; omega, fun h => by simp at h⟩
                  · rw [ifN ci]
                    refine ⟨_, rfl, by omega, fun h => ⟨(v2 h).1, fun j' y' k0 k1 hj => ?_⟩⟩
                    by_cases ej : j' = j
                    · subst ej; rw [hy] at hj; cases hj; exact ci
                    · exact (v2 h).2 j' y' k0 (by omega) hj)
              refine ⟨e', u1, by omega, fun h => ⟨(n2 (u3 h).1).1, fun i' x' k0 k1 hi y hy => ?_⟩⟩
              by_cases ei : i' = i
              · subst ei; rw [hx] at hi; cases hi
                obtain ⟨j, j0, j1, hj⟩ := mem_ix hy
                exact (u3 h).2 j y j0 j1 hj
              · exact (n2 (u3 h).1).2 i' x' k0 (by omega) hi y hy)
          refine ⟨d', s1, by omega, fun h => ⟨(m2 (s3 h).1).1, fun q' g0 g1 => ?_⟩⟩
          by_cases eq : q' = q
          · subst eq
            intro lp' lq' e1 e2 x hx y hy
            rw [hlp] at e1; cases e1
            rw [hlq] at e2; cases e2
            obtain ⟨i, i0, i1, hi⟩ := mem_ix hx
            exact (s3 h).2 i x i0 i1 hi y hy
          · exact (m2 (s3 h).1).2 q' g0 (by omega))
      refine ⟨c', r1, by omega, fun h p' q e0 e1 e2 e3 => ?_⟩
      by_cases ep : p' = p
      · subst ep; exact (r3 h).2 q e1 e3
      · exact k2 (r3 h).1 p' q e0 e1 (by omega) e3)
  obtain ⟨c, h1, _, h3⟩ := key
  exact ⟨c, h1, fun h p q p0 pq q1 => h3 h p q p0 pq (by omega) q1⟩
theorem fourInts_self (l : List (Int × Int × Int × Int)) : equal_FourInts l l = some true := by
  unfold equal_FourInts
  rw [if_pos rfl, rngX_all (by omega) (fun j j0 j1 => by
    obtain ⟨a, ha, _⟩ := ix_of (l := l) j0 j1
    unfold equal_FourInts_l1
    simp [ha])]
  rfl
theorem conflicts_eq (t : TTask) (plans : List (List Int)) (hb : plans.length * 24 ≤ 140737488355328) : mkL 24 (plans.length : Int) ([] : List Int) = some (List.replicate plans.length []) ∧
    ∃ c f, merging_Conflicts t plans = some (c, f) ∧ ref8_PartiesFault t (List.replicate plans.length []) plans = some f ∧ ((f = ⟨0, 0⟩ ∧ PartiesOk t (List.replicate plans.length []) plans ∧ ref8_Collisions t plans = some c ∧ (c = [] → ∀ p q : Int, 0 ≤ p → p < q → q < plans.length → free t plans p q)) ∨ (f.code ≠ 0 ∧ c = [] ∧ ¬ PartiesOk t (List.replicate plans.length []) plans)) := by
  have hm : mkL 24 (plans.length : Int) ([] : List Int) = some (List.replicate plans.length []) := mkL_eq (by omega) (by omega)
  refine ⟨hm, ?_⟩
  obtain ⟨f, h1, h2, h3⟩ := parties_eq t (List.replicate plans.length []) plans
  unfold merging_Conflicts
  rw [hm]
  simp only [Option.bind_some, h1]
  rcases h3 with ⟨rfl, hp⟩ | ⟨hc, hn⟩
  · obtain ⟨c, r1, r2⟩ := conflicts_some hp
    rw [if_neg (by simp), r1]
    exact ⟨c, _, rfl, h2, .inl ⟨rfl, hp, (collisions_eq hp).symm.trans r1, r2⟩⟩
  · rw [if_pos (fault_no hc)]
    exact ⟨_, _, rfl, h2, .inr ⟨hc, rfl, hn⟩⟩
theorem specTurns {plans : List (List Int)} {turns : List Int} (hl : turns.length ≤ 60) : Loop (law8_MergingMatchesSpec_l1 plans turns) (0, 0, 0) = some (if dec (∀ p ∈ turns, 0 ≤ p ∧ p < plans.length) = true then (0, 0) else (3, -6)) := by
  obtain ⟨o, h1, h2⟩ := Loop_inv (body := law8_MergingMatchesSpec_l1 plans turns)
    (fun x => 0 ≤ x.2.2 ∧ x.2.2 ≤ turns.length ∧ (((x.1, x.2.1) = ((0 : Int), (0 : Int)) ∧ ∀ i p, 0 ≤ i → i < x.2.2 → ix turns i = some p → 0 ≤ p ∧ p < plans.length) ∨ ((x.1, x.2.1) = ((3 : Int), (-6 : Int)) ∧ ¬ ∀ p ∈ turns, 0 ≤ p ∧ p < plans.length)))
    (fun o => o = if dec (∀ p ∈ turns, 0 ≤ p ∧ p < plans.length) = true then ((0 : Int), (0 : Int)) else (3, -6)) (fun x => (turns.length - x.2.2).toNat) (s := (0, 0, 0)) ⟨by simp, by simp, .inl ⟨rfl, fun i p h0 h1 => by simp at h1; omega⟩⟩ (fun ⟨c, d, i⟩ ⟨i0, i1, hP⟩ => by
      dsimp only at i0 i1 hP ⊢
      unfold law8_MergingMatchesSpec_l1
      dsimp only
      rcases hP with ⟨e, hP⟩ | ⟨e, hP⟩
      · simp only [Prod.mk.injEq] at e
        obtain ⟨rfl, rfl⟩ := e
        by_cases ci : i < turns.length
        · rw [if_pos (by simp [ci])]
          obtain ⟨p, hp, _⟩ := ix_of (l := turns) i0 ci
          rw [hp]
          simp only [Option.bind_some, in_eq, dec_not, at_eq]
          rw [w64_of (by omega) (by omega)]
          left
          by_cases g : 0 ≤ p ∧ p < plans.length
          · rw [ifNN (show 0 ≤ p ∧ p ≤ (plans.length : Int) - 1 by omega)]
            refine ⟨_, rfl, ⟨by dsimp only; omega, by dsimp only; omega, .inl ⟨rfl, fun j q j0 j1 hj => ?_⟩⟩, by dsimp only; omega⟩
            by_cases ej : j = i
            · subst ej; rw [hp] at hj; cases hj; exact g
            · exact hP j q j0 (by dsimp only at j1; omega) hj
          · rw [ifP (p := ¬ (0 ≤ p ∧ p ≤ (plans.length : Int) - 1)) (by omega)]
            exact ⟨_, rfl, ⟨by dsimp only; omega, by dsimp only; omega, .inr ⟨rfl, fun h => g (h p (ix_mem hp))⟩⟩, by dsimp only; omega⟩
        · rw [if_neg (by simp; omega)]
          right
          refine ⟨_, rfl, ?_⟩
          rw [ifP]
          intro p hp
          obtain ⟨j, j0, j1, hj⟩ := mem_ix hp
          exact hP j p j0 (by omega) hj
      · simp only [Prod.mk.injEq] at e
        obtain ⟨rfl, rfl⟩ := e
        rw [if_neg (by simp)]
        right
        exact ⟨_, rfl, by rw [ifN hP]⟩)
  rw [h1, h2]
theorem specFault {plans : List (List Int)} {turns : List Int} {c d : Int} (hc : c ≠ 0) : Loop (law8_MergingMatchesSpec_l1 plans turns) (c, d, 0) = some (c, d) := by
  rw [Loop_eq]
  unfold law8_MergingMatchesSpec_l1
  dsimp only
  rw [if_neg (by simp [hc])]
theorem MergingMatchesSpec_true (t : TTask) (goals plans : List (List Int)) (turns : List Int) (hb : plans.length * 24 ≤ 140737488355328) : law8_MergingMatchesSpec t goals plans turns = some true := by
  obtain ⟨hm, c, f, h1, h2, h3⟩ := conflicts_eq t plans hb
  obtain ⟨b, g, c1, c2⟩ := mCheck_eq t goals plans turns
  obtain ⟨e, _, e2, e3⟩ := parties_eq t goals plans
  unfold law8_MergingMatchesSpec
  simp only [h1, c1, hm, h2, Option.bind_some, decide_true, Bool.and_self, Bool.not_true, Bool.false_eq_true, if_false]
  have fin : (Option.bind (ref8_PartiesFault t goals plans) fun a64 => Option.bind (if ((decide (a64.code = 0)) && (decide (60 < (turns.length : Int)))) = true then Option.bind (ref1_At 2 (-5)) fun a73 => some (a73.code, a73.index) else some (a64.code, a64.index)) fun ⟨c13, c14⟩ => Option.bind (Loop (law8_MergingMatchesSpec_l1 plans turns) (c13, c14, 0)) fun ⟨c20, c21⟩ => if c20 = 0 then Option.bind (if g.code = 0 then Option.bind (ref8_TurnsWork t goals plans turns) fun a117 => if b = a117 then Option.bind (law8_merged) fun a121 => some a121 else some false else some false) fun t32 => some t32 else Option.bind (if ((decide (g.code = c20)) && (decide (g.index = c21))) = true then if (!b) = true then Option.bind (law8_merged) fun a106 => some a106 else some false else some false) fun t28 => some t28) = some true := by
    rw [e2]
    simp only [Option.bind_some, at_eq]
    rcases e3 with ⟨rfl, hp⟩ | ⟨ec, en⟩
    · by_cases cl : 60 < (turns.length : Int)
      · rw [if_pos (by simp [cl])]
        simp only [Option.bind_some]
        rw [specFault (by decide)]
        simp only [Option.bind_some]
        rw [if_neg (by decide)]
        rcases c2 with ⟨_, _, k, _⟩ | ⟨rfl, _, k⟩
        · omega
        · rcases k with k | ⟨_, ⟨_, rfl⟩ | ⟨k, _⟩⟩
          · rw [e2] at k; cases k; contradiction
          · simp [merged_true]
          · omega
      · rw [if_neg (by simp [cl])]
        simp only [Option.bind_some]
        rw [specTurns (by omega)]
        simp only [Option.bind_some]
        by_cases cr : ∀ p ∈ turns, 0 ≤ p ∧ p < plans.length
        · rw [ifP cr]
          simp only [if_true]
          rcases c2 with ⟨rfl, _, _, _, rfl⟩ | ⟨rfl, kc, k⟩
          · rw [if_pos rfl, turnsWork_eq hp (by omega) cr]
            simp [merged_true]
          · rcases k with k | ⟨_, ⟨k, _⟩ | ⟨_, k, _⟩⟩
            · rw [e2] at k; cases k; exact absurd rfl kc
            · omega
            · exact absurd cr k
        · rw [ifN cr]
          simp only []
          rw [if_neg (by decide)]
          rcases c2 with ⟨_, _, _, k, _⟩ | ⟨rfl, kc, k⟩
          · exact absurd k cr
          · rcases k with k | ⟨_, ⟨k, _⟩ | ⟨_, _, rfl⟩⟩
            · rw [e2] at k; cases k; exact absurd rfl kc
            · omega
            · simp [merged_true]
    · rw [if_neg (by simp [ec])]
      simp only [Option.bind_some]
      rw [specFault ec]
      simp only [Option.bind_some]
      rw [if_neg ec]
      rcases c2 with ⟨_, k, _⟩ | ⟨rfl, kc, k⟩
      · exact absurd k en
      · rcases k with k | ⟨k, _⟩
        · rw [e2] at k; cases k
          simp [merged_true]
        · exact absurd k en
  rcases h3 with ⟨rfl, hp, hcol, _⟩ | ⟨hc, rfl, _⟩
  · rw [hcol]
    simp only [Option.bind_some, fourInts_self]
    simpa using fin
  · simp only [hc, decide_false, Bool.not_false, if_true, List.length_nil]
    simpa [hc] using fin
end Ab
end
section
namespace Ab
open Go
end Ab
end
