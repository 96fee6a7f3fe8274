/-
  Texts that the proof stands on.
-/
import Derived.Test.YtfjhmljchkhpnaaDoorKRwRepKeeps4
set_option linter.all false
section
namespace Ab
open Go Go.Proofs
set_option maxHeartbeats 4000000
set_option linter.all false
attribute [local irreducible] AWP AOps thn inB Done PureOk FreshOk Sub
theorem repair_searcher_expand_w_ok {iv : Int} {t : TTask} {plan : List Int} {l : List Trepair_node} {l5 : List (List Int)} {l6 : List (ByteArray × Int)} {r : (List (ByteArray × Int)) × (List Trepair_node) × (List (List Int))} (h : repair_searcher_expand_w iv t plan l l5 l6 = some r) : FnOk Tryd.prog 22 [.c (.ptr 0 0 0), .c (int iv)] (repair_searcher_expand_w_s0 iv t plan l l5 l6) (fun tt ss => tt = .tup [] ∧ ss = [.one (.cells 8 [[int t.facts, row 1 intI t.init, row 1 intI t.goal, row 4 eTOperator t.operators, row 1 intI plan, .own 14 0 r.2.1.length, .own 15 0 r.2.2.length, .map 3]]), .dead, .dead, .one (mapB Value.string (Value.int .i64) r.1), .dead, .dead, .dead, .dead, .dead, .dead, .dead, .dead, .dead, .dead, .one (vec 5 eTrepair_node r.2.1), mat (15, []) 1 intI r.2.2]) := by
 refine FnOk.enter (rs := []) Tryd.func22 rfl Tryd.ntmps22 Tryd.results22 rfl trivial (by kernel_rfl) rfl ?_
 refine AWP.weak ?_
 unfold repair_searcher_expand_w at h
 refine AWP.seq (.region (W.box rfl rfl rfl rfl rfl rfl (W.box rfl rfl rfl rfl rfl rfl (.nil (thn_normal (.seq ?_))))))
 obtain ⟨a13, ha13, h⟩ := bind_some h
 refine AWP.drawEI [7, 8] mixed rfl rfl rfl ?_
 apply DrawSeqE.consN; exact rfl; exact rfl; intro E
 refine AOps.load rfl rfl rfl rfl rfl rfl (.nil ⟨rfl, rfl⟩)
 exact rfl
 apply DrawSeqE.consN; exact rfl; exact rfl; intro E
 refine AOps.nilCheck rfl rfl rfl (.nil ⟨rfl, rfl⟩)
 exact rfl
 apply DrawSeqE.consN; exact rfl; exact rfl; intro E
 refine W.fieldAddr rfl rfl rfl rfl (.nil ⟨rfl, rfl⟩)
 exact rfl
 apply DrawSeqE.consN; exact rfl; exact rfl; intro E
 refine AOps.load rfl rfl rfl rfl rfl rfl (.nil ⟨rfl, rfl⟩)
 exact rfl
 apply DrawSeqE.consN; exact rfl; exact rfl; intro E
 refine AOps.load rfl rfl rfl rfl rfl rfl (.nil ⟨rfl, rfl⟩)
 exact rfl
 apply DrawSeqE.consN; exact rfl; exact rfl; intro E
 refine S.idxO ha13 rfl rfl rfl rfl rfl (.nil ⟨rfl, rfl⟩)
 exact rfl
 apply DrawSeqE.consN; exact rfl; exact rfl; intro E
 refine S.loadOAgg ha13 rfl rfl rfl rfl rfl rfl rfl (.nil ⟨rfl, rfl⟩)
 exact rfl
 apply DrawSeqE.consE; exact rfl; exact rfl; intro E
 refine W.alloc rfl rfl rfl rfl (.nil ⟨rfl, rfl⟩)
 exact rfl
 exact rfl
 apply DrawSeqE.consE (v := .undef); exact rfl; exact rfl; intro E
 refine W.storeAgg rfl rfl rfl rfl rfl rfl rfl (.nil ⟨rfl, rfl⟩)
 exact rfl
 exact rfl
 refine DrawSeqE.done rfl ?_ ?_
 ·apply RestI.cons; exact rfl; exact rfl
  apply RestK.go; exact rfl; exact rfl; intro E; refine AOps.load rfl rfl rfl rfl rfl rfl ?_; exact AOps.nil ⟨rfl, rfl⟩
  apply RestK.go; exact rfl; exact rfl; intro E; refine AOps.load rfl rfl rfl rfl rfl rfl ?_; exact AOps.nil ⟨rfl, rfl⟩
  refine RestK.skip rfl (RestK.nil)
  apply RestI.cons; exact rfl; exact rfl
  apply RestK.go; exact rfl; exact rfl; intro E; refine AOps.nilCheck rfl rfl rfl ?_; exact AOps.nil ⟨rfl, rfl⟩
  apply RestK.go; exact rfl; exact rfl; intro E; refine AOps.nilCheck rfl rfl rfl ?_; exact AOps.nil ⟨rfl, rfl⟩
  refine RestK.skip rfl (RestK.nil)
  apply RestI.cons; exact rfl; exact rfl
  apply RestK.go; exact rfl; exact rfl; intro E; refine W.fieldAddr rfl rfl rfl rfl ?_; exact AOps.nil ⟨rfl, rfl⟩
  apply RestK.go; exact rfl; exact rfl; intro E; refine W.fieldAddr rfl rfl rfl rfl ?_; exact AOps.nil ⟨rfl, rfl⟩
  refine RestK.skip rfl (RestK.nil)
  apply RestI.cons; exact rfl; exact rfl
  apply RestK.go; exact rfl; exact rfl; intro E; refine AOps.load rfl rfl rfl rfl rfl rfl ?_; exact AOps.nil ⟨rfl, rfl⟩
  apply RestK.go; exact rfl; exact rfl; intro E; refine AOps.load rfl rfl rfl rfl rfl rfl ?_; exact AOps.nil ⟨rfl, rfl⟩
  refine RestK.skip rfl (RestK.nil)
  apply RestI.cons; exact rfl; exact rfl
  apply RestK.go; exact rfl; exact rfl; intro E; refine AOps.load rfl rfl rfl rfl rfl rfl ?_; exact AOps.nil ⟨rfl, rfl⟩
  apply RestK.go; exact rfl; exact rfl; intro E; refine AOps.load rfl rfl rfl rfl rfl rfl ?_; exact AOps.nil ⟨rfl, rfl⟩
  refine RestK.skip rfl (RestK.nil)
  apply RestI.cons; exact rfl; exact rfl
  apply RestK.go; exact rfl; exact rfl; intro E; refine S.idxO ha13 rfl rfl rfl rfl rfl ?_; exact AOps.nil ⟨rfl, rfl⟩
  apply RestK.go; exact rfl; exact rfl; intro E; refine S.idxO ha13 rfl rfl rfl rfl rfl ?_; exact AOps.nil ⟨rfl, rfl⟩
  refine RestK.skip rfl (RestK.nil)
  apply RestI.cons; exact rfl; exact rfl
  apply RestK.go; exact rfl; exact rfl; intro E; refine S.loadOAgg ha13 rfl rfl rfl rfl rfl rfl rfl ?_; exact AOps.nil ⟨rfl, rfl⟩
  apply RestK.go; exact rfl; exact rfl; intro E; refine S.loadOAgg ha13 rfl rfl rfl rfl rfl rfl rfl ?_; exact AOps.nil ⟨rfl, rfl⟩
  refine RestK.skip rfl (RestK.nil)
  refine RestI.skip rfl (RestI.skip rfl (RestI.nil))
 dsimp only [envEnd]
 refine thn_normal ?_
 obtain ⟨⟨c60, c61, c62⟩, hx63, h⟩ := bind_some h
 refine AWP.seqJ (⟨[(2, .c (.ptr 4 0 0)), (3, .c (.ptr 5 0 0)), (4, .c (.ptr 6 0 0))], [.one (.cells 8 [[int t.facts, row 1 intI t.init, row 1 intI t.goal, row 4 eTOperator t.operators, row 1 intI plan, .own 9 0 c61.length, .own 10 0 c62.length, .map 3]]), .dead, .dead, .one (mapB Value.string (Value.int .i64) c60), .one (.cells 1 [[.ptr 0 0 0]]), .one (.cells 1 [[int iv]]), .one (.cells 5 [[row 1 intI a13.fs, int a13.fat, int a13.ffrom, int a13.op, int a13.change]]), .dead, .dead, .one (vec 5 eTrepair_node c61), mat (10, []) 1 intI c62]⟩) ?_ ?_
 ·refine AWP.seq (.drawI mixed rfl ?_)
  apply DrawSeq.consF; exact rfl; intro E
  refine W.fieldAddr rfl rfl rfl rfl (.nil ⟨rfl, rfl⟩)
  exact rfl
  apply DrawSeq.consF; exact rfl; intro E
  refine AOps.load rfl rfl rfl rfl rfl rfl (.nil ⟨rfl, rfl⟩)
  exact rfl
  apply DrawSeq.consF; exact rfl; intro E
  refine AOps.load rfl rfl rfl rfl rfl rfl (.nil ⟨rfl, rfl⟩)
  exact rfl
  apply DrawSeq.consF; exact rfl; intro E
  refine AOps.nilCheck rfl rfl rfl (.nil ⟨rfl, rfl⟩)
  exact rfl
  apply DrawSeq.consF; exact rfl; intro E
  refine W.fieldAddr rfl rfl rfl rfl (.nil ⟨rfl, rfl⟩)
  exact rfl
  apply DrawSeq.consF; exact rfl; intro E
  refine AOps.load rfl rfl rfl rfl rfl rfl (.nil ⟨rfl, rfl⟩)
  exact rfl
  apply DrawSeq.consF; exact rfl; intro E
  refine S.len rfl rfl (fun hl21 => .nil ⟨rfl, rfl⟩)
  exact rfl
  apply DrawSeq.consF; exact rfl; intro E
  refine AOps.lss rfl rfl rfl (.nil ⟨rfl, rfl⟩)
  exact rfl
  refine DrawSeq.done ?_
  dsimp only [envEnd]
  refine thn_normal (.ite rfl hx63 (fun hc64 hx63 => ?_) (fun hc64 hx63 => ?_))
  ·refine AWP.seq ?_
   obtain ⟨a29, ha29, hx63⟩ := bind_some hx63
   refine AWP.drawI mixed rfl ?_
   apply DrawSeq.consF; exact rfl; intro E
   refine AOps.load rfl rfl rfl rfl rfl rfl (.nil ⟨rfl, rfl⟩)
   exact rfl
   apply DrawSeq.consF; exact rfl; intro E
   refine AOps.nilCheck rfl rfl rfl (.nil ⟨rfl, rfl⟩)
   exact rfl
   apply DrawSeq.consF; exact rfl; intro E
   refine W.fieldAddr rfl rfl rfl rfl (.nil ⟨rfl, rfl⟩)
   exact rfl
   apply DrawSeq.consF; exact rfl; intro E
   refine AOps.load rfl rfl rfl rfl rfl rfl (.nil ⟨rfl, rfl⟩)
   exact rfl
   apply DrawSeq.consF; exact rfl; intro E
   refine W.fieldAddr rfl rfl rfl rfl (.nil ⟨rfl, rfl⟩)
   exact rfl
   apply DrawSeq.consF; exact rfl; intro E
   refine AOps.load rfl rfl rfl rfl rfl rfl (.nil ⟨rfl, rfl⟩)
   exact rfl
   apply DrawSeq.consF; exact rfl; intro E
   refine S.idx ha29 rfl rfl rfl rfl (.nil ⟨rfl, rfl⟩)
   exact rfl
   apply DrawSeq.consF; exact rfl; intro E
   refine AOps.loadI rfl rfl rfl rfl (.nil ⟨rfl, rfl⟩)
   exact rfl
   apply DrawSeq.consF; exact rfl; intro E
   refine AOps.assign rfl rfl (.nil ⟨rfl, rfl⟩)
   exact rfl
   refine DrawSeq.done ?_
   dsimp only [envEnd]
   refine thn_normal ?_
   obtain ⟨⟨c65, c66, c67⟩, hx68, hx63⟩ := bind_some hx63
   refine AWP.seqJ (⟨[(2, .c (.ptr 4 0 0)), (3, .c (.ptr 5 0 0)), (4, .c (.ptr 6 0 0))], [.one (.cells 8 [[int t.facts, row 1 intI t.init, row 1 intI t.goal, row 4 eTOperator t.operators, row 1 intI plan, .own 7 0 c66.length, .own 8 0 c67.length, .map 3]]), .dead, .dead, .one (mapB Value.string (Value.int .i64) c65), .one (.cells 1 [[.ptr 0 0 0]]), .one (.cells 1 [[int iv]]), .one (.cells 5 [[row 1 intI a13.fs, int a13.fat, int a13.ffrom, int a13.op, int a13.change]]), .one (vec 5 eTrepair_node c66), mat (8, []) 1 intI c67]⟩) ?_ ?_
   ·refine AWP.seq ?_
    obtain ⟨a38, ha38, hx68⟩ := bind_some hx68
    refine AWP.drawI mixed rfl ?_
    apply DrawSeq.consF; exact rfl; intro E
    refine AOps.load rfl rfl rfl rfl rfl rfl (.nil ⟨rfl, rfl⟩)
    exact rfl
    apply DrawSeq.consF; exact rfl; intro E
    refine AOps.nilCheck rfl rfl rfl (.nil ⟨rfl, rfl⟩)
    exact rfl
    apply DrawSeq.consF; exact rfl; intro E
    refine W.fieldAddr rfl rfl rfl rfl (.nil ⟨rfl, rfl⟩)
    exact rfl
    apply DrawSeq.consF; exact rfl; intro E
    refine W.loadAgg rfl rfl rfl rfl rfl rfl rfl (.nil ⟨rfl, rfl⟩)
    exact rfl
    apply DrawSeq.consF; exact rfl; intro E
    refine W.fieldAddr rfl rfl rfl rfl (.nil ⟨rfl, rfl⟩)
    exact rfl
    apply DrawSeq.consF; exact rfl; intro E
    refine AOps.load rfl rfl rfl rfl rfl rfl (.nil ⟨rfl, rfl⟩)
    exact rfl
    apply DrawSeq.consF; exact rfl; intro E
    refine AOps.move rfl rfl (.nil ⟨rfl, rfl⟩)
    exact rfl
    apply DrawSeq.consF; exact rfl; intro E
    refine AOps.callR rfl rfl rfl rfl (strips_Can_ok ha38) rfl (.nil ⟨rfl, rfl⟩)
    exact rfl
    refine DrawSeq.done ?_
    dsimp only [envEnd]
    refine thn_normal (.iteB rfl hx68 (fun hc69 hx68 => ?_) (fun hc69 hx68 => ?_))
    ·obtain ⟨a47, ha47, hx68⟩ := bind_some hx68
     obtain ⟨a56, ha56, hx68⟩ := bind_some hx68
     refine AWP.drawEI [17] mixed rfl rfl rfl ?_
     apply DrawSeqE.consN; exact rfl; exact rfl; intro E
     refine AOps.load rfl rfl rfl rfl rfl rfl (.nil ⟨rfl, rfl⟩)
     exact rfl
     apply DrawSeqE.consN; exact rfl; exact rfl; intro E
     refine AOps.load rfl rfl rfl rfl rfl rfl (.nil ⟨rfl, rfl⟩)
     exact rfl
     apply DrawSeqE.consN; exact rfl; exact rfl; intro E
     refine AOps.nilCheck rfl rfl rfl (.nil ⟨rfl, rfl⟩)
     exact rfl
     apply DrawSeqE.consN; exact rfl; exact rfl; intro E
     refine W.fieldAddr rfl rfl rfl rfl (.nil ⟨rfl, rfl⟩)
     exact rfl
     apply DrawSeqE.consN; exact rfl; exact rfl; intro E
     refine W.loadAgg rfl rfl rfl rfl rfl rfl rfl (.nil ⟨rfl, rfl⟩)
     exact rfl
     apply DrawSeqE.consN; exact rfl; exact rfl; intro E
     refine W.fieldAddr rfl rfl rfl rfl (.nil ⟨rfl, rfl⟩)
     exact rfl
     apply DrawSeqE.consN; exact rfl; exact rfl; intro E
     refine AOps.load rfl rfl rfl rfl rfl rfl (.nil ⟨rfl, rfl⟩)
     exact rfl
     apply DrawSeqE.consN; exact rfl; exact rfl; intro E
     refine AOps.move rfl rfl (.nil ⟨rfl, rfl⟩)
     exact rfl
     apply DrawSeqE.consN; exact rfl; exact rfl; intro E
     refine AOps.callR rfl rfl rfl rfl (FreshOk.data (strips_Next_ok ha47)) rfl (.nil ⟨rfl, rfl⟩)
     exact rfl
     apply DrawSeqE.consN; exact rfl; exact rfl; intro E
     refine W.fieldAddr rfl rfl rfl rfl (.nil ⟨rfl, rfl⟩)
     exact rfl
     apply DrawSeqE.consN; exact rfl; exact rfl; intro E
     refine AOps.load rfl rfl rfl rfl rfl rfl (.nil ⟨rfl, rfl⟩)
     exact rfl
     apply DrawSeqE.consN; exact rfl; exact rfl; intro E
     refine S.add rfl rfl rfl (.nil ⟨rfl, rfl⟩)
     exact rfl
     apply DrawSeqE.consN; exact rfl; exact rfl; intro E
     refine AOps.load rfl rfl rfl rfl rfl rfl (.nil ⟨rfl, rfl⟩)
     exact rfl
     apply DrawSeqE.consN; exact rfl; exact rfl; intro E
     refine AOps.move rfl rfl (.nil ⟨rfl, rfl⟩)
     exact rfl
     apply DrawSeqE.consN; exact rfl; exact rfl; intro E
     refine W.fieldAddr rfl rfl rfl rfl (.nil ⟨rfl, rfl⟩)
     exact rfl
     apply DrawSeqE.consN; exact rfl; exact rfl; intro E
     refine AOps.load rfl rfl rfl rfl rfl rfl (.nil ⟨rfl, rfl⟩)
     exact rfl
     apply DrawSeqE.consN; exact rfl; exact rfl; intro E
     refine W.build rfl rfl rfl rfl (.nil ⟨rfl, rfl⟩)
     exact rfl
     apply DrawSeqE.consE; exact rfl; exact rfl; intro E
     refine AOps.callF (r2 := .tup []) (σ'' := [.one (.cells 8 [[int t.facts, row 1 intI t.init, row 1 intI t.goal, row 4 eTOperator t.operators, row 1 intI plan, .own 7 0 a56.2.1.length, .own 8 0 a56.2.2.length, .map 3]]), .dead, .dead, .one (mapB Value.string (Value.int .i64) a56.1), .one (.cells 1 [[.ptr 0 0 0]]), .one (.cells 1 [[int iv]]), .one (.cells 5 [[row 1 intI a13.fs, int a13.fat, int a13.ffrom, int a13.op, int a13.change]]), .one (vec 5 eTrepair_node a56.2.1), mat (8, []) 1 intI a56.2.2]) rfl rfl rfl (FnOk.lend [0, 1, 2, 3] (repair_searcher_add_w2_ok ha56) rfl rfl rfl rfl rfl rfl (by exact ⟨(.one rfl), .vec, (.mat rfl), (.one rfl), trivial⟩) rfl (by exact ⟨(.live rfl (.one rfl)), (.live rfl .vec), (.live rfl .mat), (.live rfl (.one rfl)), trivial⟩) rfl rfl (by exact ⟨(.new 0 rfl rfl (.one rfl)), .dead, .dead, (.new 3 rfl rfl (.one rfl)), (.old rfl rfl rfl), (.old rfl rfl rfl), (.old rfl rfl rfl), (.new 4 rfl rfl .vec), (.new 5 rfl rfl .mat), trivial⟩)) (.nil ⟨rfl, rfl⟩)
     exact rfl
     exact rfl
     refine DrawSeqE.done rfl ?_ ?_
     ·apply RestI.cons; exact rfl; exact rfl
      apply RestK.go; exact rfl; exact rfl; intro E; refine AOps.load rfl rfl rfl rfl rfl rfl ?_; exact AOps.nil ⟨rfl, rfl⟩
      refine RestK.skip rfl (RestK.nil)
      apply RestI.cons; exact rfl; exact rfl
      apply RestK.go; exact rfl; exact rfl; intro E; refine AOps.load rfl rfl rfl rfl rfl rfl ?_; exact AOps.nil ⟨rfl, rfl⟩
      refine RestK.skip rfl (RestK.nil)
      apply RestI.cons; exact rfl; exact rfl
      apply RestK.go; exact rfl; exact rfl; intro E; refine AOps.nilCheck rfl rfl rfl ?_; exact AOps.nil ⟨rfl, rfl⟩
      refine RestK.skip rfl (RestK.nil)
      apply RestI.cons; exact rfl; exact rfl
      apply RestK.go; exact rfl; exact rfl; intro E; refine W.fieldAddr rfl rfl rfl rfl ?_; exact AOps.nil ⟨rfl, rfl⟩
      refine RestK.skip rfl (RestK.nil)
      apply RestI.cons; exact rfl; exact rfl
      apply RestK.go; exact rfl; exact rfl; intro E; refine W.loadAgg rfl rfl rfl rfl rfl rfl rfl ?_; exact AOps.nil ⟨rfl, rfl⟩
      refine RestK.skip rfl (RestK.nil)
      apply RestI.cons; exact rfl; exact rfl
      apply RestK.go; exact rfl; exact rfl; intro E; refine W.fieldAddr rfl rfl rfl rfl ?_; exact AOps.nil ⟨rfl, rfl⟩
      refine RestK.skip rfl (RestK.nil)
      apply RestI.cons; exact rfl; exact rfl
      apply RestK.go; exact rfl; exact rfl; intro E; refine AOps.load rfl rfl rfl rfl rfl rfl ?_; exact AOps.nil ⟨rfl, rfl⟩
      refine RestK.skip rfl (RestK.nil)
      apply RestI.cons; exact rfl; exact rfl
      apply RestK.go; exact rfl; exact rfl; intro E; refine AOps.move rfl rfl ?_; exact AOps.nil ⟨rfl, rfl⟩
      refine RestK.skip rfl (RestK.nil)
      apply RestI.cons; exact rfl; exact rfl
      apply RestK.go; exact rfl; exact rfl; intro E; refine AOps.callR rfl rfl rfl rfl (FreshOk.data (strips_Next_ok ha47)) rfl ?_; exact AOps.nil ⟨rfl, rfl⟩
      refine RestK.skip rfl (RestK.nil)
      apply RestI.cons; exact rfl; exact rfl
      apply RestK.go; exact rfl; exact rfl; intro E; refine W.fieldAddr rfl rfl rfl rfl ?_; exact AOps.nil ⟨rfl, rfl⟩
      refine RestK.skip rfl (RestK.nil)
      apply RestI.cons; exact rfl; exact rfl
      apply RestK.go; exact rfl; exact rfl; intro E; refine AOps.load rfl rfl rfl rfl rfl rfl ?_; exact AOps.nil ⟨rfl, rfl⟩
      refine RestK.skip rfl (RestK.nil)
      apply RestI.cons; exact rfl; exact rfl
      apply RestK.go; exact rfl; exact rfl; intro E; refine S.add rfl rfl rfl ?_; exact AOps.nil ⟨rfl, rfl⟩
      refine RestK.skip rfl (RestK.nil)
      apply RestI.cons; exact rfl; exact rfl
      apply RestK.go; exact rfl; exact rfl; intro E; refine AOps.load rfl rfl rfl rfl rfl rfl ?_; exact AOps.nil ⟨rfl, rfl⟩
      refine RestK.skip rfl (RestK.nil)
      apply RestI.cons; exact rfl; exact rfl
      apply RestK.go; exact rfl; exact rfl; intro E; refine AOps.move rfl rfl ?_; exact AOps.nil ⟨rfl, rfl⟩
      refine RestK.skip rfl (RestK.nil)
      apply RestI.cons; exact rfl; exact rfl
      apply RestK.go; exact rfl; exact rfl; intro E; refine W.fieldAddr rfl rfl rfl rfl ?_; exact AOps.nil ⟨rfl, rfl⟩
      refine RestK.skip rfl (RestK.nil)
      apply RestI.cons; exact rfl; exact rfl
      apply RestK.go; exact rfl; exact rfl; intro E; refine AOps.load rfl rfl rfl rfl rfl rfl ?_; exact AOps.nil ⟨rfl, rfl⟩
      refine RestK.skip rfl (RestK.nil)
      apply RestI.cons; exact rfl; exact rfl
      apply RestK.go; exact rfl; exact rfl; intro E; refine W.build rfl rfl rfl rfl ?_; exact AOps.nil ⟨rfl, rfl⟩
      refine RestK.skip rfl (RestK.nil)
      refine RestI.skip rfl (RestI.nil)
     dsimp only [envEnd]
     have ej := Option.some.inj hx68
     simp only [Prod.mk.injEq] at ej
     obtain ⟨ej0, ej1, ej2⟩ := ej
     subst ej0
     subst ej1
     subst ej2
     refine thn_normal (Sub.env ⟨rfl, rfl, rfl, trivial⟩)
    ·refine AWP.skip ?_
     have ej := Option.some.inj hx68
     simp only [Prod.mk.injEq] at ej
     obtain ⟨ej0, ej1, ej2⟩ := ej
     subst ej0
     subst ej1
     subst ej2
     refine thn_normal ((Sub.move (env' := [(2, .c (.ptr 4 0 0)), (3, .c (.ptr 5 0 0)), (4, .c (.ptr 6 0 0))]) (σ' := [.one (.cells 8 [[int t.facts, row 1 intI t.init, row 1 intI t.goal, row 4 eTOperator t.operators, row 1 intI plan, .own 7 0 l.length, .own 2 0 l5.length, .map 3]]), .dead, mat (2, []) 1 intI l5, .one (mapB Value.string (Value.int .i64) l6), .one (.cells 1 [[.ptr 0 0 0]]), .one (.cells 1 [[int iv]]), .one (.cells 5 [[row 1 intI a13.fs, int a13.fat, int a13.ffrom, int a13.op, int a13.change]]), .one (vec 5 eTrepair_node l)]) 7 1 rfl rfl rfl ⟨rfl, rfl, rfl, trivial⟩ rfl ⟨⟨rfl, rfl⟩, trivial, .mat rfl rfl rfl, ⟨rfl, rfl⟩, ⟨rfl, rfl⟩, ⟨rfl, rfl⟩, ⟨rfl, rfl⟩, ⟨Blk.im_ok _ _ _, vec_mv rfl⟩, trivial⟩).trans ((Sub.moveM (env' := [(2, .c (.ptr 4 0 0)), (3, .c (.ptr 5 0 0)), (4, .c (.ptr 6 0 0))]) (σ' := [.one (.cells 8 [[int t.facts, row 1 intI t.init, row 1 intI t.goal, row 4 eTOperator t.operators, row 1 intI plan, .own 7 0 l.length, .own 8 0 l5.length, .map 3]]), .dead, .dead, .one (mapB Value.string (Value.int .i64) l6), .one (.cells 1 [[.ptr 0 0 0]]), .one (.cells 1 [[int iv]]), .one (.cells 5 [[row 1 intI a13.fs, int a13.fat, int a13.ffrom, int a13.op, int a13.change]]), .one (vec 5 eTrepair_node l), mat (8, []) 1 intI l5]) 8 2 rfl rfl rfl ⟨rfl, rfl, rfl, trivial⟩ rfl ⟨(.one rfl rfl), .dead, .dead, (.one rfl rfl), (.one rfl rfl), (.one rfl rfl), (.one rfl rfl), (.vec rfl), (.mat rfl rfl rfl), trivial⟩).trans (Sub.env ⟨rfl, rfl, rfl, trivial⟩)))
   ·try dsimp only at hx63
    obtain ⟨a68, ha68, hx63⟩ := bind_some hx63
    refine AWP.region (.load rfl rfl rfl rfl rfl rfl (W.fieldAddr rfl rfl rfl rfl (.load rfl rfl rfl rfl rfl rfl (W.fieldAddr rfl rfl rfl rfl (.load rfl rfl rfl rfl rfl rfl (S.add rfl rfl rfl (.load rfl rfl rfl rfl rfl rfl (W.fieldAddr rfl rfl rfl rfl (.load rfl rfl rfl rfl rfl rfl (S.add rfl rfl rfl (W.build rfl rfl rfl rfl (.callF (r2 := .tup []) (σ'' := [.one (.cells 8 [[int t.facts, row 1 intI t.init, row 1 intI t.goal, row 4 eTOperator t.operators, row 1 intI plan, .own 9 0 a68.2.1.length, .own 10 0 a68.2.2.length, .map 3]]), .dead, .dead, .one (mapB Value.string (Value.int .i64) a68.1), .one (.cells 1 [[.ptr 0 0 0]]), .one (.cells 1 [[int iv]]), .one (.cells 5 [[row 1 intI a13.fs, int a13.fat, int a13.ffrom, int a13.op, int a13.change]]), .dead, .dead, .one (vec 5 eTrepair_node a68.2.1), mat (10, []) 1 intI a68.2.2]) rfl rfl rfl (FnOk.lend [0, 7, 8, 3] (repair_searcher_add_w2_ok ha68) rfl rfl rfl rfl rfl rfl (by exact ⟨(.one rfl), .vec, (.mat rfl), (.one rfl), trivial⟩) rfl (by exact ⟨(.live rfl (.one rfl)), (.live rfl .vec), (.live rfl .mat), (.live rfl (.one rfl)), trivial⟩) rfl rfl (by exact ⟨(.new 0 rfl rfl (.one rfl)), .dead, .dead, (.new 3 rfl rfl (.one rfl)), (.old rfl rfl rfl), (.old rfl rfl rfl), (.old rfl rfl rfl), .dead, .dead, (.new 4 rfl rfl .vec), (.new 5 rfl rfl .mat), trivial⟩)) (.nil ?_)))))))))))))
    have ej := Option.some.inj hx63
    simp only [Prod.mk.injEq] at ej
    obtain ⟨ej0, ej1, ej2⟩ := ej
    subst ej0
    subst ej1
    subst ej2
    refine thn_normal (Sub.env ⟨rfl, rfl, rfl, trivial⟩)
  ·refine AWP.skip ?_
   have ej := Option.some.inj hx63
   simp only [Prod.mk.injEq] at ej
   obtain ⟨ej0, ej1, ej2⟩ := ej
   subst ej0
   subst ej1
   subst ej2
   refine thn_normal ((Sub.move (env' := [(2, .c (.ptr 4 0 0)), (3, .c (.ptr 5 0 0)), (4, .c (.ptr 6 0 0))]) (σ' := [.one (.cells 8 [[int t.facts, row 1 intI t.init, row 1 intI t.goal, row 4 eTOperator t.operators, row 1 intI plan, .own 9 0 l.length, .own 2 0 l5.length, .map 3]]), .dead, mat (2, []) 1 intI l5, .one (mapB Value.string (Value.int .i64) l6), .one (.cells 1 [[.ptr 0 0 0]]), .one (.cells 1 [[int iv]]), .one (.cells 5 [[row 1 intI a13.fs, int a13.fat, int a13.ffrom, int a13.op, int a13.change]]), .dead, .dead, .one (vec 5 eTrepair_node l)]) 9 1 rfl rfl rfl ⟨rfl, rfl, rfl, trivial⟩ rfl ⟨⟨rfl, rfl⟩, trivial, .mat rfl rfl rfl, ⟨rfl, rfl⟩, ⟨rfl, rfl⟩, ⟨rfl, rfl⟩, ⟨rfl, rfl⟩, trivial, trivial, ⟨Blk.im_ok _ _ _, vec_mv rfl⟩, trivial⟩).trans ((Sub.moveM (env' := [(2, .c (.ptr 4 0 0)), (3, .c (.ptr 5 0 0)), (4, .c (.ptr 6 0 0))]) (σ' := [.one (.cells 8 [[int t.facts, row 1 intI t.init, row 1 intI t.goal, row 4 eTOperator t.operators, row 1 intI plan, .own 9 0 l.length, .own 10 0 l5.length, .map 3]]), .dead, .dead, .one (mapB Value.string (Value.int .i64) l6), .one (.cells 1 [[.ptr 0 0 0]]), .one (.cells 1 [[int iv]]), .one (.cells 5 [[row 1 intI a13.fs, int a13.fat, int a13.ffrom, int a13.op, int a13.change]]), .dead, .dead, .one (vec 5 eTrepair_node l), mat (10, []) 1 intI l5]) 10 2 rfl rfl rfl ⟨rfl, rfl, rfl, trivial⟩ rfl ⟨(.one rfl rfl), .dead, .dead, (.one rfl rfl), (.one rfl rfl), (.one rfl rfl), (.one rfl rfl), .dead, .dead, (.vec rfl), (.mat rfl rfl rfl), trivial⟩).trans (Sub.env ⟨rfl, rfl, rfl, trivial⟩)))
 ·try dsimp only at h
  refine AWP.seq ?_
  obtain ⟨a75, ha75, h⟩ := bind_some h
  refine AWP.drawEI [6] mixed rfl rfl rfl ?_
  apply DrawSeqE.consN; exact rfl; exact rfl; intro E
  refine AOps.load rfl rfl rfl rfl rfl rfl (.nil ⟨rfl, rfl⟩)
  exact rfl
  apply DrawSeqE.consN; exact rfl; exact rfl; intro E
  refine AOps.nilCheck rfl rfl rfl (.nil ⟨rfl, rfl⟩)
  exact rfl
  apply DrawSeqE.consN; exact rfl; exact rfl; intro E
  refine W.fieldAddr rfl rfl rfl rfl (.nil ⟨rfl, rfl⟩)
  exact rfl
  apply DrawSeqE.consN; exact rfl; exact rfl; intro E
  refine W.loadAgg rfl rfl rfl rfl rfl rfl rfl (.nil ⟨rfl, rfl⟩)
  exact rfl
  apply DrawSeqE.consN; exact rfl; exact rfl; intro E
  refine W.fieldAddr rfl rfl rfl rfl (.nil ⟨rfl, rfl⟩)
  exact rfl
  apply DrawSeqE.consN; exact rfl; exact rfl; intro E
  refine AOps.load rfl rfl rfl rfl rfl rfl (.nil ⟨rfl, rfl⟩)
  exact rfl
  apply DrawSeqE.consE; exact rfl; exact rfl; intro E
  refine AOps.callF (r2 := .c (.fn 43 [.ptr 11 0 0, .ptr 12 0 0])) (σ'' := [.one (.cells 8 [[int t.facts, row 1 intI t.init, row 1 intI t.goal, row 4 eTOperator t.operators, row 1 intI plan, .own 9 0 c61.length, .own 10 0 c62.length, .map 3]]), .dead, .dead, .one (mapB Value.string (Value.int .i64) c60), .one (.cells 1 [[.ptr 0 0 0]]), .one (.cells 1 [[int iv]]), .one (.cells 5 [[row 1 intI a13.fs, int a13.fat, int a13.ffrom, int a13.op, int a13.change]]), .dead, .dead, .one (vec 5 eTrepair_node c61), mat (10, []) 1 intI c62, .one (.cells 4 [[int t.facts, row 1 intI t.init, row 1 intI t.goal, row 4 eTOperator t.operators]]), .one (.cells 1 [[row 1 intI a13.fs]])]) rfl rfl rfl (FnOk.lend [] (strips_Successors_w_ok ha75) rfl rfl rfl rfl rfl rfl (by exact trivial) rfl (by exact trivial) rfl rfl (by exact ⟨(.old rfl rfl rfl), .dead, .dead, (.old rfl rfl rfl), (.old rfl rfl rfl), (.old rfl rfl rfl), (.old rfl rfl rfl), .dead, .dead, (.old rfl rfl rfl), (.old rfl rfl rfl), (.new 0 rfl rfl (.one rfl)), (.new 1 rfl rfl (.one rfl)), trivial⟩)) (.nil ⟨rfl, rfl⟩)
  exact rfl
  exact rfl
  refine DrawSeqE.done rfl ?_ ?_
  ·apply RestI.cons; exact rfl; exact rfl
   apply RestK.go; exact rfl; exact rfl; intro E; refine AOps.load rfl rfl rfl rfl rfl rfl ?_; exact AOps.nil ⟨rfl, rfl⟩
   refine RestK.skip rfl (RestK.nil)
   apply RestI.cons; exact rfl; exact rfl
   apply RestK.go; exact rfl; exact rfl; intro E; refine AOps.nilCheck rfl rfl rfl ?_; exact AOps.nil ⟨rfl, rfl⟩
   refine RestK.skip rfl (RestK.nil)
   apply RestI.cons; exact rfl; exact rfl
   apply RestK.go; exact rfl; exact rfl; intro E; refine W.fieldAddr rfl rfl rfl rfl ?_; exact AOps.nil ⟨rfl, rfl⟩
   refine RestK.skip rfl (RestK.nil)
   apply RestI.cons; exact rfl; exact rfl
   apply RestK.go; exact rfl; exact rfl; intro E; refine W.loadAgg rfl rfl rfl rfl rfl rfl rfl ?_; exact AOps.nil ⟨rfl, rfl⟩
   refine RestK.skip rfl (RestK.nil)
   apply RestI.cons; exact rfl; exact rfl
   apply RestK.go; exact rfl; exact rfl; intro E; refine W.fieldAddr rfl rfl rfl rfl ?_; exact AOps.nil ⟨rfl, rfl⟩
   refine RestK.skip rfl (RestK.nil)
   apply RestI.cons; exact rfl; exact rfl
   apply RestK.go; exact rfl; exact rfl; intro E; refine AOps.load rfl rfl rfl rfl rfl rfl ?_; exact AOps.nil ⟨rfl, rfl⟩
   refine RestK.skip rfl (RestK.nil)
   refine RestI.skip rfl (RestI.nil)
  dsimp only [envEnd]
  refine thn_normal (.block ?_)
  obtain ⟨xr70, hr70, h⟩ := bind_some h
  refine AWP.rangeB [(2, none), (3, none), (4, none)] rfl rfl rfl (fun as70 bo70 hA70 hB70 => ⟨[.one (.cells 8 [[int t.facts, row 1 intI t.init, row 1 intI t.goal, row 4 eTOperator t.operators, row 1 intI plan, .own 9 0 c61.length, .own 10 0 c62.length, .map 3]]), .dead, .dead, .one (mapB Value.string (Value.int .i64) c60), .one (.cells 1 [[.ptr 0 0 0]]), .one (.cells 1 [[int iv]]), .one (.cells 5 [[row 1 intI a13.fs, int a13.fat, int a13.ffrom, int a13.op, int a13.change]]), .dead, .dead, .one (vec 5 eTrepair_node c61), mat (10, []) 1 intI c62, .one (.cells 4 [[int t.facts, row 1 intI t.init, row 1 intI t.goal, row 4 eTOperator t.operators]]), .one (.cells 1 [[row 1 intI a13.fs]]), .one (loopB 89 [76, 77] as70 bo70 .ready none [(2, none), (3, none), (4, none)] [.ptr 4 0 0, .ptr 5 0 0, .ptr 6 0 0])], fun tt ss => tt = .tup [] ∧ ss = [.one (.cells 8 [[int t.facts, row 1 intI t.init, row 1 intI t.goal, row 4 eTOperator t.operators, row 1 intI plan, .own 14 0 xr70.2.1.length, .own 15 0 xr70.2.2.length, .map 3]]), .dead, .dead, .one (mapB Value.string (Value.int .i64) xr70.1), .one (.cells 1 [[.ptr 0 0 0]]), .one (.cells 1 [[int iv]]), .one (.cells 5 [[row 1 intI a13.fs, int a13.fat, int a13.ffrom, int a13.op, int a13.change]]), .dead, .dead, .dead, .dead, .one (.cells 4 [[int t.facts, row 1 intI t.init, row 1 intI t.goal, row 4 eTOperator t.operators]]), .one (.cells 1 [[row 1 intI a13.fs]]), .one (loopB 89 [76, 77] as70 bo70 .ready none [(2, none), (3, none), (4, none)] [.ptr 4 0 0, .ptr 5 0 0, .ptr 6 0 0]), .one (vec 5 eTrepair_node xr70.2.1), mat (15, []) 1 intI xr70.2.2], rfl, ?_, ?_⟩)
  ·refine FnOk.enter (rs := []) Tryd.func43 rfl Tryd.ntmps43 Tryd.results43 rfl trivial (by kernel_rfl) rfl ?_
   refine AWP.weak ?_
   unfold repair_searcher_expand_w_r2 at hr70
   try dsimp only at hr70
   refine AWP.move (env' := [(0, .c (.yld 13)), (1, .c (.ptr 11 0 0)), (2, .c (.ptr 12 0 0))]) (σ' := [.one (.cells 8 [[int t.facts, row 1 intI t.init, row 1 intI t.goal, row 4 eTOperator t.operators, row 1 intI plan, .own 14 0 c61.length, .own 10 0 c62.length, .map 3]]), .dead, .dead, .one (mapB Value.string (Value.int .i64) c60), .one (.cells 1 [[.ptr 0 0 0]]), .one (.cells 1 [[int iv]]), .one (.cells 5 [[row 1 intI a13.fs, int a13.fat, int a13.ffrom, int a13.op, int a13.change]]), .dead, .dead, .dead, mat (10, []) 1 intI c62, .one (.cells 4 [[int t.facts, row 1 intI t.init, row 1 intI t.goal, row 4 eTOperator t.operators]]), .one (.cells 1 [[row 1 intI a13.fs]]), .one (loopB 89 [76, 77] as70 bo70 .ready none [(2, none), (3, none), (4, none)] [.ptr 4 0 0, .ptr 5 0 0, .ptr 6 0 0]), .one (vec 5 eTrepair_node c61)]) 14 9 rfl rfl rfl ⟨rfl, rfl, rfl, trivial⟩ rfl ⟨⟨rfl, rfl⟩, trivial, trivial, ⟨rfl, rfl⟩, ⟨rfl, rfl⟩, ⟨rfl, rfl⟩, ⟨rfl, rfl⟩, trivial, trivial, trivial, .mat rfl rfl rfl, ⟨rfl, rfl⟩, ⟨rfl, rfl⟩, ⟨rfl, rfl⟩, ⟨Blk.im_ok _ _ _, vec_mv rfl⟩, trivial⟩ (.moveM (env' := [(0, .c (.yld 13)), (1, .c (.ptr 11 0 0)), (2, .c (.ptr 12 0 0))]) (σ' := [.one (.cells 8 [[int t.facts, row 1 intI t.init, row 1 intI t.goal, row 4 eTOperator t.operators, row 1 intI plan, .own 14 0 c61.length, .own 15 0 c62.length, .map 3]]), .dead, .dead, .one (mapB Value.string (Value.int .i64) c60), .one (.cells 1 [[.ptr 0 0 0]]), .one (.cells 1 [[int iv]]), .one (.cells 5 [[row 1 intI a13.fs, int a13.fat, int a13.ffrom, int a13.op, int a13.change]]), .dead, .dead, .dead, .dead, .one (.cells 4 [[int t.facts, row 1 intI t.init, row 1 intI t.goal, row 4 eTOperator t.operators]]), .one (.cells 1 [[row 1 intI a13.fs]]), .one (loopB 89 [76, 77] as70 bo70 .ready none [(2, none), (3, none), (4, none)] [.ptr 4 0 0, .ptr 5 0 0, .ptr 6 0 0]), .one (vec 5 eTrepair_node c61), mat (15, []) 1 intI c62]) 15 10 rfl rfl rfl ⟨rfl, rfl, rfl, trivial⟩ rfl ⟨(.one rfl rfl), .dead, .dead, (.one rfl rfl), (.one rfl rfl), (.one rfl rfl), (.one rfl rfl), .dead, .dead, .dead, .dead, (.one rfl rfl), (.one rfl rfl), (.one rfl rfl), (.vec rfl), (.mat rfl rfl rfl), trivial⟩ (.seq (.region (W.fieldAddr rfl rfl rfl rfl (.load rfl rfl rfl rfl rfl rfl (S.len rfl rfl (fun hl7 => .move rfl rfl (.nil (thn_normal (.block ?_))))))))))
   obtain ⟨⟨c74, c75, c76⟩, ho1, hr70⟩ := bind_some hr70
   try dsimp only at hr70
   refine AWP.forS ho1 (fun t77 (c74, c75, c76) => ⟨[(0, .c (.yld 13)), (1, .c (.ptr 11 0 0)), (2, .c (.ptr 12 0 0)), (7, .c (int (t.operators.length : Int))), (8, .c (int t77))], [.one (.cells 8 [[int t.facts, row 1 intI t.init, row 1 intI t.goal, row 4 eTOperator t.operators, row 1 intI plan, .own 14 0 c75.length, .own 15 0 c76.length, .map 3]]), .dead, .dead, .one (mapB Value.string (Value.int .i64) c74), .one (.cells 1 [[.ptr 0 0 0]]), .one (.cells 1 [[int iv]]), .one (.cells 5 [[row 1 intI a13.fs, int a13.fat, int a13.ffrom, int a13.op, int a13.change]]), .dead, .dead, .dead, .dead, .one (.cells 4 [[int t.facts, row 1 intI t.init, row 1 intI t.goal, row 4 eTOperator t.operators]]), .one (.cells 1 [[row 1 intI a13.fs]]), .one (loopB 89 [76, 77] as70 bo70 .ready none [(2, none), (3, none), (4, none)] [.ptr 4 0 0, .ptr 5 0 0, .ptr 6 0 0]), .one (vec 5 eTrepair_node c75), mat (15, []) 1 intI c76]⟩) (fun (c74, c75, c76) e st => e = .exit 0 ∧ Sub ([.one (.cells 8 [[int t.facts, row 1 intI t.init, row 1 intI t.goal, row 4 eTOperator t.operators, row 1 intI plan, .own 9 0 c61.length, .own 10 0 c62.length, .map 3]]), .dead, .dead, .one (mapB Value.string (Value.int .i64) c60), .one (.cells 1 [[.ptr 0 0 0]]), .one (.cells 1 [[int iv]]), .one (.cells 5 [[row 1 intI a13.fs, int a13.fat, int a13.ffrom, int a13.op, int a13.change]]), .dead, .dead, .one (vec 5 eTrepair_node c61), mat (10, []) 1 intI c62, .one (.cells 4 [[int t.facts, row 1 intI t.init, row 1 intI t.goal, row 4 eTOperator t.operators]]), .one (.cells 1 [[row 1 intI a13.fs]]), .one (loopB 89 [76, 77] as70 bo70 .ready none [(2, none), (3, none), (4, none)] [.ptr 4 0 0, .ptr 5 0 0, .ptr 6 0 0])] : Store) st ⟨[], [.one (.cells 8 [[int t.facts, row 1 intI t.init, row 1 intI t.goal, row 4 eTOperator t.operators, row 1 intI plan, .own 14 0 c75.length, .own 15 0 c76.length, .map 3]]), .dead, .dead, .one (mapB Value.string (Value.int .i64) c74), .one (.cells 1 [[.ptr 0 0 0]]), .one (.cells 1 [[int iv]]), .one (.cells 5 [[row 1 intI a13.fs, int a13.fat, int a13.ffrom, int a13.op, int a13.change]]), .dead, .dead, .dead, .dead, .one (.cells 4 [[int t.facts, row 1 intI t.init, row 1 intI t.goal, row 4 eTOperator t.operators]]), .one (.cells 1 [[row 1 intI a13.fs]]), .one (loopB 89 [76, 77] as70 bo70 .ready none [(2, none), (3, none), (4, none)] [.ptr 4 0 0, .ptr 5 0 0, .ptr 6 0 0]), .one (vec 5 eTrepair_node c75), mat (15, []) 1 intI c76]⟩) ?_ ?_ ?_ ?_
   ·try dsimp only
    exact Sub.env ⟨rfl, rfl, rfl, rfl, rfl, trivial⟩
   ·intro t77 s hlot77 hltt77 _
    obtain ⟨c74, c75, c76⟩ := s
    try dsimp only
    refine AWP.seq (.region (.lss rfl rfl rfl (.nil (thn_normal (.seq (.condNP rfl hltt77 (.exit (thn_exit (thn_exit ⟨rfl, ?_⟩)))))))))
    exact Sub.env trivial
   ·intro t77 s o hlot77 hltt77 h
    obtain ⟨c74, c75, c76⟩ := s
    unfold repair_searcher_expand_w_l1 at h
    try dsimp only at h ⊢
    refine AWP.seq (.region (.lss rfl rfl rfl (.nil (thn_normal (.seq (.condP rfl hltt77 (.skip (thn_normal (.seq (.block (.seq (.region (.move rfl rfl (.assign rfl rfl (.nil (thn_normal (.seq ?_)))))))))))))))))
    obtain ⟨ai14, hai14, h⟩ := bind_some h
    rcases Bool.eq_false_or_eq_true (ai14) with hb78 | hb78
    ·replace h := iteBT hb78 h
     obtain ⟨ai21, hai21, h⟩ := bind_some h
     refine AWP.region (W.loadAgg rfl rfl rfl rfl rfl rfl rfl (.load rfl rfl rfl rfl rfl rfl (.move rfl rfl (.callR rfl rfl rfl rfl (strips_Can_ok hai14) rfl (.move rfl rfl (.guardT rfl rfl rfl hb78 (.move rfl rfl (.guardT rfl rfl rfl hb78 (.move rfl rfl (.guardT rfl rfl rfl hb78 (W.loadAgg rfl rfl rfl rfl rfl rfl rfl (.guardT rfl rfl rfl hb78 (.load rfl rfl rfl rfl rfl rfl (.guardT rfl rfl rfl hb78 (.move rfl rfl (.guardT rfl rfl rfl hb78 (S.fresh rfl rfl rfl rfl (strips_Next_ok hai21) rfl rfl (.frzV (id := 16) (l := ai21) (env2 := [(0, .c (.yld 13)), (1, .c (.ptr 11 0 0)), (2, .c (.ptr 12 0 0)), (7, .c (int (t.operators.length : Int))), (8, .c (int t77)), (15, .c (bool ai14)), (16, .c (.yld 13)), (17, .c (int t77)), (21, .c (row 1 intI ai21))]) (σ2 := [.one (.cells 8 [[int t.facts, row 1 intI t.init, row 1 intI t.goal, row 4 eTOperator t.operators, row 1 intI plan, .own 14 0 c75.length, .own 15 0 c76.length, .map 3]]), .dead, .dead, .one (mapB Value.string (Value.int .i64) c74), .one (.cells 1 [[.ptr 0 0 0]]), .one (.cells 1 [[int iv]]), .one (.cells 5 [[row 1 intI a13.fs, int a13.fat, int a13.ffrom, int a13.op, int a13.change]]), .dead, .dead, .dead, .dead, .one (.cells 4 [[int t.facts, row 1 intI t.init, row 1 intI t.goal, row 4 eTOperator t.operators]]), .one (.cells 1 [[row 1 intI a13.fs]]), .one (loopB 89 [76, 77] as70 bo70 .ready none [(2, none), (3, none), (4, none)] [.ptr 4 0 0, .ptr 5 0 0, .ptr 6 0 0]), .one (vec 5 eTrepair_node c75), mat (15, []) 1 intI c76, .dead]) rfl rfl (by exact ⟨⟨_, rfl, .inl ⟨rfl, rfl⟩⟩, ⟨_, rfl, .inl ⟨rfl, rfl⟩⟩, ⟨_, rfl, .inl ⟨rfl, rfl⟩⟩, ⟨_, rfl, .inl ⟨rfl, rfl⟩⟩, ⟨_, rfl, .inl ⟨rfl, rfl⟩⟩, ⟨_, rfl, .inl ⟨rfl, rfl⟩⟩, ⟨_, rfl, .inl ⟨rfl, rfl⟩⟩, ⟨_, rfl, .inl ⟨rfl, rfl⟩⟩, ⟨_, rfl, .inr ⟨_, rfl, rfl, rfl⟩⟩, trivial⟩) rfl (by exact ⟨⟨rfl, .inl ⟨rfl, rfl⟩, .inl ⟨rfl, rfl⟩, .inl ⟨rfl, rfl⟩, .inl ⟨rfl, rfl⟩, .inl ⟨rfl, rfl⟩, .inl ⟨rfl, rfl⟩, .inl ⟨rfl, rfl⟩, .inl ⟨rfl, rfl⟩, trivial⟩, trivial, trivial, ⟨rfl, rfl⟩, ⟨rfl, .inl ⟨rfl, rfl⟩, trivial⟩, ⟨rfl, .inl ⟨rfl, rfl⟩, trivial⟩, ⟨rfl, .inl ⟨rfl, rfl⟩, .inl ⟨rfl, rfl⟩, .inl ⟨rfl, rfl⟩, .inl ⟨rfl, rfl⟩, .inl ⟨rfl, rfl⟩, trivial⟩, trivial, trivial, trivial, trivial, ⟨rfl, .inl ⟨rfl, rfl⟩, .inl ⟨rfl, rfl⟩, .inl ⟨rfl, rfl⟩, .inl ⟨rfl, rfl⟩, trivial⟩, ⟨rfl, .inl ⟨rfl, rfl⟩, trivial⟩, ⟨rfl, rfl⟩, FrzB.vec, (FrzB.mat rfl), trivial, trivial⟩) ?_))))))))))))))))))
     refine AOps.guardT rfl rfl rfl hb78 ?_; refine AOps.yieldB (E1 := [(7, .c (row 1 intI ai21)), (6, .c (int t77)), (77, .c (row 1 intI ai21)), (76, .c (int t77)), (2, .c (.ptr 4 0 0)), (3, .c (.ptr 5 0 0)), (4, .c (.ptr 6 0 0))]) hA70 hB70 rfl rfl rfl rfl rfl rfl rfl rfl rfl ?_ ?_
     ·refine AWP.seq (.region (.assign rfl rfl (.nil (thn_normal (.region (.assign rfl rfl (.nil ?_)))))))
      exact ⟨rfl, rfl⟩
     refine AWP.sub (s' := ⟨[(2, .c (.ptr 4 0 0)), (3, .c (.ptr 5 0 0)), (4, .c (.ptr 6 0 0)), (6, .c (int t77)), (7, .c (row 1 intI ai21))], [.one (.cells 8 [[int t.facts, row 1 intI t.init, row 1 intI t.goal, row 4 eTOperator t.operators, row 1 intI plan, .own 14 0 c75.length, .own 15 0 c76.length, .map 3]]), .dead, .dead, .one (mapB Value.string (Value.int .i64) c74), .one (.cells 1 [[.ptr 0 0 0]]), .one (.cells 1 [[int iv]]), .one (.cells 5 [[row 1 intI a13.fs, int a13.fat, int a13.ffrom, int a13.op, int a13.change]]), .dead, .dead, .dead, .dead, .one (.cells 4 [[int t.facts, row 1 intI t.init, row 1 intI t.goal, row 4 eTOperator t.operators]]), .one (.cells 1 [[row 1 intI a13.fs]]), .one (loopB 89 [76, 77] as70 bo70 .busy none [(2, none), (3, none), (4, none)] [.ptr 4 0 0, .ptr 5 0 0, .ptr 6 0 0]), .one (vec 5 eTrepair_node c75), mat (15, []) 1 intI c76, .dead]⟩) (Sub.env ⟨rfl, rfl, rfl, rfl, rfl, trivial⟩) (.block ?_)
     obtain ⟨ab88, hab88, h⟩ := bind_some h
     refine AWP.region (.load rfl rfl rfl rfl rfl rfl (.move rfl rfl (W.fieldAddr rfl rfl rfl rfl (.load rfl rfl rfl rfl rfl rfl (.load rfl rfl rfl rfl rfl rfl (.move rfl rfl (W.fieldAddr rfl rfl rfl rfl (.load rfl rfl rfl rfl rfl rfl (S.add rfl rfl rfl (W.build rfl rfl rfl rfl (.callF (r2 := .tup []) (σ'' := [.one (.cells 8 [[int t.facts, row 1 intI t.init, row 1 intI t.goal, row 4 eTOperator t.operators, row 1 intI plan, .own 17 0 ab88.2.1.length, .own 18 0 ab88.2.2.length, .map 3]]), .dead, .dead, .one (mapB Value.string (Value.int .i64) ab88.1), .one (.cells 1 [[.ptr 0 0 0]]), .one (.cells 1 [[int iv]]), .one (.cells 5 [[row 1 intI a13.fs, int a13.fat, int a13.ffrom, int a13.op, int a13.change]]), .dead, .dead, .dead, .dead, .one (.cells 4 [[int t.facts, row 1 intI t.init, row 1 intI t.goal, row 4 eTOperator t.operators]]), .one (.cells 1 [[row 1 intI a13.fs]]), .one (loopB 89 [76, 77] as70 bo70 .busy none [(2, none), (3, none), (4, none)] [.ptr 4 0 0, .ptr 5 0 0, .ptr 6 0 0]), .dead, .dead, .dead, .one (vec 5 eTrepair_node ab88.2.1), mat (18, []) 1 intI ab88.2.2]) rfl rfl rfl (FnOk.lend [0, 14, 15, 3] (repair_searcher_add_w2_ok hab88) rfl rfl rfl rfl rfl rfl (by exact ⟨(.one rfl), .vec, (.mat rfl), (.one rfl), trivial⟩) rfl (by exact ⟨(.live rfl (.one rfl)), (.live rfl .vec), (.live rfl .mat), (.live rfl (.one rfl)), trivial⟩) rfl rfl (by exact ⟨(.new 0 rfl rfl (.one rfl)), .dead, .dead, (.new 3 rfl rfl (.one rfl)), (.old rfl rfl rfl), (.old rfl rfl rfl), (.old rfl rfl rfl), .dead, .dead, .dead, .dead, (.old rfl rfl rfl), (.old rfl rfl rfl), (.old rfl rfl rfl), .dead, .dead, .dead, (.new 4 rfl rfl .vec), (.new 5 rfl rfl .mat), trivial⟩)) (.nil (inB_normal (yPost_normal rfl rfl (.guardT rfl rfl rfl hb78 (.not rfl rfl (.pickT rfl hb78 rfl rfl (.nil (thn_normal (.condF rfl (.skip (inB_normal (thn_normal (.region (.add rfl rfl rfl (by omega) (.move rfl rfl (.nil ?_)))))))))))))))))))))))))))
     have ej := Option.some.inj h
     subst ej
     refine thn_normal ((Sub.move (env' := [(0, .c (.yld 13)), (1, .c (.ptr 11 0 0)), (2, .c (.ptr 12 0 0)), (7, .c (int (t.operators.length : Int))), (8, .c (int (t77 + 1)))]) (σ' := [.one (.cells 8 [[int t.facts, row 1 intI t.init, row 1 intI t.goal, row 4 eTOperator t.operators, row 1 intI plan, .own 14 0 ab88.2.1.length, .own 18 0 ab88.2.2.length, .map 3]]), .dead, .dead, .one (mapB Value.string (Value.int .i64) ab88.1), .one (.cells 1 [[.ptr 0 0 0]]), .one (.cells 1 [[int iv]]), .one (.cells 5 [[row 1 intI a13.fs, int a13.fat, int a13.ffrom, int a13.op, int a13.change]]), .dead, .dead, .dead, .dead, .one (.cells 4 [[int t.facts, row 1 intI t.init, row 1 intI t.goal, row 4 eTOperator t.operators]]), .one (.cells 1 [[row 1 intI a13.fs]]), .one (loopB 89 [76, 77] as70 bo70 .ready none [(2, none), (3, none), (4, none)] [.ptr 4 0 0, .ptr 5 0 0, .ptr 6 0 0]), .one (vec 5 eTrepair_node ab88.2.1), .dead, .dead, .dead, mat (18, []) 1 intI ab88.2.2]) 14 17 rfl rfl rfl ⟨rfl, rfl, rfl, rfl, rfl, trivial⟩ rfl ⟨⟨rfl, rfl⟩, trivial, trivial, ⟨rfl, rfl⟩, ⟨rfl, rfl⟩, ⟨rfl, rfl⟩, ⟨rfl, rfl⟩, trivial, trivial, trivial, trivial, ⟨rfl, rfl⟩, ⟨rfl, rfl⟩, ⟨rfl, rfl⟩, ⟨Blk.im_ok _ _ _, vec_mv rfl⟩, trivial, trivial, trivial, .mat rfl rfl rfl, trivial⟩).trans ((Sub.moveM (env' := [(0, .c (.yld 13)), (1, .c (.ptr 11 0 0)), (2, .c (.ptr 12 0 0)), (7, .c (int (t.operators.length : Int))), (8, .c (int (t77 + 1)))]) (σ' := [.one (.cells 8 [[int t.facts, row 1 intI t.init, row 1 intI t.goal, row 4 eTOperator t.operators, row 1 intI plan, .own 14 0 ab88.2.1.length, .own 15 0 ab88.2.2.length, .map 3]]), .dead, .dead, .one (mapB Value.string (Value.int .i64) ab88.1), .one (.cells 1 [[.ptr 0 0 0]]), .one (.cells 1 [[int iv]]), .one (.cells 5 [[row 1 intI a13.fs, int a13.fat, int a13.ffrom, int a13.op, int a13.change]]), .dead, .dead, .dead, .dead, .one (.cells 4 [[int t.facts, row 1 intI t.init, row 1 intI t.goal, row 4 eTOperator t.operators]]), .one (.cells 1 [[row 1 intI a13.fs]]), .one (loopB 89 [76, 77] as70 bo70 .ready none [(2, none), (3, none), (4, none)] [.ptr 4 0 0, .ptr 5 0 0, .ptr 6 0 0]), .one (vec 5 eTrepair_node ab88.2.1), mat (15, []) 1 intI ab88.2.2, .dead, .dead]) 15 18 rfl rfl rfl ⟨rfl, rfl, rfl, rfl, rfl, trivial⟩ rfl ⟨(.one rfl rfl), .dead, .dead, (.one rfl rfl), (.one rfl rfl), (.one rfl rfl), (.one rfl rfl), .dead, .dead, .dead, .dead, (.one rfl rfl), (.one rfl rfl), (.one rfl rfl), (.vec rfl), (.mat rfl rfl rfl), .dead, .dead, trivial⟩).trans (Sub.cut ⟨rfl, rfl, rfl, rfl, rfl, trivial⟩ rfl ⟨.one rfl, .dead, .dead, .one rfl, .one rfl, .one rfl, .one rfl, .dead, .dead, .dead, .dead, .one rfl, .one rfl, .one rfl, .vec, .mat rfl, trivial⟩ rfl)))
    ·replace h := iteBF hb78 h
     refine AWP.region (W.loadAgg rfl rfl rfl rfl rfl rfl rfl (.load rfl rfl rfl rfl rfl rfl (.move rfl rfl (.callR rfl rfl rfl rfl (strips_Can_ok hai14) rfl (.move rfl rfl (.guardF rfl rfl rfl hb78 (.guardF rfl rfl rfl hb78 (.guardF rfl rfl rfl hb78 (.guardF rfl rfl rfl hb78 (.guardF rfl rfl rfl hb78 (.guardF rfl rfl rfl hb78 (.guardF rfl rfl rfl hb78 (.guardF rfl rfl rfl hb78 (.pickF rfl hb78 rfl rfl (.nil (thn_normal (.condF rfl (.skip (inB_normal (thn_normal (.region (.add rfl rfl rfl (by omega) (.move rfl rfl (.nil ?_))))))))))))))))))))))))
     have ej := Option.some.inj h
     subst ej
     refine thn_normal (Sub.env ⟨rfl, rfl, rfl, rfl, rfl, trivial⟩)
   ·intro e s hq
    obtain ⟨rfl, hs⟩ := hq
    refine ⟨_, hs, ?_⟩
    refine inB_exit ?_
    have ej := Option.some.inj hr70
    subst ej
    exact ⟨⟨[], [.one (.cells 8 [[int t.facts, row 1 intI t.init, row 1 intI t.goal, row 4 eTOperator t.operators, row 1 intI plan, .own 14 0 c75.length, .own 15 0 c76.length, .map 3]]), .dead, .dead, .one (mapB Value.string (Value.int .i64) c74), .one (.cells 1 [[.ptr 0 0 0]]), .one (.cells 1 [[int iv]]), .one (.cells 5 [[row 1 intI a13.fs, int a13.fat, int a13.ffrom, int a13.op, int a13.change]]), .dead, .dead, .dead, .dead, .one (.cells 4 [[int t.facts, row 1 intI t.init, row 1 intI t.goal, row 4 eTOperator t.operators]]), .one (.cells 1 [[row 1 intI a13.fs]]), .one (loopB 89 [76, 77] as70 bo70 .ready none [(2, none), (3, none), (4, none)] [.ptr 4 0 0, .ptr 5 0 0, .ptr 6 0 0]), .one (vec 5 eTrepair_node c75), mat (15, []) 1 intI c76]⟩, Sub.env trivial, Done.normal rfl ⟨rfl, rfl⟩⟩
  ·rintro tt ss ⟨rfl, rfl⟩
   obtain ⟨c71, c72, c73⟩ := xr70
   try dsimp only at h ⊢
   refine rPost_normal rfl rfl (inB_normal ?_)
   have ej := Option.some.inj h
   subst ej
   exact ⟨⟨[], [.one (.cells 8 [[int t.facts, row 1 intI t.init, row 1 intI t.goal, row 4 eTOperator t.operators, row 1 intI plan, .own 14 0 c72.length, .own 15 0 c73.length, .map 3]]), .dead, .dead, .one (mapB Value.string (Value.int .i64) c71), .dead, .dead, .dead, .dead, .dead, .dead, .dead, .dead, .dead, .dead, .one (vec 5 eTrepair_node c72), mat (15, []) 1 intI c73]⟩, Sub.cut trivial rfl ⟨.one rfl, .dead, .dead, .one rfl, .dead, .dead, .dead, .dead, .dead, .dead, .dead, .dead, .dead, .dead, .vec, .mat rfl, trivial⟩ rfl, Done.normal rfl ⟨rfl, rfl⟩⟩
theorem repair_Plan_ok {t : TTask} {plan : List Int} {r : (List Int) × Int × Bool × TFault} (h : repair_Plan t plan = some r) : PureOk Tryd.prog 12 [.agg [int t.facts, row 1 intI t.init, row 1 intI t.goal, row 4 eTOperator t.operators], .c (row 1 intI plan)] (.tup [.c (row 1 intI r.1), .c (int r.2.1), .c (bool r.2.2.1), .agg [int r.2.2.2.code, int r.2.2.2.index]]) := by
 unfold PureOk
 refine FnOk.enter (rs := [.t 4, .t 5, .t 6, .cell 7 24 2]) Tryd.func12 rfl Tryd.ntmps12 Tryd.results12 rfl ⟨trivial, trivial, trivial, rv _ rfl, trivial⟩ (by kernel_rfl) rfl ?_
 unfold repair_Plan at h
 refine AWP.seq (.region (W.box rfl rfl rfl rfl rfl rfl (.assign rfl rfl (.assign rfl rfl (.assign rfl rfl (W.alloc rfl rfl rfl rfl (.nil (thn_normal (.seq (.seq ?_))))))))))
 obtain ⟨a16, ha16, h⟩ := bind_some h
 refine AWP.region (W.loadAgg rfl rfl rfl rfl rfl rfl rfl (.move rfl rfl (.callR rfl rfl rfl rfl (strips_PlanFault_ok ha16) rfl (W.alloc rfl rfl rfl rfl (W.storeAgg rfl rfl rfl rfl rfl rfl rfl (.nil (thn_normal (.seq (.region (W.loadAgg rfl rfl rfl rfl rfl rfl rfl (W.build rfl rfl rfl rfl (.neqP rfl rfl rfl rfl rfl rfl rfl (.nil (thn_normal (.iteB rfl h (fun hc3 h => ?_) (fun hc3 h => ?_))))))))))))))))
 ·refine AWP.seq (.drawEI [4] mixed rfl rfl rfl ?_)
  apply DrawSeqE.consN; exact rfl; exact rfl; intro E
  refine W.loadAgg rfl rfl rfl rfl rfl rfl rfl (.nil ⟨rfl, rfl⟩)
  exact rfl
  apply DrawSeqE.consN; exact rfl; exact rfl; intro E
  refine AOps.assign rfl rfl (.nil ⟨rfl, rfl⟩)
  exact rfl
  apply DrawSeqE.consN; exact rfl; exact rfl; intro E
  refine AOps.assign rfl rfl (.nil ⟨rfl, rfl⟩)
  exact rfl
  apply DrawSeqE.consN; exact rfl; exact rfl; intro E
  refine AOps.assign rfl rfl (.nil ⟨rfl, rfl⟩)
  exact rfl
  apply DrawSeqE.consE (v := .undef); exact rfl; exact rfl; intro E
  refine W.storeAgg rfl rfl rfl rfl rfl rfl rfl (.nil ⟨rfl, rfl⟩)
  exact rfl
  exact rfl
  refine DrawSeqE.done rfl ?_ ?_
  ·apply RestI.cons; exact rfl; exact rfl
   apply RestK.go; exact rfl; exact rfl; intro E; refine W.loadAgg rfl rfl rfl rfl rfl rfl rfl ?_; exact AOps.nil ⟨rfl, rfl⟩
   refine RestK.skip rfl (RestK.nil)
   apply RestI.cons; exact rfl; exact rfl
   apply RestK.go; exact rfl; exact rfl; intro E; refine AOps.assign rfl rfl ?_; exact AOps.nil ⟨rfl, rfl⟩
   refine RestK.skip rfl (RestK.nil)
   apply RestI.cons; exact rfl; exact rfl
   apply RestK.go; exact rfl; exact rfl; intro E; refine AOps.assign rfl rfl ?_; exact AOps.nil ⟨rfl, rfl⟩
   refine RestK.skip rfl (RestK.nil)
   apply RestI.cons; exact rfl; exact rfl
   apply RestK.go; exact rfl; exact rfl; intro E; refine AOps.assign rfl rfl ?_; exact AOps.nil ⟨rfl, rfl⟩
   refine RestK.skip rfl (RestK.nil)
   refine RestI.skip rfl (RestI.nil)
  dsimp only [envEnd]
  refine thn_normal (.nilrow 1 4 rfl (.ret (thn_ret ?_)))
  have ej := Option.some.inj h
  subst ej
  exact Done.ret rfl rfl
 ·refine AWP.skip (thn_normal (.seq (.seq ?_)))
  obtain ⟨a25, ha25, h⟩ := bind_some h
  obtain ⟨a26, ha26, h⟩ := bind_some h
  refine AWP.sub (s' := ⟨[(0, .agg [int t.facts, row 1 intI t.init, row 1 intI t.goal, row 4 eTOperator t.operators]), (1, .c (row 1 intI plan)), (2, .c (.ptr 0 0 0)), (4, .c (.imm (.val (.slice none 0 0)))), (5, .c (int 0)), (6, .c (bool false)), (7, .c (.ptr 1 0 0)), (8, .c (.ptr 2 0 0)), (14, .agg [int t.facts, row 1 intI t.init, row 1 intI t.goal, row 4 eTOperator t.operators]), (15, .c (row 1 intI plan)), (16, .agg [int a16.code, int a16.index]), (17, .agg [int a16.code, int a16.index]), (18, .agg [int 0, int 0]), (19, .c (bool (!((decide (a16.code = 0)) && (decide (a16.index = 0))))))], [.one (.cells 4 [[int t.facts, row 1 intI t.init, row 1 intI t.goal, row 4 eTOperator t.operators]]), .one (.cells 2 [[int 0, int 0]]), .one (.cells 2 [[int a16.code, int a16.index]]), .dead, .dead]⟩) (Sub.cut ⟨rfl, rfl, rfl, rfl, rfl, rfl, rfl, rfl, rfl, rfl, rfl, rfl, rfl, rfl, trivial⟩ rfl ⟨.one rfl, .one rfl, .one rfl, .dead, .dead, trivial⟩ rfl) (.drawTI [.c (.ptr 0 0 1), .c (row 1 intI t.init), .c (.own 3 0 ([t.init].length)), .agg [int t.facts, row 1 intI t.init, row 1 intI t.goal, row 4 eTOperator t.operators], .c (.fn 29 [.ptr 4 0 0]), .c (bool a26), .c (bool (!a26))] [2, 4, 5] [([], [.one (.cells 4 [[int t.facts, row 1 intI t.init, row 1 intI t.goal, row 4 eTOperator t.operators]]), .one (.cells 2 [[int 0, int 0]]), .one (.cells 2 [[int a16.code, int a16.index]]), .dead, .dead]), ([2], [.one (.cells 4 [[int t.facts, row 1 intI t.init, row 1 intI t.goal, row 4 eTOperator t.operators]]), .one (.cells 2 [[int 0, int 0]]), .one (.cells 2 [[int a16.code, int a16.index]]), .one (vec 1 eLi64 [t.init]), .dead]), ([4], [.one (.cells 4 [[int t.facts, row 1 intI t.init, row 1 intI t.goal, row 4 eTOperator t.operators]]), .one (.cells 2 [[int 0, int 0]]), .one (.cells 2 [[int a16.code, int a16.index]]), .dead, .one (.cells 4 [[int t.facts, row 1 intI t.init, row 1 intI t.goal, row 4 eTOperator t.operators]])]), ([2, 4], [.one (.cells 4 [[int t.facts, row 1 intI t.init, row 1 intI t.goal, row 4 eTOperator t.operators]]), .one (.cells 2 [[int 0, int 0]]), .one (.cells 2 [[int a16.code, int a16.index]]), .one (vec 1 eLi64 [t.init]), .one (.cells 4 [[int t.facts, row 1 intI t.init, row 1 intI t.goal, row 4 eTOperator t.operators]])]), ([2, 4, 5], [.one (.cells 4 [[int t.facts, row 1 intI t.init, row 1 intI t.goal, row 4 eTOperator t.operators]]), .one (.cells 2 [[int 0, int 0]]), .one (.cells 2 [[int a16.code, int a16.index]]), .dead, .one (.cells 4 [[int t.facts, row 1 intI t.init, row 1 intI t.goal, row 4 eTOperator t.operators]])])] [.one (.cells 4 [[int t.facts, row 1 intI t.init, row 1 intI t.goal, row 4 eTOperator t.operators]]), .one (.cells 2 [[int 0, int 0]]), .one (.cells 2 [[int a16.code, int a16.index]]), .dead, .one (.cells 4 [[int t.facts, row 1 intI t.init, row 1 intI t.goal, row 4 eTOperator t.operators]])] mixed rfl rfl rfl rfl rfl ?_ ?_)
  ·refine TabOk.cons ?_ ?_
   ·apply EntOps.go; exact rfl; exact rfl; exact rfl; intro E hE; (refine W.fieldAddr rfl rfl rfl rfl ?_); exact AOps.nil ⟨rfl, rfl⟩
    apply EntOps.go; exact rfl; exact rfl; exact rfl; intro E hE; (refine AOps.load rfl rfl rfl rfl rfl rfl ?_); exact AOps.nil ⟨rfl, rfl⟩
    apply EntOps.eff; exact rfl; exact rfl; exact rfl; exact rfl; intro E hE; (refine AOps.newAt 3 (.c (.own 3 0 ([t.init].length))) (vec 1 eLi64 [t.init]) (.inl rfl) rfl hE rfl rfl rfl rfl (.vec) (.vec) rfl rfl rfl ⟨.one rfl, .one rfl, .one rfl, .dead, .dead, trivial⟩ (fun hh => by (refine S.lit (f := eLi64) (l := [t.init]) (ess := [[row 1 intI t.init]]) rfl rfl rfl rfl rfl rfl rfl ⟨⟨.inl rfl, trivial⟩, trivial⟩ rfl rfl rfl ?_; exact hh)) ?_); exact AOps.nil ⟨rfl, rfl⟩
    apply EntOps.go; exact rfl; exact rfl; exact rfl; intro E hE; (refine W.loadAgg rfl rfl rfl rfl rfl rfl rfl ?_); exact AOps.nil ⟨rfl, rfl⟩
    apply EntOps.eff; exact rfl; exact rfl; exact rfl; exact rfl; intro E hE; (refine AOps.newAt 4 (.c (.fn 29 [.ptr 4 0 0])) (.cells 4 [[int t.facts, row 1 intI t.init, row 1 intI t.goal, row 4 eTOperator t.operators]]) (.inl rfl) rfl hE rfl rfl rfl rfl (.one rfl) (.one rfl) rfl rfl rfl ⟨.one rfl, .one rfl, .one rfl, .dead, .dead, trivial⟩ (fun hh => by (refine AOps.callF (r2 := .c (.fn 29 [.ptr 5 0 0])) (σ'' := [.one (.cells 4 [[int t.facts, row 1 intI t.init, row 1 intI t.goal, row 4 eTOperator t.operators]]), .one (.cells 2 [[int 0, int 0]]), .one (.cells 2 [[int a16.code, int a16.index]]), .dead, .dead, .one (.cells 4 [[int t.facts, row 1 intI t.init, row 1 intI t.goal, row 4 eTOperator t.operators]])]) rfl rfl rfl (FnOk.lend [] (belief_Next_w_ok ha25) rfl rfl rfl rfl rfl rfl (by exact trivial) rfl (by exact trivial) rfl rfl (by exact ⟨(.old rfl rfl rfl), (.old rfl rfl rfl), (.old rfl rfl rfl), .dead, .dead, (.new 0 rfl rfl (.one rfl)), trivial⟩)) ?_; exact hh)) ?_); exact AOps.nil ⟨rfl, rfl⟩
    refine EntOps.no rfl (EntOps.no rfl (EntOps.nil))
   refine TabOk.cons ?_ ?_
   ·refine EntOps.no rfl (EntOps.no rfl (EntOps.no rfl ?_))
    apply EntOps.go; exact rfl; exact rfl; exact rfl; intro E hE; (refine W.loadAgg rfl rfl rfl rfl rfl rfl rfl ?_); exact AOps.nil ⟨rfl, rfl⟩
    apply EntOps.eff; exact rfl; exact rfl; exact rfl; exact rfl; intro E hE; (refine AOps.newAt 4 (.c (.fn 29 [.ptr 4 0 0])) (.cells 4 [[int t.facts, row 1 intI t.init, row 1 intI t.goal, row 4 eTOperator t.operators]]) (.inl rfl) rfl hE rfl rfl rfl rfl (.one rfl) (.one rfl) rfl rfl rfl ⟨.one rfl, .one rfl, .one rfl, .vec, .dead, trivial⟩ (fun hh => by (refine AOps.callF (r2 := .c (.fn 29 [.ptr 5 0 0])) (σ'' := [.one (.cells 4 [[int t.facts, row 1 intI t.init, row 1 intI t.goal, row 4 eTOperator t.operators]]), .one (.cells 2 [[int 0, int 0]]), .one (.cells 2 [[int a16.code, int a16.index]]), .one (vec 1 eLi64 [t.init]), .dead, .one (.cells 4 [[int t.facts, row 1 intI t.init, row 1 intI t.goal, row 4 eTOperator t.operators]])]) rfl rfl rfl (FnOk.lend [] (belief_Next_w_ok ha25) rfl rfl rfl rfl rfl rfl (by exact trivial) rfl (by exact trivial) rfl rfl (by exact ⟨(.old rfl rfl rfl), (.old rfl rfl rfl), (.old rfl rfl rfl), (.old rfl rfl rfl), .dead, (.new 0 rfl rfl (.one rfl)), trivial⟩)) ?_; exact hh)) ?_); exact AOps.nil ⟨rfl, rfl⟩
    refine EntOps.no rfl (EntOps.no rfl (EntOps.nil))
   refine TabOk.cons ?_ ?_
   ·apply EntOps.go; exact rfl; exact rfl; exact rfl; intro E hE; (refine W.fieldAddr rfl rfl rfl rfl ?_); exact AOps.nil ⟨rfl, rfl⟩
    apply EntOps.go; exact rfl; exact rfl; exact rfl; intro E hE; (refine AOps.load rfl rfl rfl rfl rfl rfl ?_); exact AOps.nil ⟨rfl, rfl⟩
    apply EntOps.eff; exact rfl; exact rfl; exact rfl; exact rfl; intro E hE; (refine AOps.newAt 3 (.c (.own 3 0 ([t.init].length))) (vec 1 eLi64 [t.init]) (.inl rfl) rfl hE rfl rfl rfl rfl (.vec) (.vec) rfl rfl rfl ⟨.one rfl, .one rfl, .one rfl, .dead, .one rfl, trivial⟩ (fun hh => by (refine S.lit (f := eLi64) (l := [t.init]) (ess := [[row 1 intI t.init]]) rfl rfl rfl rfl rfl rfl rfl ⟨⟨.inl rfl, trivial⟩, trivial⟩ rfl rfl rfl ?_; exact hh)) ?_); exact AOps.nil ⟨rfl, rfl⟩
    refine EntOps.no rfl (EntOps.no rfl (EntOps.no rfl (EntOps.no rfl (EntOps.nil))))
   refine TabOk.cons ?_ ?_
   ·refine EntOps.no rfl (EntOps.no rfl (EntOps.no rfl (EntOps.no rfl (EntOps.no rfl ?_))))
    apply EntOps.eff; exact rfl; exact rfl; exact rfl; exact rfl; intro E hE; (refine AOps.callF (r2 := .c (bool a26)) (σ'' := [.one (.cells 4 [[int t.facts, row 1 intI t.init, row 1 intI t.goal, row 4 eTOperator t.operators]]), .one (.cells 2 [[int 0, int 0]]), .one (.cells 2 [[int a16.code, int a16.index]]), .dead, .one (.cells 4 [[int t.facts, row 1 intI t.init, row 1 intI t.goal, row 4 eTOperator t.operators]])]) rfl rfl rfl (FnOk.lend [3, 4] (belief_Small_int_w_ok ha26) rfl rfl rfl rfl rfl rfl (by exact ⟨.vec, (.one rfl), trivial⟩) rfl (by exact ⟨(.live rfl .vec), (.live rfl (.one rfl)), trivial⟩) rfl rfl (by exact ⟨(.old rfl rfl rfl), (.old rfl rfl rfl), (.old rfl rfl rfl), .dead, (.new 1 rfl rfl (.one rfl)), trivial⟩)) ?_); exact AOps.nil ⟨rfl, rfl⟩
    refine EntOps.no rfl (EntOps.nil)
   refine TabOk.cons ?_ ?_
   ·refine EntOps.no rfl (EntOps.no rfl (EntOps.no rfl (EntOps.no rfl (EntOps.no rfl (EntOps.no rfl ?_)))))
    apply EntOps.go; exact rfl; exact rfl; exact rfl; intro E hE; (refine AOps.not rfl rfl ?_); exact AOps.nil ⟨rfl, rfl⟩
    exact EntOps.nil
   exact TabOk.nil
  dsimp only [envEnd]
  refine thn_normal (.iteB rfl h (fun hc4 h => ?_) (fun hc4 h => ?_))
  ·refine AWP.seq (.region (W.build rfl rfl rfl rfl (.assign rfl rfl (.assign rfl rfl (.assign rfl rfl (W.storeAgg rfl rfl rfl rfl rfl rfl rfl (.nil (thn_normal (.nilrow 1 4 rfl (.ret (thn_ret ?_)))))))))))
   have ej := Option.some.inj h
   subst ej
   exact Done.ret rfl rfl
  ·refine AWP.skip (thn_normal (.seq (.region (W.loadAgg rfl rfl rfl rfl rfl rfl rfl (.move rfl rfl (W.makeMap Value.string (Value.int .i64) rfl rfl rfl (W.buildP rfl rfl rfl rfl (W.box rfl rfl rfl rfl rfl rfl (.assign rfl rfl (.nil (thn_normal (.seq (.virtB 5 eTrepair_node (b := 6) (o := 5) rfl rfl rfl rfl rfl rfl (.virtBM 1 intI (b := 6) (o := 6) rfl rfl rfl rfl rfl rfl rfl rfl ?_))))))))))))))
   obtain ⟨a38, ha38, h⟩ := bind_some h
   refine AWP.region (.move rfl rfl (W.fieldAddr rfl rfl rfl rfl (.load rfl rfl rfl rfl rfl rfl (W.build rfl rfl rfl rfl (.callF (r2 := .tup []) (σ'' := [.one (.cells 4 [[int t.facts, row 1 intI t.init, row 1 intI t.goal, row 4 eTOperator t.operators]]), .one (.cells 2 [[int 0, int 0]]), .one (.cells 2 [[int a16.code, int a16.index]]), .dead, .one (.cells 4 [[int t.facts, row 1 intI t.init, row 1 intI t.goal, row 4 eTOperator t.operators]]), .one (mapB Value.string (Value.int .i64) a38.1), .one (.cells 8 [[int t.facts, row 1 intI t.init, row 1 intI t.goal, row 4 eTOperator t.operators, row 1 intI plan, .own 9 0 a38.2.1.length, .own 10 0 a38.2.2.length, .map 5]]), .dead, .dead, .one (vec 5 eTrepair_node a38.2.1), mat (10, []) 1 intI a38.2.2]) rfl rfl rfl (FnOk.lend [6, 7, 8, 5] (repair_searcher_add_w2_ok ha38) rfl rfl rfl rfl rfl rfl (by exact ⟨(.one rfl), .vec, (.mat rfl), (.one rfl), trivial⟩) rfl (by exact ⟨(.live rfl (.one rfl)), (.live rfl .vec), (.live rfl .mat), (.live rfl (.one rfl)), trivial⟩) rfl rfl (by exact ⟨(.old rfl rfl rfl), (.old rfl rfl rfl), (.old rfl rfl rfl), .dead, (.old rfl rfl rfl), (.new 3 rfl rfl (.one rfl)), (.new 0 rfl rfl (.one rfl)), .dead, .dead, (.new 4 rfl rfl .vec), (.new 5 rfl rfl .mat), trivial⟩)) (.nil (thn_normal (.seq (.seq (.region (.assign rfl rfl (.nil (thn_normal (.block ?_))))))))))))))
   obtain ⟨oo, ho1, h⟩ := bind_some h
   refine AWP.loopS ho1 (fun (c5, c6, c7, change8) => ⟨[(1, .c (row 1 intI plan)), (2, .c (.ptr 0 0 0)), (7, .c (.ptr 1 0 0)), (9, .c (.ptr 6 0 0)), (10, .c (int change8))], [.one (.cells 4 [[int t.facts, row 1 intI t.init, row 1 intI t.goal, row 4 eTOperator t.operators]]), .one (.cells 2 [[int 0, int 0]]), .dead, .dead, .dead, .one (mapB Value.string (Value.int .i64) c5), .one (.cells 8 [[int t.facts, row 1 intI t.init, row 1 intI t.goal, row 4 eTOperator t.operators, row 1 intI plan, .own 9 0 c6.length, .own 10 0 c7.length, .map 5]]), .dead, .dead, .one (vec 5 eTrepair_node c6), mat (10, []) 1 intI c7]⟩) (fun o e st => match o with | .inl _ => e = .exit 0 ∧ Sub [] st ⟨[(7, .c (.ptr 1 0 0))], [.dead, .one (.cells 2 [[int 0, int 0]])]⟩ | .inr x => e = .ret ∧ Done [.t 4, .t 5, .t 6, .cell 7 24 2] (fun t _ => t = .tup [.c (row 1 intI x.1), .c (int x.2.1), .c (bool x.2.2.1), .agg [int x.2.2.2.code, int x.2.2.2.index]]) .ret st) ?_ ?_ ?_
   ·try dsimp only
    exact Sub.cut ⟨rfl, rfl, rfl, rfl, rfl, trivial⟩ rfl ⟨.one rfl, .one rfl, .dead, .dead, .dead, .one rfl, .one rfl, .dead, .dead, .vec, .mat rfl, trivial⟩ rfl
   ·intro s o h
    obtain ⟨c5, c6, c7, change8⟩ := s
    unfold repair_Plan_l1 at h
    try dsimp only at h ⊢
    refine AWP.seq (.seq (.region (.move rfl rfl (.move rfl rfl (.nilCheck rfl rfl rfl (W.fieldAddr rfl rfl rfl rfl (.load rfl rfl rfl rfl rfl rfl (S.lenM rfl rfl rfl (fun hl44 => .lss rfl rfl rfl (.nil (thn_normal (.ite rfl h (fun hc9 h => ?_) (fun hc9 h => ?_)))))))))))))
    ·refine AWP.skip (thn_normal (.seq (.block (.seq (.region (.assign rfl rfl (.nil (thn_normal (.block ?_)))))))))
     obtain ⟨oo, ho2, h⟩ := bind_some h
     refine AWP.loopS ho2 (fun (c10, c11, c12, j13) => ⟨[(1, .c (row 1 intI plan)), (2, .c (.ptr 0 0 0)), (7, .c (.ptr 1 0 0)), (9, .c (.ptr 6 0 0)), (10, .c (int change8)), (11, .c (int j13))], [.one (.cells 4 [[int t.facts, row 1 intI t.init, row 1 intI t.goal, row 4 eTOperator t.operators]]), .one (.cells 2 [[int 0, int 0]]), .dead, .dead, .dead, .one (mapB Value.string (Value.int .i64) c10), .one (.cells 8 [[int t.facts, row 1 intI t.init, row 1 intI t.goal, row 4 eTOperator t.operators, row 1 intI plan, .own 9 0 c11.length, .own 10 0 c12.length, .map 5]]), .dead, .dead, .one (vec 5 eTrepair_node c11), mat (10, []) 1 intI c12]⟩) (fun o e st => match o with | .inl (c14, c15, c16) => e = .exit 2 ∧ Sub [] st ⟨[(1, .c (row 1 intI plan)), (2, .c (.ptr 0 0 0)), (7, .c (.ptr 1 0 0)), (9, .c (.ptr 6 0 0)), (10, .c (int change8))], [.one (.cells 4 [[int t.facts, row 1 intI t.init, row 1 intI t.goal, row 4 eTOperator t.operators]]), .one (.cells 2 [[int 0, int 0]]), .dead, .dead, .dead, .one (mapB Value.string (Value.int .i64) c14), .one (.cells 8 [[int t.facts, row 1 intI t.init, row 1 intI t.goal, row 4 eTOperator t.operators, row 1 intI plan, .own 9 0 c15.length, .own 10 0 c16.length, .map 5]]), .dead, .dead, .one (vec 5 eTrepair_node c15), mat (10, []) 1 intI c16]⟩ | .inr x => e = .ret ∧ Done [.t 4, .t 5, .t 6, .cell 7 24 2] (fun t _ => t = .tup [.c (row 1 intI x.1), .c (int x.2.1), .c (bool x.2.2.1), .agg [int x.2.2.2.code, int x.2.2.2.index]]) .ret st) ?_ ?_ ?_
     ·try dsimp only
      exact Sub.env ⟨rfl, rfl, rfl, rfl, rfl, rfl, trivial⟩
     ·intro s o h
      obtain ⟨c10, c11, c12, j13⟩ := s
      unfold repair_Plan_l2 at h
      try dsimp only at h ⊢
      refine AWP.seq (.seq ?_)
      obtain ⟨a54, ha54, h⟩ := bind_some h
      refine AWP.region (.move rfl rfl (.move rfl rfl (.nilCheck rfl rfl rfl (W.fieldAddr rfl rfl rfl rfl (.load rfl rfl rfl rfl rfl rfl (.move rfl rfl (S.idxH ha54 rfl rfl rfl (by simp) rfl rfl (S.loadM ha54 rfl rfl rfl rfl (S.lenO rfl (mat_get rfl ha54) rfl (fun hl56 => .lss rfl rfl rfl (.nil (thn_normal (.ite rfl h (fun hc17 h => ?_) (fun hc17 h => ?_))))))))))))))
      ·refine AWP.skip (thn_normal (.seq (.block (.seq ?_))))
       obtain ⟨a65, ha65, h⟩ := bind_some h
       obtain ⟨a68, ha68, h⟩ := bind_some h
       refine AWP.region (.move rfl rfl (.nilCheck rfl rfl rfl (W.fieldAddr rfl rfl rfl rfl (.load rfl rfl rfl rfl rfl rfl (.move rfl rfl (S.idxH ha65 rfl rfl rfl (by simp) rfl rfl (S.loadM ha65 rfl rfl rfl rfl (.move rfl rfl (S.idxO ha68 rfl rfl (mat_get rfl ha65) rfl rfl (S.loadO ha68 rfl rfl (mat_get rfl ha65) rfl rfl (.assign rfl rfl (.nil (thn_normal (.seq ?_))))))))))))))
       obtain ⟨t18, hx19, h⟩ := bind_some h
       refine AWP.seqJ (⟨[(1, .c (row 1 intI plan)), (2, .c (.ptr 0 0 0)), (7, .c (.ptr 1 0 0)), (9, .c (.ptr 6 0 0)), (10, .c (int change8)), (11, .c (int j13)), (12, .c (int a68)), (93, .c (bool t18))], [.one (.cells 4 [[int t.facts, row 1 intI t.init, row 1 intI t.goal, row 4 eTOperator t.operators]]), .one (.cells 2 [[int 0, int 0]]), .dead, .dead, .dead, .one (mapB Value.string (Value.int .i64) c10), .one (.cells 8 [[int t.facts, row 1 intI t.init, row 1 intI t.goal, row 4 eTOperator t.operators, row 1 intI plan, .own 9 0 c11.length, .own 10 0 c12.length, .map 5]]), .dead, .dead, .one (vec 5 eTrepair_node c11), mat (10, []) 1 intI c12]⟩) ?_ ?_
       ·obtain ⟨a75, ha75, hx19⟩ := bind_some hx19
        rcases Bool.eq_false_or_eq_true (decide (a75.fat = (plan.length : Int))) with hb20 | hb20
        ·replace hx19 := iteDT hb20 hx19
         obtain ⟨a87, ha87, hx19⟩ := bind_some hx19
         obtain ⟨a92, ha92, hx19⟩ := bind_some hx19
         refine AWP.drawI mixed rfl ?_
         apply DrawSeq.consF; exact rfl; intro E
         refine AOps.move rfl rfl (.nil ⟨rfl, rfl⟩)
         exact rfl
         apply DrawSeq.consF; exact rfl; intro E
         refine AOps.nilCheck rfl rfl rfl (.nil ⟨rfl, rfl⟩)
         exact rfl
         apply DrawSeq.consF; exact rfl; intro E
         refine W.fieldAddr rfl rfl rfl rfl (.nil ⟨rfl, rfl⟩)
         exact rfl
         apply DrawSeq.consF; exact rfl; intro E
         refine AOps.load rfl rfl rfl rfl rfl rfl (.nil ⟨rfl, rfl⟩)
         exact rfl
         apply DrawSeq.consF; exact rfl; intro E
         refine AOps.move rfl rfl (.nil ⟨rfl, rfl⟩)
         exact rfl
         apply DrawSeq.consF; exact rfl; intro E
         refine S.idxO ha75 rfl rfl rfl rfl rfl (.nil ⟨rfl, rfl⟩)
         exact rfl
         apply DrawSeq.consF; exact rfl; intro E
         refine W.fieldAddr rfl rfl rfl rfl (.nil ⟨rfl, rfl⟩)
         exact rfl
         apply DrawSeq.consF; exact rfl; intro E
         refine S.loadO ha75 rfl rfl rfl rfl rfl (.nil ⟨rfl, rfl⟩)
         exact rfl
         apply DrawSeq.consF; exact rfl; intro E
         refine AOps.move rfl rfl (.nil ⟨rfl, rfl⟩)
         exact rfl
         apply DrawSeq.consF; exact rfl; intro E
         refine S.len rfl rfl (fun hl79 => .nil ⟨rfl, rfl⟩)
         exact rfl
         apply DrawSeq.consF; exact rfl; intro E
         refine AOps.eql rfl rfl rfl (.nil ⟨rfl, rfl⟩)
         exact rfl
         apply DrawSeq.consF; exact rfl; intro E
         refine AOps.move rfl rfl (.nil ⟨rfl, rfl⟩)
         exact rfl
         apply DrawSeq.consF; exact rfl; intro E
         refine AOps.guardT rfl rfl rfl hb20 (.move rfl rfl (.nil ⟨rfl, rfl⟩))
         exact rfl
         apply DrawSeq.consF; exact rfl; intro E
         refine AOps.guardT rfl rfl rfl hb20 (.nilCheck rfl rfl rfl (.nil ⟨rfl, rfl⟩))
         exact rfl
         apply DrawSeq.consF; exact rfl; intro E
         refine AOps.guardT rfl rfl rfl hb20 (W.fieldAddr rfl rfl rfl rfl (.nil ⟨rfl, rfl⟩))
         exact rfl
         apply DrawSeq.consF; exact rfl; intro E
         refine AOps.guardT rfl rfl rfl hb20 (.load rfl rfl rfl rfl rfl rfl (.nil ⟨rfl, rfl⟩))
         exact rfl
         apply DrawSeq.consF; exact rfl; intro E
         refine AOps.guardT rfl rfl rfl hb20 (.move rfl rfl (.nil ⟨rfl, rfl⟩))
         exact rfl
         apply DrawSeq.consF; exact rfl; intro E
         refine AOps.guardT rfl rfl rfl hb20 (S.idxO ha87 rfl rfl rfl rfl rfl (.nil ⟨rfl, rfl⟩))
         exact rfl
         apply DrawSeq.consF; exact rfl; intro E
         refine AOps.guardT rfl rfl rfl hb20 (W.fieldAddr rfl rfl rfl rfl (.nil ⟨rfl, rfl⟩))
         exact rfl
         apply DrawSeq.consF; exact rfl; intro E
         refine AOps.guardT rfl rfl rfl hb20 (S.loadO ha87 rfl rfl rfl rfl rfl (.nil ⟨rfl, rfl⟩))
         exact rfl
         apply DrawSeq.consF; exact rfl; intro E
         refine AOps.guardT rfl rfl rfl hb20 (W.fieldAddr rfl rfl rfl rfl (.nil ⟨rfl, rfl⟩))
         exact rfl
         apply DrawSeq.consF; exact rfl; intro E
         refine AOps.guardT rfl rfl rfl hb20 (.load rfl rfl rfl rfl rfl rfl (.nil ⟨rfl, rfl⟩))
         exact rfl
         apply DrawSeq.consF; exact rfl; intro E
         refine AOps.guardT rfl rfl rfl hb20 (.callR rfl rfl rfl rfl (strips_Contains_ok ha92) rfl (.nil ⟨rfl, rfl⟩))
         exact rfl
         apply DrawSeq.consF; exact rfl; intro E
         refine AOps.pickT rfl hb20 rfl rfl (.nil ⟨rfl, rfl⟩)
         exact rfl
         refine DrawSeq.done ?_
         dsimp only [envEnd]
         have ej := Option.some.inj hx19
         subst ej
         refine thn_normal (Sub.env ⟨rfl, rfl, rfl, rfl, rfl, rfl, rfl, rfl, trivial⟩)
        ·replace hx19 := iteDF hb20 hx19
         refine AWP.drawI mixed rfl ?_
         apply DrawSeq.consF; exact rfl; intro E
         refine AOps.move rfl rfl (.nil ⟨rfl, rfl⟩)
         exact rfl
         apply DrawSeq.consF; exact rfl; intro E
         refine AOps.nilCheck rfl rfl rfl (.nil ⟨rfl, rfl⟩)
         exact rfl
         apply DrawSeq.consF; exact rfl; intro E
         refine W.fieldAddr rfl rfl rfl rfl (.nil ⟨rfl, rfl⟩)
         exact rfl
         apply DrawSeq.consF; exact rfl; intro E
         refine AOps.load rfl rfl rfl rfl rfl rfl (.nil ⟨rfl, rfl⟩)
         exact rfl
         apply DrawSeq.consF; exact rfl; intro E
         refine AOps.move rfl rfl (.nil ⟨rfl, rfl⟩)
         exact rfl
         apply DrawSeq.consF; exact rfl; intro E
         refine S.idxO ha75 rfl rfl rfl rfl rfl (.nil ⟨rfl, rfl⟩)
         exact rfl
         apply DrawSeq.consF; exact rfl; intro E
         refine W.fieldAddr rfl rfl rfl rfl (.nil ⟨rfl, rfl⟩)
         exact rfl
         apply DrawSeq.consF; exact rfl; intro E
         refine S.loadO ha75 rfl rfl rfl rfl rfl (.nil ⟨rfl, rfl⟩)
         exact rfl
         apply DrawSeq.consF; exact rfl; intro E
         refine AOps.move rfl rfl (.nil ⟨rfl, rfl⟩)
         exact rfl
         apply DrawSeq.consF; exact rfl; intro E
         refine S.len rfl rfl (fun hl79 => .nil ⟨rfl, rfl⟩)
         exact rfl
         apply DrawSeq.consF; exact rfl; intro E
         refine AOps.eql rfl rfl rfl (.nil ⟨rfl, rfl⟩)
         exact rfl
         apply DrawSeq.consF; exact rfl; intro E
         refine AOps.move rfl rfl (.nil ⟨rfl, rfl⟩)
         exact rfl
         apply DrawSeq.consF; exact rfl; intro E
         refine AOps.guardF rfl rfl rfl hb20 (.nil ⟨rfl, rfl⟩)
         exact rfl
         apply DrawSeq.consF; exact rfl; intro E
         refine AOps.guardF rfl rfl rfl hb20 (.nil ⟨rfl, rfl⟩)
         exact rfl
         apply DrawSeq.consF; exact rfl; intro E
         refine AOps.guardF rfl rfl rfl hb20 (.nil ⟨rfl, rfl⟩)
         exact rfl
         apply DrawSeq.consF; exact rfl; intro E
         refine AOps.guardF rfl rfl rfl hb20 (.nil ⟨rfl, rfl⟩)
         exact rfl
         apply DrawSeq.consF; exact rfl; intro E
         refine AOps.guardF rfl rfl rfl hb20 (.nil ⟨rfl, rfl⟩)
         exact rfl
         apply DrawSeq.consF; exact rfl; intro E
         refine AOps.guardF rfl rfl rfl hb20 (.nil ⟨rfl, rfl⟩)
         exact rfl
         apply DrawSeq.consF; exact rfl; intro E
         refine AOps.guardF rfl rfl rfl hb20 (.nil ⟨rfl, rfl⟩)
         exact rfl
         apply DrawSeq.consF; exact rfl; intro E
         refine AOps.guardF rfl rfl rfl hb20 (.nil ⟨rfl, rfl⟩)
         exact rfl
         apply DrawSeq.consF; exact rfl; intro E
         refine AOps.guardF rfl rfl rfl hb20 (.nil ⟨rfl, rfl⟩)
         exact rfl
         apply DrawSeq.consF; exact rfl; intro E
         refine AOps.guardF rfl rfl rfl hb20 (.nil ⟨rfl, rfl⟩)
         exact rfl
         apply DrawSeq.consF; exact rfl; intro E
         refine AOps.guardF rfl rfl rfl hb20 (.nil ⟨rfl, rfl⟩)
         exact rfl
         apply DrawSeq.consF; exact rfl; intro E
         refine AOps.pickF rfl hb20 rfl rfl (.nil ⟨rfl, rfl⟩)
         exact rfl
         refine DrawSeq.done ?_
         dsimp only [envEnd]
         have ej := Option.some.inj hx19
         subst ej
         refine thn_normal (Sub.env ⟨rfl, rfl, rfl, rfl, rfl, rfl, rfl, rfl, trivial⟩)
       ·refine AWP.iteB rfl h (fun hc21 h => ?_) (fun hc21 h => ?_)
        ·refine AWP.seq ?_
         obtain ⟨a96, ha96, h⟩ := bind_some h
         refine AWP.region (.move rfl rfl (.move rfl rfl (.callF (r2 := .c (row 1 intI a96)) (σ'' := [.one (.cells 4 [[int t.facts, row 1 intI t.init, row 1 intI t.goal, row 4 eTOperator t.operators]]), .one (.cells 2 [[int 0, int 0]]), .dead, .dead, .dead, .one (mapB Value.string (Value.int .i64) c10), .one (.cells 8 [[int t.facts, row 1 intI t.init, row 1 intI t.goal, row 4 eTOperator t.operators, row 1 intI plan, .own 9 0 c11.length, .own 10 0 c12.length, .map 5]]), .dead, .dead, .one (vec 5 eTrepair_node c11), mat (10, []) 1 intI c12]) rfl rfl rfl (FnOk.lend [6, 9, 10, 5] (repair_searcher_steps_w_ok ha96) rfl rfl rfl rfl rfl rfl (by exact ⟨(.one rfl), .vec, (.mat rfl), (.one rfl), trivial⟩) rfl (by exact ⟨(.live rfl (.one rfl)), (.live rfl .vec), (.live rfl .mat), (.live rfl (.one rfl)), trivial⟩) rfl rfl (by exact ⟨(.old rfl rfl rfl), (.old rfl rfl rfl), .dead, .dead, .dead, (.new 3 rfl rfl (.one rfl)), (.new 0 rfl rfl (.one rfl)), .dead, .dead, (.new 1 rfl rfl .vec), (.new 2 rfl rfl .mat), trivial⟩)) (.assign rfl rfl (.nil (thn_normal (.seq (.seq (.region (.move rfl rfl (S.len rfl rfl (fun hl98 => .gtr rfl rfl rfl (.nil (thn_normal (.ite rfl h (fun hc22 h => ?_) (fun hc22 h => ?_))))))))))))))))
         ·refine AWP.seq (.region (W.build rfl rfl rfl rfl (.assign rfl rfl (.assign rfl rfl (.assign rfl rfl (W.storeAgg rfl rfl rfl rfl rfl rfl rfl (.nil (thn_normal (.nilrow 1 4 rfl (.ret (thn_ret (thn_ret (inB_ret (thn_ret ?_))))))))))))))
          have ej := Option.some.inj h
          subst ej
          refine thn_ret ⟨_, rfl, rfl, ?_⟩
          exact Done.ret rfl rfl
         ·refine AWP.skip (thn_normal (.seq (.region (.move rfl rfl (.move rfl rfl (W.build rfl rfl rfl rfl (.assign rfl rfl (.assign rfl rfl (.assign rfl rfl (W.storeAgg rfl rfl rfl rfl rfl rfl rfl (.nil (thn_normal (.ret (thn_ret (inB_ret (thn_ret ?_))))))))))))))))
          have ej := Option.some.inj h
          subst ej
          refine thn_ret ⟨_, rfl, rfl, ?_⟩
          exact Done.ret rfl rfl
        ·refine AWP.skip (thn_normal ?_)
         obtain ⟨a106, ha106, h⟩ := bind_some h
         refine AWP.region (.move rfl rfl (.move rfl rfl (.callF (r2 := .tup []) (σ'' := [.one (.cells 4 [[int t.facts, row 1 intI t.init, row 1 intI t.goal, row 4 eTOperator t.operators]]), .one (.cells 2 [[int 0, int 0]]), .dead, .dead, .dead, .one (mapB Value.string (Value.int .i64) a106.1), .one (.cells 8 [[int t.facts, row 1 intI t.init, row 1 intI t.goal, row 4 eTOperator t.operators, row 1 intI plan, .own 21 0 a106.2.1.length, .own 22 0 a106.2.2.length, .map 5]]), .dead, .dead, .dead, .dead, .dead, .dead, .dead, .dead, .dead, .dead, .dead, .dead, .dead, .dead, .one (vec 5 eTrepair_node a106.2.1), mat (22, []) 1 intI a106.2.2]) rfl rfl rfl (FnOk.lend [6, 9, 10, 5] (repair_searcher_expand_w_ok ha106) rfl rfl rfl rfl rfl rfl (by exact ⟨(.one rfl), .vec, (.mat rfl), (.one rfl), trivial⟩) rfl (by exact ⟨(.live rfl (.one rfl)), (.live rfl .vec), (.live rfl .mat), (.live rfl (.one rfl)), trivial⟩) rfl rfl (by exact ⟨(.old rfl rfl rfl), (.old rfl rfl rfl), .dead, .dead, .dead, (.new 3 rfl rfl (.one rfl)), (.new 0 rfl rfl (.one rfl)), .dead, .dead, .dead, .dead, .dead, .dead, .dead, .dead, .dead, .dead, .dead, .dead, .dead, .dead, (.new 14 rfl rfl .vec), (.new 15 rfl rfl .mat), trivial⟩)) (.nil (inB_normal (thn_normal (.region (.move rfl rfl (S.add rfl rfl rfl (.assign rfl rfl (.nil ?_)))))))))))
         have ej := Option.some.inj h
         subst ej
         refine thn_normal ⟨_, rfl, ?_⟩
         exact (Sub.move (env' := [(1, .c (row 1 intI plan)), (2, .c (.ptr 0 0 0)), (7, .c (.ptr 1 0 0)), (9, .c (.ptr 6 0 0)), (10, .c (int change8)), (11, .c (int (w64 (j13 + 1))))]) (σ' := [.one (.cells 4 [[int t.facts, row 1 intI t.init, row 1 intI t.goal, row 4 eTOperator t.operators]]), .one (.cells 2 [[int 0, int 0]]), .dead, .dead, .dead, .one (mapB Value.string (Value.int .i64) a106.1), .one (.cells 8 [[int t.facts, row 1 intI t.init, row 1 intI t.goal, row 4 eTOperator t.operators, row 1 intI plan, .own 9 0 a106.2.1.length, .own 22 0 a106.2.2.length, .map 5]]), .dead, .dead, .one (vec 5 eTrepair_node a106.2.1), .dead, .dead, .dead, .dead, .dead, .dead, .dead, .dead, .dead, .dead, .dead, .dead, mat (22, []) 1 intI a106.2.2]) 9 21 rfl rfl rfl ⟨rfl, rfl, rfl, rfl, rfl, rfl, trivial⟩ rfl ⟨⟨rfl, rfl⟩, ⟨rfl, rfl⟩, trivial, trivial, trivial, ⟨rfl, rfl⟩, ⟨rfl, rfl⟩, trivial, trivial, ⟨Blk.im_ok _ _ _, vec_mv rfl⟩, trivial, trivial, trivial, trivial, trivial, trivial, trivial, trivial, trivial, trivial, trivial, trivial, .mat rfl rfl rfl, trivial⟩).trans ((Sub.moveM (env' := [(1, .c (row 1 intI plan)), (2, .c (.ptr 0 0 0)), (7, .c (.ptr 1 0 0)), (9, .c (.ptr 6 0 0)), (10, .c (int change8)), (11, .c (int (w64 (j13 + 1))))]) (σ' := [.one (.cells 4 [[int t.facts, row 1 intI t.init, row 1 intI t.goal, row 4 eTOperator t.operators]]), .one (.cells 2 [[int 0, int 0]]), .dead, .dead, .dead, .one (mapB Value.string (Value.int .i64) a106.1), .one (.cells 8 [[int t.facts, row 1 intI t.init, row 1 intI t.goal, row 4 eTOperator t.operators, row 1 intI plan, .own 9 0 a106.2.1.length, .own 10 0 a106.2.2.length, .map 5]]), .dead, .dead, .one (vec 5 eTrepair_node a106.2.1), mat (10, []) 1 intI a106.2.2, .dead, .dead, .dead, .dead, .dead, .dead, .dead, .dead, .dead, .dead, .dead]) 10 22 rfl rfl rfl ⟨rfl, rfl, rfl, rfl, rfl, rfl, trivial⟩ rfl ⟨(.one rfl rfl), (.one rfl rfl), .dead, .dead, .dead, (.one rfl rfl), (.one rfl rfl), .dead, .dead, (.vec rfl), (.mat rfl rfl rfl), .dead, .dead, .dead, .dead, .dead, .dead, .dead, .dead, .dead, .dead, .dead, trivial⟩).trans (Sub.cut ⟨rfl, rfl, rfl, rfl, rfl, rfl, trivial⟩ rfl ⟨.one rfl, .one rfl, .dead, .dead, .dead, .one rfl, .one rfl, .dead, .dead, .vec, .mat rfl, trivial⟩ rfl))
      ·refine AWP.exit (thn_exit ?_)
       have ej := Option.some.inj h
       subst ej
       refine thn_exit ⟨_, rfl, rfl, ?_⟩
       exact Sub.env ⟨rfl, rfl, rfl, rfl, rfl, trivial⟩
     ·intro e s hq
      rcases oo with ⟨c14, c15, c16⟩ | x
      ·try dsimp only at h hq
       obtain ⟨rfl, hs⟩ := hq
       refine ⟨_, hs, ?_⟩
       refine inB_exit (inB_normal (thn_normal (.region (.move rfl rfl (S.add rfl rfl rfl (.assign rfl rfl (.nil ?_)))))))
       have ej := Option.some.inj h
       subst ej
       refine thn_normal ⟨_, rfl, ?_⟩
       exact Sub.env ⟨rfl, rfl, rfl, rfl, rfl, trivial⟩
      ·try dsimp only at h hq
       obtain ⟨rfl, hs⟩ := hq
       refine ⟨_, Sub.refl _ _, ?_⟩
       refine inB_ret (inB_ret (thn_ret ?_))
       have ej := Option.some.inj h
       subst ej
       refine thn_ret ⟨_, rfl, rfl, ?_⟩
       exact hs
    ·refine AWP.exit (thn_exit ?_)
     have ej := Option.some.inj h
     subst ej
     refine thn_exit ⟨_, rfl, rfl, ?_⟩
     exact Sub.cut ⟨rfl, trivial⟩ rfl ⟨.dead, .one rfl, trivial⟩ rfl
   ·intro e s hq
    rcases oo with u | x
    ·try dsimp only at h hq
     obtain ⟨rfl, hs⟩ := hq
     refine ⟨_, hs, ?_⟩
     refine inB_exit (thn_normal (.seq (.region (W.build rfl rfl rfl rfl (.assign rfl rfl (.assign rfl rfl (.assign rfl rfl (W.storeAgg rfl rfl rfl rfl rfl rfl rfl (.nil (thn_normal (.nilrow 1 4 rfl (.ret ?_))))))))))))
     have ej := Option.some.inj h
     subst ej
     exact Done.ret rfl rfl
    ·try dsimp only at h hq
     obtain ⟨rfl, hs⟩ := hq
     refine ⟨_, Sub.refl _ _, ?_⟩
     refine inB_ret (thn_ret ?_)
     have ej := Option.some.inj h
     subst ej
     exact hs
theorem equal_Numbers_ok {av : List Int} {bv : List Int} {r : Bool} (h : equal_Numbers av bv = some r) : PureOk Tryd.prog 11 [.c (row 1 intI av), .c (row 1 intI bv)] (.c (bool r)) := by
 unfold PureOk
 refine FnOk.enter (rs := [.t 4]) Tryd.func11 rfl Tryd.ntmps11 Tryd.results11 rfl ⟨trivial, trivial⟩ (by kernel_rfl) rfl ?_
 unfold equal_Numbers at h
 refine AWP.seq (.region (.assign rfl rfl (.nil (thn_normal (.seq (.seq (.region (.move rfl rfl (S.len rfl rfl (fun hl7 => .move rfl rfl (S.len rfl rfl (fun hl9 => .neq rfl rfl rfl (.nil (thn_normal (.iteN rfl h (fun hc3 h => ?_) (fun hc3 h => ?_))))))))))))))))
 ·refine AWP.seq (.region (.assign rfl rfl (.nil (thn_normal (.ret (thn_ret ?_))))))
  have ej := Option.some.inj h
  subst ej
  exact Done.ret rfl rfl
 ·refine AWP.skip (thn_normal (.seq (.seq (.region (.assign rfl rfl (.nil (thn_normal (.block ?_))))))))
  obtain ⟨oo, ho1, h⟩ := bind_some h
  refine AWP.rngS ho1 (fun iv4 _ => ⟨[(0, .c (row 1 intI av)), (1, .c (row 1 intI bv)), (5, .c (int iv4))], []⟩) (fun o e st => match o with | .inl _ => e = .exit 0 ∧ Sub [] st ⟨[], []⟩ | .inr x => e = .ret ∧ Done [.t 4] (fun t _ => t = .c (bool x)) .ret st) ?_ ?_ ?_ ?_
  ·try dsimp only
   exact Sub.env ⟨rfl, rfl, rfl, trivial⟩
  ·intro iv4 s hloiv4 hltiv4 _
   try dsimp only
   refine AWP.seq (.seq (.region (.move rfl rfl (.move rfl rfl (S.len rfl rfl (fun hl13 => .lss rfl rfl rfl (.nil (thn_normal (.condNP rfl hltiv4 (.exit (thn_exit (thn_exit ⟨rfl, ?_⟩))))))))))))
   exact Sub.env trivial
  ·intro iv4 s o hloiv4 hltiv4 h
   unfold equal_Numbers_l1 at h
   try dsimp only at h ⊢
   refine AWP.seq (.seq (.region (.move rfl rfl (.move rfl rfl (S.len rfl rfl (fun hl13 => .lss rfl rfl rfl (.nil (thn_normal (.condP rfl hltiv4 (.skip (thn_normal (.seq (.block (.seq ?_))))))))))))))
   obtain ⟨a19, ha19, h⟩ := bind_some h
   obtain ⟨a23, ha23, h⟩ := bind_some h
   refine AWP.drawI mixed rfl ?_
   apply DrawSeq.consF; exact rfl; intro E
   refine AOps.move rfl rfl (.nil ⟨rfl, rfl⟩)
   exact rfl
   apply DrawSeq.consF; exact rfl; intro E
   refine AOps.move rfl rfl (.nil ⟨rfl, rfl⟩)
   exact rfl
   apply DrawSeq.consF; exact rfl; intro E
   refine S.idx ha19 rfl rfl rfl rfl (.nil ⟨rfl, rfl⟩)
   exact rfl
   apply DrawSeq.consF; exact rfl; intro E
   refine AOps.loadI rfl rfl rfl rfl (.nil ⟨rfl, rfl⟩)
   exact rfl
   apply DrawSeq.consF; exact rfl; intro E
   refine AOps.move rfl rfl (.nil ⟨rfl, rfl⟩)
   exact rfl
   apply DrawSeq.consF; exact rfl; intro E
   refine AOps.move rfl rfl (.nil ⟨rfl, rfl⟩)
   exact rfl
   apply DrawSeq.consF; exact rfl; intro E
   refine S.idx ha23 rfl rfl rfl rfl (.nil ⟨rfl, rfl⟩)
   exact rfl
   apply DrawSeq.consF; exact rfl; intro E
   refine AOps.loadI rfl rfl rfl rfl (.nil ⟨rfl, rfl⟩)
   exact rfl
   apply DrawSeq.consF; exact rfl; intro E
   refine AOps.neq rfl rfl rfl (.nil ⟨rfl, rfl⟩)
   exact rfl
   refine DrawSeq.done ?_
   dsimp only [envEnd]
   refine thn_normal (.iteN rfl h (fun hc5 h => ?_) (fun hc5 h => ?_))
   ·refine AWP.seq (.region (.assign rfl rfl (.nil (thn_normal (.ret (inB_ret (thn_ret ?_)))))))
    have ej := Option.some.inj h
    subst ej
    refine thn_ret ⟨_, rfl, rfl, ?_⟩
    exact Done.ret rfl rfl
   ·refine AWP.skip (inB_normal (thn_normal (.region (.move rfl rfl (.add rfl rfl rfl (by omega) (.assign rfl rfl (.nil ?_)))))))
    have ej := Option.some.inj h
    subst ej
    refine thn_normal ⟨_, rfl, ?_⟩
    exact Sub.env ⟨rfl, rfl, rfl, trivial⟩
  ·intro e s hq
   rcases oo with u | x
   ·try dsimp only at h hq
    obtain ⟨rfl, hs⟩ := hq
    refine ⟨_, hs, ?_⟩
    refine inB_exit (thn_normal (.seq (.region (.assign rfl rfl (.nil (thn_normal (.ret ?_)))))))
    have ej := Option.some.inj h
    subst ej
    exact Done.ret rfl rfl
   ·try dsimp only at h hq
    obtain ⟨rfl, hs⟩ := hq
    refine ⟨_, Sub.refl _ _, ?_⟩
    refine inB_ret (thn_ret ?_)
    have ej := Option.some.inj h
    subst ej
    exact hs
theorem law8_nearest_ok {r : Bool} (h : law8_nearest = some r) : PureOk Tryd.prog 9 [] (.c (bool r)) := by
 unfold PureOk
 refine FnOk.enter (rs := [.t 0]) Tryd.func9 rfl Tryd.ntmps9 Tryd.results9 rfl ⟨trivial, trivial⟩ (by kernel_rfl) rfl ?_
 unfold law8_nearest at h
 refine AWP.seq (.region (.assign rfl rfl (.nil (thn_normal (.seq ?_)))))
 obtain ⟨a10, ha10, h⟩ := bind_some h
 refine AWP.region (S.lit (f := intI) (l := [1, 2]) (ess := [[int 1], [int 2]]) rfl rfl rfl rfl rfl rfl rfl ⟨⟨.inl rfl, trivial⟩, ⟨.inl rfl, trivial⟩, trivial⟩ rfl rfl rfl (S.lit (f := intI) (l := [2, 3]) (ess := [[int 2], [int 3]]) rfl rfl rfl rfl rfl rfl rfl ⟨⟨.inl rfl, trivial⟩, ⟨.inl rfl, trivial⟩, trivial⟩ rfl rfl rfl (.callL rfl rfl (.cons (.c (.own rfl rfl)) (.cons (.c (.own rfl rfl)) .nil)) rfl (repair_Distance_ok ha10) rfl (.move rfl rfl (.extract rfl rfl rfl (.extract rfl rfl rfl (W.alloc rfl rfl rfl rfl (.assign rfl rfl (W.storeAgg rfl rfl rfl rfl rfl rfl rfl (.nil (thn_normal (.seq ?_))))))))))))
 obtain ⟨a14, ha14, h⟩ := bind_some h
 obtain ⟨a16, ha16, h⟩ := bind_some h
 refine AWP.region (.callR rfl rfl rfl rfl (law8_step_ok ha14) rfl (S.lit (f := intI) (l := [1]) (ess := [[int 1]]) rfl rfl rfl rfl rfl rfl rfl ⟨⟨.inl rfl, trivial⟩, trivial⟩ rfl rfl rfl (.frzV (id := 3) (l := [1]) (env2 := [(1, .c (int a10.1)), (2, .c (.ptr 2 0 0)), (14, .agg [int a14.facts, row 1 intI a14.init, row 1 intI a14.goal, row 4 eTOperator a14.operators]), (15, .c (row 1 intI [1]))]) (σ2 := [.one (vec 1 intI [1, 2]), .one (vec 1 intI [2, 3]), .one (.cells 2 [[int a10.2.code, int a10.2.index]]), .dead]) rfl rfl (by exact ⟨⟨_, rfl, .inl ⟨rfl, rfl⟩⟩, ⟨_, rfl, .inl ⟨rfl, rfl⟩⟩, ⟨_, rfl, ⟨.inl ⟨rfl, rfl⟩, .inl ⟨rfl, rfl⟩, .inl ⟨rfl, rfl⟩, .inl ⟨rfl, rfl⟩, trivial⟩⟩, ⟨_, rfl, .inr ⟨_, rfl, rfl, rfl⟩⟩, trivial⟩) rfl (by exact ⟨FrzB.vec, FrzB.vec, ⟨rfl, .inl ⟨rfl, rfl⟩, .inl ⟨rfl, rfl⟩, trivial⟩, trivial, trivial⟩) (.callR rfl rfl rfl rfl (repair_Plan_ok ha16) rfl (.move rfl rfl (.extract rfl rfl rfl (.extract rfl rfl rfl (.extract rfl rfl rfl (.extract rfl rfl rfl (W.alloc rfl rfl rfl rfl (.assign rfl rfl (.assign rfl rfl (.assign rfl rfl (W.storeAgg rfl rfl rfl rfl rfl rfl rfl (.nil (thn_normal ?_))))))))))))))))
 obtain ⟨t1, hx2, h⟩ := bind_some h
 refine AWP.seqJ (⟨[(0, .c (bool t1))], []⟩) ?_ ?_
 ·rcases Bool.eq_false_or_eq_true (decide (a10.2.code = 0)) with hb3 | hb3
  ·replace hx2 := iteDT hb3 hx2
   rcases Bool.eq_false_or_eq_true (decide (a16.2.2.2.code = 0)) with hb4 | hb4
   ·replace hx2 := iteDT hb4 hx2
    rcases Bool.eq_false_or_eq_true (decide (a10.1 = 2)) with hb5 | hb5
    ·replace hx2 := iteDT hb5 hx2
     rcases Bool.eq_false_or_eq_true (a16.2.2.1) with hb6 | hb6
     ·replace hx2 := iteBT hb6 hx2
      rcases Bool.eq_false_or_eq_true (decide (a16.2.1 = 0)) with hb7 | hb7
      ·replace hx2 := iteDT hb7 hx2
       obtain ⟨a43, ha43, hx2⟩ := bind_some hx2
       refine AWP.region (W.fieldAddr rfl rfl rfl rfl (.load rfl rfl rfl rfl rfl rfl (.eql rfl rfl rfl (.move rfl rfl (.guardT rfl rfl rfl hb3 (W.fieldAddr rfl rfl rfl rfl (.guardT rfl rfl rfl hb3 (.load rfl rfl rfl rfl rfl rfl (.guardT rfl rfl rfl hb3 (.eql rfl rfl rfl (.pickT rfl hb3 rfl rfl (.move rfl rfl (.guardT rfl rfl rfl hb4 (.move rfl rfl (.guardT rfl rfl rfl hb4 (.eql rfl rfl rfl (.pickT rfl hb4 rfl rfl (.move rfl rfl (.guardT rfl rfl rfl hb5 (.move rfl rfl (.pickT rfl hb5 rfl rfl (.move rfl rfl (.guardT rfl rfl rfl hb6 (.move rfl rfl (.guardT rfl rfl rfl hb6 (.eql rfl rfl rfl (.pickT rfl hb6 rfl rfl (.move rfl rfl (.guardT rfl rfl rfl hb7 (.move rfl rfl (.guardT rfl rfl rfl hb7 (S.lit (f := intI) (l := [1]) (ess := [[int 1]]) rfl rfl rfl rfl rfl rfl rfl ⟨⟨.inl rfl, trivial⟩, trivial⟩ rfl rfl rfl (.guardT rfl rfl rfl hb7 (.callL rfl rfl (.cons (.c .imm) (.cons (.c (.own rfl rfl)) .nil)) rfl (equal_Numbers_ok ha43) rfl (.pickT rfl hb7 rfl rfl (.assign rfl rfl (.nil ?_)))))))))))))))))))))))))))))))))))))
       have ej := Option.some.inj hx2
       subst ej
       refine thn_normal (Sub.cut ⟨rfl, trivial⟩ rfl trivial rfl)
      ·replace hx2 := iteDF hb7 hx2
       refine AWP.region (W.fieldAddr rfl rfl rfl rfl (.load rfl rfl rfl rfl rfl rfl (.eql rfl rfl rfl (.move rfl rfl (.guardT rfl rfl rfl hb3 (W.fieldAddr rfl rfl rfl rfl (.guardT rfl rfl rfl hb3 (.load rfl rfl rfl rfl rfl rfl (.guardT rfl rfl rfl hb3 (.eql rfl rfl rfl (.pickT rfl hb3 rfl rfl (.move rfl rfl (.guardT rfl rfl rfl hb4 (.move rfl rfl (.guardT rfl rfl rfl hb4 (.eql rfl rfl rfl (.pickT rfl hb4 rfl rfl (.move rfl rfl (.guardT rfl rfl rfl hb5 (.move rfl rfl (.pickT rfl hb5 rfl rfl (.move rfl rfl (.guardT rfl rfl rfl hb6 (.move rfl rfl (.guardT rfl rfl rfl hb6 (.eql rfl rfl rfl (.pickT rfl hb6 rfl rfl (.move rfl rfl (.guardF rfl rfl rfl hb7 (.guardF rfl rfl rfl hb7 (.guardF rfl rfl rfl hb7 (.pickF rfl hb7 rfl rfl (.assign rfl rfl (.nil ?_))))))))))))))))))))))))))))))))))
       have ej := Option.some.inj hx2
       subst ej
       refine thn_normal (Sub.cut ⟨rfl, trivial⟩ rfl trivial rfl)
     ·replace hx2 := iteBF hb6 hx2
      refine AWP.region (W.fieldAddr rfl rfl rfl rfl (.load rfl rfl rfl rfl rfl rfl (.eql rfl rfl rfl (.move rfl rfl (.guardT rfl rfl rfl hb3 (W.fieldAddr rfl rfl rfl rfl (.guardT rfl rfl rfl hb3 (.load rfl rfl rfl rfl rfl rfl (.guardT rfl rfl rfl hb3 (.eql rfl rfl rfl (.pickT rfl hb3 rfl rfl (.move rfl rfl (.guardT rfl rfl rfl hb4 (.move rfl rfl (.guardT rfl rfl rfl hb4 (.eql rfl rfl rfl (.pickT rfl hb4 rfl rfl (.move rfl rfl (.guardT rfl rfl rfl hb5 (.move rfl rfl (.pickT rfl hb5 rfl rfl (.move rfl rfl (.guardF rfl rfl rfl hb6 (.guardF rfl rfl rfl hb6 (.pickF rfl hb6 rfl rfl (.move rfl rfl (.guardF rfl rfl rfl rfl (.guardF rfl rfl rfl rfl (.guardF rfl rfl rfl rfl (.pickF rfl rfl rfl rfl (.assign rfl rfl (.nil ?_))))))))))))))))))))))))))))))))
      have ej := Option.some.inj hx2
      subst ej
      refine thn_normal (Sub.cut ⟨rfl, trivial⟩ rfl trivial rfl)
    ·replace hx2 := iteDF hb5 hx2
     refine AWP.region (W.fieldAddr rfl rfl rfl rfl (.load rfl rfl rfl rfl rfl rfl (.eql rfl rfl rfl (.move rfl rfl (.guardT rfl rfl rfl hb3 (W.fieldAddr rfl rfl rfl rfl (.guardT rfl rfl rfl hb3 (.load rfl rfl rfl rfl rfl rfl (.guardT rfl rfl rfl hb3 (.eql rfl rfl rfl (.pickT rfl hb3 rfl rfl (.move rfl rfl (.guardT rfl rfl rfl hb4 (.move rfl rfl (.guardT rfl rfl rfl hb4 (.eql rfl rfl rfl (.pickT rfl hb4 rfl rfl (.move rfl rfl (.guardF rfl rfl rfl hb5 (.pickF rfl hb5 rfl rfl (.move rfl rfl (.guardF rfl rfl rfl rfl (.guardF rfl rfl rfl rfl (.pickF rfl rfl rfl rfl (.move rfl rfl (.guardF rfl rfl rfl rfl (.guardF rfl rfl rfl rfl (.guardF rfl rfl rfl rfl (.pickF rfl rfl rfl rfl (.assign rfl rfl (.nil ?_)))))))))))))))))))))))))))))))
     have ej := Option.some.inj hx2
     subst ej
     refine thn_normal (Sub.cut ⟨rfl, trivial⟩ rfl trivial rfl)
   ·replace hx2 := iteDF hb4 hx2
    refine AWP.region (W.fieldAddr rfl rfl rfl rfl (.load rfl rfl rfl rfl rfl rfl (.eql rfl rfl rfl (.move rfl rfl (.guardT rfl rfl rfl hb3 (W.fieldAddr rfl rfl rfl rfl (.guardT rfl rfl rfl hb3 (.load rfl rfl rfl rfl rfl rfl (.guardT rfl rfl rfl hb3 (.eql rfl rfl rfl (.pickT rfl hb3 rfl rfl (.move rfl rfl (.guardF rfl rfl rfl hb4 (.guardF rfl rfl rfl hb4 (.pickF rfl hb4 rfl rfl (.move rfl rfl (.guardF rfl rfl rfl rfl (.pickF rfl rfl rfl rfl (.move rfl rfl (.guardF rfl rfl rfl rfl (.guardF rfl rfl rfl rfl (.pickF rfl rfl rfl rfl (.move rfl rfl (.guardF rfl rfl rfl rfl (.guardF rfl rfl rfl rfl (.guardF rfl rfl rfl rfl (.pickF rfl rfl rfl rfl (.assign rfl rfl (.nil ?_)))))))))))))))))))))))))))))
    have ej := Option.some.inj hx2
    subst ej
    refine thn_normal (Sub.cut ⟨rfl, trivial⟩ rfl trivial rfl)
  ·replace hx2 := iteDF hb3 hx2
   refine AWP.region (W.fieldAddr rfl rfl rfl rfl (.load rfl rfl rfl rfl rfl rfl (.eql rfl rfl rfl (.move rfl rfl (.guardF rfl rfl rfl hb3 (.guardF rfl rfl rfl hb3 (.guardF rfl rfl rfl hb3 (.pickF rfl hb3 rfl rfl (.move rfl rfl (.guardF rfl rfl rfl rfl (.guardF rfl rfl rfl rfl (.pickF rfl rfl rfl rfl (.move rfl rfl (.guardF rfl rfl rfl rfl (.pickF rfl rfl rfl rfl (.move rfl rfl (.guardF rfl rfl rfl rfl (.guardF rfl rfl rfl rfl (.pickF rfl rfl rfl rfl (.move rfl rfl (.guardF rfl rfl rfl rfl (.guardF rfl rfl rfl rfl (.guardF rfl rfl rfl rfl (.pickF rfl rfl rfl rfl (.assign rfl rfl (.nil ?_))))))))))))))))))))))))))
   have ej := Option.some.inj hx2
   subst ej
   refine thn_normal (Sub.cut ⟨rfl, trivial⟩ rfl trivial rfl)
 ·refine AWP.ret ?_
  have ej := Option.some.inj h
  subst ej
  exact Done.ret rfl rfl
theorem strips_Run_ok {t : TTask} {sv : List Int} {plan : List Int} {r : (List (List Int))} (h : strips_Run t sv plan = some r) : FreshOk Tryd.prog 35 [.agg [int t.facts, row 1 intI t.init, row 1 intI t.goal, row 4 eTOperator t.operators], .c (row 1 intI sv), .c (row 1 intI plan)] 1 (List.map eLi64 r) := by
 unfold FreshOk
 refine FnOk.enter (rs := [.t 6]) Tryd.func35 rfl Tryd.ntmps35 Tryd.results35 rfl ⟨trivial, trivial⟩ (by kernel_rfl) rfl ?_
 unfold strips_Run at h
 refine AWP.seq (.region (W.box rfl rfl rfl rfl rfl rfl (.assign rfl rfl (.nil (thn_normal (.seq ?_))))))
 obtain ⟨a11, ha11, h⟩ := bind_some h
 refine AWP.region (.move rfl rfl (S.fresh rfl rfl rfl rfl (slices_Clone_int_int_ok ha11) rfl rfl (.frzV (id := 1) (l := a11) (env2 := [(1, .c (row 1 intI sv)), (2, .c (row 1 intI plan)), (3, .c (.ptr 0 0 0)), (11, .c (row 1 intI a11))]) (σ2 := [.one (.cells 4 [[int t.facts, row 1 intI t.init, row 1 intI t.goal, row 4 eTOperator t.operators]]), .dead]) rfl rfl (by exact ⟨⟨_, rfl, .inl ⟨rfl, rfl⟩⟩, ⟨_, rfl, .inl ⟨rfl, rfl⟩⟩, ⟨_, rfl, .inl ⟨rfl, rfl⟩⟩, ⟨_, rfl, .inr ⟨_, rfl, rfl, rfl⟩⟩, trivial⟩) rfl (by exact ⟨⟨rfl, .inl ⟨rfl, rfl⟩, .inl ⟨rfl, rfl⟩, .inl ⟨rfl, rfl⟩, .inl ⟨rfl, rfl⟩, trivial⟩, trivial, trivial⟩) (S.lit (f := eLi64) (l := [a11]) (ess := [[row 1 intI a11]]) rfl rfl rfl rfl rfl rfl rfl ⟨⟨.inl rfl, trivial⟩, trivial⟩ rfl rfl rfl (.assign rfl rfl (.nil (thn_normal (.seq (.seq (.region (.move rfl rfl (S.len rfl rfl (fun hl14 => .move rfl rfl (.nil (thn_normal (.block ?_))))))))))))))))
 obtain ⟨c7, ho1, h⟩ := bind_some h
 refine AWP.loopS ho1 (fun (c4, sv5, t6) => ⟨[(1, .c (row 1 intI sv5)), (3, .c (.ptr 0 0 0)), (7, .c (.own 2 0 c4.length)), (13, .c (row 1 intI plan)), (14, .c (int (plan.length : Int))), (15, .c (int t6))], [.one (.cells 4 [[int t.facts, row 1 intI t.init, row 1 intI t.goal, row 4 eTOperator t.operators]]), .dead, .one (vec 1 eLi64 c4)]⟩) (fun c7 e st => e = .exit 0 ∧ Sub [] st ⟨[(7, .c (.own 2 0 c7.length))], [.dead, .dead, .one (vec 1 eLi64 c7)]⟩) ?_ ?_ ?_
 ·try dsimp only
  exact Sub.env ⟨rfl, rfl, rfl, rfl, rfl, rfl, trivial⟩
 ·intro s o h
  obtain ⟨c4, sv5, t6⟩ := s
  unfold strips_Run_l1 at h
  try dsimp only at h ⊢
  refine AWP.seq (.region (.lss rfl rfl rfl (.nil (thn_normal (.seq (.ite rfl h (fun hc8 h => ?_) (fun hc8 h => ?_)))))))
  ·refine AWP.skip (thn_normal (.seq (.block (.seq ?_))))
   obtain ⟨a17, ha17, h⟩ := bind_some h
   refine AWP.region (S.idx ha17 rfl rfl rfl rfl (.loadI rfl rfl rfl rfl (.assign rfl rfl (.nil (thn_normal (.seq (.seq ?_)))))))
   obtain ⟨a22, ha22, h⟩ := bind_some h
   refine AWP.region (W.loadAgg rfl rfl rfl rfl rfl rfl rfl (.move rfl rfl (.move rfl rfl (.callR rfl rfl rfl rfl (strips_Can_ok ha22) rfl (.not rfl rfl (.nil (thn_normal (.iteB rfl h (fun hc9 h => ?_) (fun hc9 h => ?_)))))))))
   ·refine AWP.exit (thn_exit (inB_exit_ne rfl (thn_exit ?_)))
    have ej := Option.some.inj h
    subst ej
    refine thn_exit ⟨_, rfl, rfl, ?_⟩
    exact Sub.cut ⟨rfl, trivial⟩ rfl ⟨.dead, .dead, .vec, trivial⟩ rfl
   ·refine AWP.skip (thn_normal (.seq ?_))
    obtain ⟨a27, ha27, h⟩ := bind_some h
    refine AWP.region (W.loadAgg rfl rfl rfl rfl rfl rfl rfl (.move rfl rfl (.move rfl rfl (S.fresh rfl rfl rfl rfl (strips_Next_ok ha27) rfl rfl (.assign rfl rfl (.nil (thn_normal ?_)))))))
    obtain ⟨a31, ha31, h⟩ := bind_some h
    refine AWP.region (.move rfl rfl (.move rfl rfl (.frzV (id := 3) (l := a27) (env2 := [(1, .c (row 1 intI a27)), (3, .c (.ptr 0 0 0)), (13, .c (row 1 intI plan)), (14, .c (int (plan.length : Int))), (15, .c (int t6)), (28, .c (.own 2 0 c4.length)), (29, .c (row 1 intI a27))]) (σ2 := [.one (.cells 4 [[int t.facts, row 1 intI t.init, row 1 intI t.goal, row 4 eTOperator t.operators]]), .dead, .one (vec 1 eLi64 c4), .dead]) rfl rfl (by exact ⟨⟨_, rfl, .inr ⟨_, rfl, rfl, rfl⟩⟩, ⟨_, rfl, .inl ⟨rfl, rfl⟩⟩, ⟨_, rfl, .inl ⟨rfl, rfl⟩⟩, ⟨_, rfl, .inl ⟨rfl, rfl⟩⟩, ⟨_, rfl, .inl ⟨rfl, rfl⟩⟩, ⟨_, rfl, .inl ⟨rfl, rfl⟩⟩, ⟨_, rfl, .inr ⟨_, rfl, rfl, rfl⟩⟩, trivial⟩) rfl (by exact ⟨⟨rfl, .inl ⟨rfl, rfl⟩, .inl ⟨rfl, rfl⟩, .inl ⟨rfl, rfl⟩, .inl ⟨rfl, rfl⟩, trivial⟩, trivial, FrzB.vec, trivial, trivial⟩) (S.lit (f := eLi64) (l := [a27]) (ess := [[row 1 intI a27]]) rfl rfl rfl rfl rfl rfl rfl ⟨⟨.inl rfl, trivial⟩, trivial⟩ rfl rfl rfl (S.append (f := eLi64) ha31 rfl rfl rfl rfl rfl rfl (.own rfl rfl) rfl rfl rfl rfl (.assign rfl rfl (.nil (inB_normal (thn_normal (.move (env' := [(1, .c (row 1 intI a27)), (3, .c (.ptr 0 0 0)), (7, .c (.own 2 0 a31.length)), (13, .c (row 1 intI plan)), (14, .c (int (plan.length : Int))), (15, .c (int t6))]) (σ' := [.one (.cells 4 [[int t.facts, row 1 intI t.init, row 1 intI t.goal, row 4 eTOperator t.operators]]), .dead, .one (vec 1 eLi64 a31), .dead, .one (vec 1 eLi64 [a27])]) 2 5 rfl rfl rfl ⟨rfl, rfl, rfl, rfl, rfl, rfl, trivial⟩ rfl ⟨⟨rfl, rfl⟩, trivial, ⟨Blk.im_ok _ _ _, vec_mv rfl⟩, trivial, ⟨Blk.im_ok _ _ _, vec_mv rfl⟩, trivial⟩ (.region (S.add rfl rfl rfl (.move rfl rfl (.nil ?_))))))))))))))
    have ej := Option.some.inj h
    subst ej
    refine thn_normal ⟨_, rfl, ?_⟩
    exact Sub.cut ⟨rfl, rfl, rfl, rfl, rfl, rfl, trivial⟩ rfl ⟨.one rfl, .dead, .vec, trivial⟩ rfl
  ·refine AWP.exit (thn_exit ?_)
   have ej := Option.some.inj h
   subst ej
   refine thn_exit ⟨_, rfl, rfl, ?_⟩
   exact Sub.cut ⟨rfl, trivial⟩ rfl ⟨.dead, .dead, .vec, trivial⟩ rfl
 ·intro e s hq
  obtain ⟨rfl, hs⟩ := hq
  refine ⟨_, hs, ?_⟩
  refine inB_exit (thn_normal (.seq (.region (.move rfl rfl (.assign rfl rfl (.nil (thn_normal (.ret ?_))))))))
  have ej := Option.some.inj h
  subst ej
  exact Done.ret rfl (Fresh.mk rfl rfl)
theorem strips_Works_ok {t : TTask} {sv : List Int} {plan : List Int} {r : Bool} (h : strips_Works t sv plan = some r) : PureOk Tryd.prog 23 [.agg [int t.facts, row 1 intI t.init, row 1 intI t.goal, row 4 eTOperator t.operators], .c (row 1 intI sv), .c (row 1 intI plan)] (.c (bool r)) := by
 unfold PureOk
 refine FnOk.enter (rs := [.t 6]) Tryd.func23 rfl Tryd.ntmps23 Tryd.results23 rfl ⟨trivial, trivial⟩ (by kernel_rfl) rfl ?_
 unfold strips_Works at h
 refine AWP.seq (.region (W.box rfl rfl rfl rfl rfl rfl (.assign rfl rfl (.nil (thn_normal (.seq ?_))))))
 obtain ⟨a11, ha11, h⟩ := bind_some h
 refine AWP.region (W.loadAgg rfl rfl rfl rfl rfl rfl rfl (.move rfl rfl (.move rfl rfl (S.fresh rfl rfl rfl rfl (strips_Run_ok ha11) rfl rfl (.assign rfl rfl (.nil (thn_normal ?_)))))))
 obtain ⟨t4, hx5, h⟩ := bind_some h
 refine AWP.seqJ (⟨[(6, .c (bool t4))], []⟩) ?_ ?_
 ·rcases Bool.eq_false_or_eq_true (decide ((a11.length : Int) = w64 ((plan.length : Int) + 1))) with hb6 | hb6
  ·replace hx5 := iteDT hb6 hx5
   obtain ⟨a22, ha22, hx5⟩ := bind_some hx5
   obtain ⟨a26, ha26, hx5⟩ := bind_some hx5
   refine AWP.drawI mixed rfl ?_
   apply DrawSeq.consF; exact rfl; intro E
   refine AOps.move rfl rfl (.nil ⟨rfl, rfl⟩)
   exact rfl
   apply DrawSeq.consF; exact rfl; intro E
   refine S.lenO rfl rfl rfl (fun hl13 => .nil ⟨rfl, rfl⟩)
   exact rfl
   apply DrawSeq.consF; exact rfl; intro E
   refine AOps.move rfl rfl (.nil ⟨rfl, rfl⟩)
   exact rfl
   apply DrawSeq.consF; exact rfl; intro E
   refine S.len rfl rfl (fun hl15 => .nil ⟨rfl, rfl⟩)
   exact rfl
   apply DrawSeq.consF; exact rfl; intro E
   refine S.add rfl rfl rfl (.nil ⟨rfl, rfl⟩)
   exact rfl
   apply DrawSeq.consF; exact rfl; intro E
   refine AOps.eql rfl rfl rfl (.nil ⟨rfl, rfl⟩)
   exact rfl
   apply DrawSeq.consF; exact rfl; intro E
   refine AOps.move rfl rfl (.nil ⟨rfl, rfl⟩)
   exact rfl
   apply DrawSeq.consF; exact rfl; intro E
   refine AOps.guardT rfl rfl rfl hb6 (.move rfl rfl (.nil ⟨rfl, rfl⟩))
   exact rfl
   apply DrawSeq.consF; exact rfl; intro E
   refine AOps.guardT rfl rfl rfl hb6 (.move rfl rfl (.nil ⟨rfl, rfl⟩))
   exact rfl
   apply DrawSeq.consF; exact rfl; intro E
   refine AOps.guardT rfl rfl rfl hb6 ?_; refine S.len rfl rfl (fun hl21 => ?_)
   exact AOps.nil ⟨rfl, rfl⟩
   exact rfl
   apply DrawSeq.consF; exact rfl; intro E
   refine AOps.guardT rfl rfl rfl hb6 (S.idxO ha22 rfl rfl rfl rfl rfl (.nil ⟨rfl, rfl⟩))
   exact rfl
   apply DrawSeq.consF; exact rfl; intro E
   refine AOps.guardT rfl rfl rfl hb6 (S.loadO ha22 rfl rfl rfl rfl rfl (.nil ⟨rfl, rfl⟩))
   exact rfl
   apply DrawSeq.consF; exact rfl; intro E
   refine AOps.guardT rfl rfl rfl hb6 (W.fieldAddr rfl rfl rfl rfl (.nil ⟨rfl, rfl⟩))
   exact rfl
   apply DrawSeq.consF; exact rfl; intro E
   refine AOps.guardT rfl rfl rfl hb6 (.load rfl rfl rfl rfl rfl rfl (.nil ⟨rfl, rfl⟩))
   exact rfl
   apply DrawSeq.consF; exact rfl; intro E
   refine AOps.guardT rfl rfl rfl hb6 (.callR rfl rfl rfl rfl (strips_Contains_ok ha26) rfl (.nil ⟨rfl, rfl⟩))
   exact rfl
   apply DrawSeq.consF; exact rfl; intro E
   refine AOps.pickT rfl hb6 rfl rfl (.nil ⟨rfl, rfl⟩)
   exact rfl
   apply DrawSeq.consF; exact rfl; intro E
   refine AOps.assign rfl rfl (.nil ⟨rfl, rfl⟩)
   exact rfl
   refine DrawSeq.done ?_
   dsimp only [envEnd]
   have ej := Option.some.inj hx5
   subst ej
   refine thn_normal (Sub.cut ⟨rfl, trivial⟩ rfl trivial rfl)
  ·replace hx5 := iteDF hb6 hx5
   refine AWP.drawI mixed rfl ?_
   apply DrawSeq.consF; exact rfl; intro E
   refine AOps.move rfl rfl (.nil ⟨rfl, rfl⟩)
   exact rfl
   apply DrawSeq.consF; exact rfl; intro E
   refine S.lenO rfl rfl rfl (fun hl13 => .nil ⟨rfl, rfl⟩)
   exact rfl
   apply DrawSeq.consF; exact rfl; intro E
   refine AOps.move rfl rfl (.nil ⟨rfl, rfl⟩)
   exact rfl
   apply DrawSeq.consF; exact rfl; intro E
   refine S.len rfl rfl (fun hl15 => .nil ⟨rfl, rfl⟩)
   exact rfl
   apply DrawSeq.consF; exact rfl; intro E
   refine S.add rfl rfl rfl (.nil ⟨rfl, rfl⟩)
   exact rfl
   apply DrawSeq.consF; exact rfl; intro E
   refine AOps.eql rfl rfl rfl (.nil ⟨rfl, rfl⟩)
   exact rfl
   apply DrawSeq.consF; exact rfl; intro E
   refine AOps.move rfl rfl (.nil ⟨rfl, rfl⟩)
   exact rfl
   apply DrawSeq.consF; exact rfl; intro E
   refine AOps.guardF rfl rfl rfl hb6 (.nil ⟨rfl, rfl⟩)
   exact rfl
   apply DrawSeq.consF; exact rfl; intro E
   refine AOps.guardF rfl rfl rfl hb6 (.nil ⟨rfl, rfl⟩)
   exact rfl
   apply DrawSeq.consF; exact rfl; intro E
   refine AOps.guardF rfl rfl rfl hb6 (.nil ⟨rfl, rfl⟩)
   exact rfl
   apply DrawSeq.consF; exact rfl; intro E
   refine AOps.guardF rfl rfl rfl hb6 (.nil ⟨rfl, rfl⟩)
   exact rfl
   apply DrawSeq.consF; exact rfl; intro E
   refine AOps.guardF rfl rfl rfl hb6 (.nil ⟨rfl, rfl⟩)
   exact rfl
   apply DrawSeq.consF; exact rfl; intro E
   refine AOps.guardF rfl rfl rfl hb6 (.nil ⟨rfl, rfl⟩)
   exact rfl
   apply DrawSeq.consF; exact rfl; intro E
   refine AOps.guardF rfl rfl rfl hb6 (.nil ⟨rfl, rfl⟩)
   exact rfl
   apply DrawSeq.consF; exact rfl; intro E
   refine AOps.guardF rfl rfl rfl hb6 (.nil ⟨rfl, rfl⟩)
   exact rfl
   apply DrawSeq.consF; exact rfl; intro E
   refine AOps.pickF rfl hb6 rfl rfl (.nil ⟨rfl, rfl⟩)
   exact rfl
   apply DrawSeq.consF; exact rfl; intro E
   refine AOps.assign rfl rfl (.nil ⟨rfl, rfl⟩)
   exact rfl
   refine DrawSeq.done ?_
   dsimp only [envEnd]
   have ej := Option.some.inj hx5
   subst ej
   refine thn_normal (Sub.cut ⟨rfl, trivial⟩ rfl trivial rfl)
 ·refine AWP.ret ?_
  have ej := Option.some.inj h
  subst ej
  exact Done.ret rfl rfl
theorem strips_Solves_ok {t : TTask} {plan : List Int} {r : Bool × TFault} (h : strips_Solves t plan = some r) : PureOk Tryd.prog 13 [.agg [int t.facts, row 1 intI t.init, row 1 intI t.goal, row 4 eTOperator t.operators], .c (row 1 intI plan)] (.tup [.c (bool r.1), .agg [int r.2.code, int r.2.index]]) := by
 unfold PureOk
 refine FnOk.enter (rs := [.t 4, .cell 5 24 2]) Tryd.func13 rfl Tryd.ntmps13 Tryd.results13 rfl ⟨trivial, rv _ rfl, trivial⟩ (by kernel_rfl) rfl ?_
 unfold strips_Solves at h
 refine AWP.seq (.region (W.box rfl rfl rfl rfl rfl rfl (.assign rfl rfl (W.alloc rfl rfl rfl rfl (.nil (thn_normal (.seq (.seq ?_))))))))
 obtain ⟨a9, ha9, h⟩ := bind_some h
 refine AWP.region (W.loadAgg rfl rfl rfl rfl rfl rfl rfl (.move rfl rfl (.callR rfl rfl rfl rfl (strips_PlanFault_ok ha9) rfl (W.alloc rfl rfl rfl rfl (W.storeAgg rfl rfl rfl rfl rfl rfl rfl (.nil (thn_normal (.seq (.region (W.loadAgg rfl rfl rfl rfl rfl rfl rfl (W.build rfl rfl rfl rfl (.neqP rfl rfl rfl rfl rfl rfl rfl (.nil (thn_normal (.iteB rfl h (fun hc3 h => ?_) (fun hc3 h => ?_))))))))))))))))
 ·refine AWP.seq (.drawEI [2] mixed rfl rfl rfl ?_)
  apply DrawSeqE.consN; exact rfl; exact rfl; intro E
  refine W.loadAgg rfl rfl rfl rfl rfl rfl rfl (.nil ⟨rfl, rfl⟩)
  exact rfl
  apply DrawSeqE.consN; exact rfl; exact rfl; intro E
  refine AOps.assign rfl rfl (.nil ⟨rfl, rfl⟩)
  exact rfl
  apply DrawSeqE.consE (v := .undef); exact rfl; exact rfl; intro E
  refine W.storeAgg rfl rfl rfl rfl rfl rfl rfl (.nil ⟨rfl, rfl⟩)
  exact rfl
  exact rfl
  refine DrawSeqE.done rfl ?_ ?_
  ·apply RestI.cons; exact rfl; exact rfl
   apply RestK.go; exact rfl; exact rfl; intro E; refine W.loadAgg rfl rfl rfl rfl rfl rfl rfl ?_; exact AOps.nil ⟨rfl, rfl⟩
   refine RestK.skip rfl (RestK.nil)
   apply RestI.cons; exact rfl; exact rfl
   apply RestK.go; exact rfl; exact rfl; intro E; refine AOps.assign rfl rfl ?_; exact AOps.nil ⟨rfl, rfl⟩
   refine RestK.skip rfl (RestK.nil)
   refine RestI.skip rfl (RestI.nil)
  dsimp only [envEnd]
  refine thn_normal (.ret (thn_ret ?_))
  have ej := Option.some.inj h
  subst ej
  exact Done.ret rfl rfl
 ·refine AWP.skip (thn_normal (.seq ?_))
  obtain ⟨a18, ha18, h⟩ := bind_some h
  refine AWP.region (W.loadAgg rfl rfl rfl rfl rfl rfl rfl (W.fieldAddr rfl rfl rfl rfl (.load rfl rfl rfl rfl rfl rfl (.move rfl rfl (.callR rfl rfl rfl rfl (strips_Works_ok ha18) rfl (W.build rfl rfl rfl rfl (.assign rfl rfl (W.storeAgg rfl rfl rfl rfl rfl rfl rfl (.nil (thn_normal (.ret ?_)))))))))))
  have ej := Option.some.inj h
  subst ej
  exact Done.ret rfl rfl
theorem law8_RepairKeepsSolutions_ok {t : TTask} {plan : List Int} {r : Bool} (h : law8_RepairKeepsSolutions t plan = some r) : PureOk Tryd.prog 6 [.agg [int t.facts, row 1 intI t.init, row 1 intI t.goal, row 4 eTOperator t.operators], .c (row 1 intI plan)] (.c (bool r)) := by
 unfold PureOk
 refine FnOk.enter (rs := [.t 4]) Tryd.func6 rfl Tryd.ntmps6 Tryd.results6 rfl ⟨trivial, trivial⟩ (by kernel_rfl) rfl ?_
 unfold law8_RepairKeepsSolutions at h
 refine AWP.seq (.region (W.box rfl rfl rfl rfl rfl rfl (.assign rfl rfl (.nil (thn_normal (.seq ?_))))))
 obtain ⟨a14, ha14, h⟩ := bind_some h
 refine AWP.region (W.loadAgg rfl rfl rfl rfl rfl rfl rfl (.move rfl rfl (.callR rfl rfl rfl rfl (strips_Solves_ok ha14) rfl (.move rfl rfl (.extract rfl rfl rfl (.extract rfl rfl rfl (W.alloc rfl rfl rfl rfl (.assign rfl rfl (W.storeAgg rfl rfl rfl rfl rfl rfl rfl (.nil (thn_normal (.seq ?_))))))))))))
 obtain ⟨a20, ha20, h⟩ := bind_some h
 refine AWP.region (W.loadAgg rfl rfl rfl rfl rfl rfl rfl (.move rfl rfl (.callR rfl rfl rfl rfl (repair_Plan_ok ha20) rfl (.move rfl rfl (.extract rfl rfl rfl (.extract rfl rfl rfl (.extract rfl rfl rfl (.extract rfl rfl rfl (W.alloc rfl rfl rfl rfl (.assign rfl rfl (.assign rfl rfl (.assign rfl rfl (W.storeAgg rfl rfl rfl rfl rfl rfl rfl (.nil (thn_normal (.seq (.seqJ (⟨[(1, .c (row 1 intI plan)), (7, .c (row 1 intI a20.1)), (8, .c (int a20.2.1)), (9, .c (bool a20.2.2.1)), (36, .c (bool (((!(decide (a14.2.code = 0))) || (!(decide (a20.2.2.2.code = 0)))) || (!a14.1))))], [.one (.cells 4 [[int t.facts, row 1 intI t.init, row 1 intI t.goal, row 4 eTOperator t.operators]]), .one (.cells 2 [[int a14.2.code, int a14.2.index]]), .one (.cells 2 [[int a20.2.2.2.code, int a20.2.2.2.index]])]⟩) ?_ ?_)))))))))))))))))
 ·rcases Bool.eq_false_or_eq_true (!(decide (a14.2.code = 0))) with hb1 | hb1
  ·refine AWP.region (W.fieldAddr rfl rfl rfl rfl (.load rfl rfl rfl rfl rfl rfl (.neq rfl rfl rfl (.move rfl rfl (.guardF rfl rfl rfl hb1 (.guardF rfl rfl rfl hb1 (.guardF rfl rfl rfl hb1 (.pickT rfl hb1 rfl rfl (.move rfl rfl (.guardF rfl rfl rfl rfl (.guardF rfl rfl rfl rfl (.pickT rfl rfl rfl rfl (.nil (thn_normal ?_))))))))))))))
   simp only [and_t hb1, or_t hb1, Bool.false_or, Bool.true_or, Bool.false_and, Bool.true_and]
   exact Sub.env ⟨rfl, rfl, rfl, rfl, rfl, trivial⟩
  ·rcases Bool.eq_false_or_eq_true (!(decide (a20.2.2.2.code = 0))) with hb2 | hb2
   ·refine AWP.region (W.fieldAddr rfl rfl rfl rfl (.load rfl rfl rfl rfl rfl rfl (.neq rfl rfl rfl (.move rfl rfl (.guardT rfl rfl rfl hb1 (W.fieldAddr rfl rfl rfl rfl (.guardT rfl rfl rfl hb1 (.load rfl rfl rfl rfl rfl rfl (.guardT rfl rfl rfl hb1 (.neq rfl rfl rfl (.pickF rfl hb1 rfl rfl (.move rfl rfl (.guardF rfl rfl rfl hb2 (.guardF rfl rfl rfl hb2 (.pickT rfl hb2 rfl rfl (.nil (thn_normal ?_)))))))))))))))))
    simp only [and_f hb1, or_f hb1, and_t hb2, or_t hb2, Bool.false_or, Bool.true_or, Bool.false_and, Bool.true_and]
    exact Sub.env ⟨rfl, rfl, rfl, rfl, rfl, trivial⟩
   ·refine AWP.region (W.fieldAddr rfl rfl rfl rfl (.load rfl rfl rfl rfl rfl rfl (.neq rfl rfl rfl (.move rfl rfl (.guardT rfl rfl rfl hb1 (W.fieldAddr rfl rfl rfl rfl (.guardT rfl rfl rfl hb1 (.load rfl rfl rfl rfl rfl rfl (.guardT rfl rfl rfl hb1 (.neq rfl rfl rfl (.pickF rfl hb1 rfl rfl (.move rfl rfl (.guardT rfl rfl rfl hb2 (.move rfl rfl (.guardT rfl rfl rfl hb2 (.not rfl rfl (.pickF rfl hb2 rfl rfl (.nil (thn_normal ?_)))))))))))))))))))
    simp only [and_f hb1, or_f hb1, and_f hb2, or_f hb2, Bool.false_or, Bool.true_or, Bool.false_and, Bool.true_and]
    exact Sub.env ⟨rfl, rfl, rfl, rfl, rfl, trivial⟩
 ·refine AWP.iteB rfl h (fun hc3 h => ?_) (fun hc3 h => ?_)
  ·refine AWP.seq ?_
   obtain ⟨a37, ha37, h⟩ := bind_some h
   refine AWP.region (.callR rfl rfl rfl rfl (law8_nearest_ok ha37) rfl (.assign rfl rfl (.nil (thn_normal (.ret (thn_ret ?_))))))
   have ej := Option.some.inj h
   subst ej
   exact Done.ret rfl rfl
  ·refine AWP.skip (thn_normal ?_)
   obtain ⟨t4, hx5, h⟩ := bind_some h
   refine AWP.seqJ (⟨[(4, .c (bool t4))], []⟩) ?_ ?_
   ·rcases Bool.eq_false_or_eq_true (a20.2.2.1) with hb6 | hb6
    ·replace hx5 := iteBT hb6 hx5
     rcases Bool.eq_false_or_eq_true (decide (a20.2.1 = 0)) with hb7 | hb7
     ·replace hx5 := iteDT hb7 hx5
      obtain ⟨a46, ha46, hx5⟩ := bind_some hx5
      rcases Bool.eq_false_or_eq_true (a46) with hb8 | hb8
      ·replace hx5 := iteBT hb8 hx5
       obtain ⟨a49, ha49, hx5⟩ := bind_some hx5
       refine AWP.region (.move rfl rfl (.move rfl rfl (.guardT rfl rfl rfl hb6 (.move rfl rfl (.guardT rfl rfl rfl hb6 (.eql rfl rfl rfl (.pickT rfl hb6 rfl rfl (.move rfl rfl (.guardT rfl rfl rfl hb7 (.move rfl rfl (.guardT rfl rfl rfl hb7 (.move rfl rfl (.guardT rfl rfl rfl hb7 (.callR rfl rfl rfl rfl (equal_Numbers_ok ha46) rfl (.pickT rfl hb7 rfl rfl (.move rfl rfl (.guardT rfl rfl rfl hb8 (.callR rfl rfl rfl rfl (law8_nearest_ok ha49) rfl (.pickT rfl hb8 rfl rfl (.assign rfl rfl (.nil ?_)))))))))))))))))))))
       have ej := Option.some.inj hx5
       subst ej
       refine thn_normal (Sub.cut ⟨rfl, trivial⟩ rfl trivial rfl)
      ·replace hx5 := iteBF hb8 hx5
       refine AWP.region (.move rfl rfl (.move rfl rfl (.guardT rfl rfl rfl hb6 (.move rfl rfl (.guardT rfl rfl rfl hb6 (.eql rfl rfl rfl (.pickT rfl hb6 rfl rfl (.move rfl rfl (.guardT rfl rfl rfl hb7 (.move rfl rfl (.guardT rfl rfl rfl hb7 (.move rfl rfl (.guardT rfl rfl rfl hb7 (.callR rfl rfl rfl rfl (equal_Numbers_ok ha46) rfl (.pickT rfl hb7 rfl rfl (.move rfl rfl (.guardF rfl rfl rfl hb8 (.pickF rfl hb8 rfl rfl (.assign rfl rfl (.nil ?_))))))))))))))))))))
       have ej := Option.some.inj hx5
       subst ej
       refine thn_normal (Sub.cut ⟨rfl, trivial⟩ rfl trivial rfl)
     ·replace hx5 := iteDF hb7 hx5
      refine AWP.region (.move rfl rfl (.move rfl rfl (.guardT rfl rfl rfl hb6 (.move rfl rfl (.guardT rfl rfl rfl hb6 (.eql rfl rfl rfl (.pickT rfl hb6 rfl rfl (.move rfl rfl (.guardF rfl rfl rfl hb7 (.guardF rfl rfl rfl hb7 (.guardF rfl rfl rfl hb7 (.pickF rfl hb7 rfl rfl (.move rfl rfl (.guardF rfl rfl rfl rfl (.pickF rfl rfl rfl rfl (.assign rfl rfl (.nil ?_)))))))))))))))))
      have ej := Option.some.inj hx5
      subst ej
      refine thn_normal (Sub.cut ⟨rfl, trivial⟩ rfl trivial rfl)
    ·replace hx5 := iteBF hb6 hx5
     refine AWP.region (.move rfl rfl (.move rfl rfl (.guardF rfl rfl rfl hb6 (.guardF rfl rfl rfl hb6 (.pickF rfl hb6 rfl rfl (.move rfl rfl (.guardF rfl rfl rfl rfl (.guardF rfl rfl rfl rfl (.guardF rfl rfl rfl rfl (.pickF rfl rfl rfl rfl (.move rfl rfl (.guardF rfl rfl rfl rfl (.pickF rfl rfl rfl rfl (.assign rfl rfl (.nil ?_)))))))))))))))
     have ej := Option.some.inj hx5
     subst ej
     refine thn_normal (Sub.cut ⟨rfl, trivial⟩ rfl trivial rfl)
   ·refine AWP.ret ?_
    have ej := Option.some.inj h
    subst ej
    exact Done.ret rfl rfl
end Ab
end
section
namespace Ab
open Go
theorem ix_nat {α : Type} {l : List α} {k : Nat} : ix l (k : Int) = l[k]? := by simp [ix]
theorem ix_of {α : Type} {l : List α} {i : Int} (h0 : 0 ≤ i) (h1 : i < l.length) : ∃ a, ix l i = some a ∧ l[i.toNat]? = some a := by
  have h : i.toNat < l.length := by omega
  exact ⟨l[i.toNat], by simp [ix, h0, h], by simp [h]⟩
theorem ix_lo {α : Type} {l : List α} {i : Int} {a : α} (h : ix l i = some a) : 0 ≤ i ∧ i < l.length ∧ l[i.toNat]? = some a := by
  unfold ix at h
  split at h
  · have := (List.getElem?_eq_some_iff.1 h).1
    exact ⟨by assumption, by omega, h⟩
  · cases h
theorem w64_of {n : Int} (h1 : -9223372036854775808 ≤ n) (h2 : n ≤ 9223372036854775807) : w64 n = n := w64_eq ⟨h1, h2⟩
theorem forN_inv {S : Type} {body : Int → S → Option S} (P : Int → S → Prop) : ∀ (k : Nat) (i : Int) (s : S), P i s →
    (∀ j s, i ≤ j → j < i + k → P j s → ∃ s', body j s = some s' ∧ P (j + 1) s') → ∃ s', forN body k i s = some s' ∧ P (i + k) s'
  | 0, i, s, h, _ => ⟨s, rfl, by simpa using h⟩
  | k + 1, i, s, h, hb => by
    obtain ⟨s1, h1, h2⟩ := hb i s (Int.le_refl _) (by omega) h
    obtain ⟨s2, h3, h4⟩ := forN_inv P k (i + 1) s1 h2 (fun j s g1 g2 => hb j s (by omega) (by omega))
    exact ⟨s2, by simp only [forN, h1]; exact h3, by rw [show i + ((k + 1 : Nat) : Int) = i + 1 + k by omega]; exact h4⟩
/-- A loop over numbers, from what it keeps. -/
theorem forR_inv {S : Type} {body : Int → S → Option S} {n : Int} (P : Int → S → Prop) {s : S} (hn : 0 ≤ n) (h0 : P 0 s)
    (hb : ∀ j s, 0 ≤ j → j < n → P j s → ∃ s', body j s = some s' ∧ P (j + 1) s') : ∃ s', forR 0 n body s = some s' ∧ P n s' := by
  obtain ⟨s', h1, h2⟩ := forN_inv P (n - 0).toNat 0 s h0 (fun j s g1 g2 => hb j s g1 (by omega))
  exact ⟨s', h1, by rwa [show (0 : Int) + ((n - 0).toNat : Int) = n by omega] at h2⟩
theorem rngN_inv {S O : Type} {body : Int → S → Option (S ⊕ O)} (P : Int → S → Prop) (Q : O → Prop) : ∀ (k : Nat) (i : Int) (s : S), P i s →
    (∀ j s, i ≤ j → j < i + k → P j s → (∃ s', body j s = some (.inl s') ∧ P (j + 1) s') ∨ ∃ o, body j s = some (.inr o) ∧ Q o) →
    (∃ s', rngN body k i s = some (.inl s') ∧ P (i + k) s') ∨ ∃ o, rngN body k i s = some (.inr o) ∧ Q o
  | 0, i, s, h, _ => .inl ⟨s, rfl, by simpa using h⟩
  | k + 1, i, s, h, hb => by
    rcases hb i s (Int.le_refl _) (by omega) h with ⟨s1, h1, h2⟩ | ⟨o, h1, h2⟩
    · rcases rngN_inv P Q k (i + 1) s1 h2 (fun j s g1 g2 => hb j s (by omega) (by omega)) with ⟨s2, h3, h4⟩ | ⟨o, h3, h4⟩
      · exact .inl ⟨s2, by simp only [rngN, h1]; exact h3, by rw [show i + ((k + 1 : Nat) : Int) = i + 1 + k by omega]; exact h4⟩
      · exact .inr ⟨o, by simp only [rngN, h1]; exact h3, h4⟩
    · exact .inr ⟨o, by simp only [rngN, h1], h2⟩
/-- A loop over numbers with ways out, from what it keeps. -/
theorem rngX_inv {S O : Type} {body : Int → S → Option (S ⊕ O)} {n : Int} (P : Int → S → Prop) (Q : O → Prop) {s : S} (hn : 0 ≤ n) (h0 : P 0 s)
    (hb : ∀ j s, 0 ≤ j → j < n → P j s → (∃ s', body j s = some (.inl s') ∧ P (j + 1) s') ∨ ∃ o, body j s = some (.inr o) ∧ Q o) :
    (∃ s', rngX 0 n body s = some (.inl s') ∧ P n s') ∨ ∃ o, rngX 0 n body s = some (.inr o) ∧ Q o := by
  rcases rngN_inv P Q (n - 0).toNat 0 s h0 (fun j s g1 g2 => hb j s g1 (by omega)) with ⟨s', h1, h2⟩ | h
  · exact .inl ⟨s', h1, by rwa [show (0 : Int) + ((n - 0).toNat : Int) = n by omega] at h2⟩
  · exact .inr h
theorem LoopN_inv {S O : Type} {body : S → Option (S ⊕ O)} (P : S → Prop) (Q : O → Prop) (μ : S → Nat) (hb : ∀ s, P s → (∃ s', body s = some (.inl s') ∧ P s' ∧ μ s' < μ s) ∨ ∃ o, body s = some (.inr o) ∧ Q o) :
    ∀ (k : Nat) (s : S), μ s < k → P s → ∃ o, LoopN body k s = some o ∧ Q o
  | 0, s, h, _ => by omega
  | k + 1, s, h, hs => by
    rcases hb s hs with ⟨s', h1, h2, h3⟩ | ⟨o, h1, h2⟩
    · obtain ⟨o, g1, g2⟩ := LoopN_inv P Q μ hb k s' (by omega) h2
      exact ⟨o, by simp only [LoopN, h1]; exact g1, g2⟩
    · exact ⟨o, by simp only [LoopN, h1], h2⟩
/-- A loop, from what it keeps and a measure that sinks. -/
theorem Loop_inv {S O : Type} {body : S → Option (S ⊕ O)} (P : S → Prop) (Q : O → Prop) (μ : S → Nat) {s : S} (hs : P s)
    (hb : ∀ s, P s → (∃ s', body s = some (.inl s') ∧ P s' ∧ μ s' < μ s) ∨ ∃ o, body s = some (.inr o) ∧ Q o) : ∃ o, Loop body s = some o ∧ Q o := by
  obtain ⟨o, h1, h2⟩ := LoopN_inv P Q μ hb (μ s + 1) s (by omega) hs
  exact ⟨o, Loop_iff.2 ⟨_, h1⟩, h2⟩
/-! ### Two loops that do the same -/
theorem rngN_eq {S O : Type} {b1 b2 : Int → S → Option (S ⊕ O)} (P : Int → S → Prop) : ∀ (k : Nat) (i : Int) (s : S), P i s →
    (∀ j s, i ≤ j → j < i + k → P j s → b1 j s = b2 j s ∧ b1 j s ≠ none ∧ ∀ s', b1 j s = some (.inl s') → P (j + 1) s') →
    rngN b1 k i s = rngN b2 k i s ∧ rngN b1 k i s ≠ none ∧ ∀ s', rngN b1 k i s = some (.inl s') → P (i + k) s'
  | 0, i, s, h, _ => ⟨rfl, by simp [rngN], fun s' hs => by simp only [rngN, Option.some.injEq, Sum.inl.injEq] at hs; subst hs; simpa using h⟩
  | k + 1, i, s, h, hb => by
    obtain ⟨h1, h2, h3⟩ := hb i s (Int.le_refl _) (by omega) h
    simp only [rngN]
    rw [← h1]
    cases hc : b1 i s with
    | none => exact absurd hc h2
    | some x =>
      cases x with
      | inr o => exact ⟨rfl, by simp, fun s' hs => by simp at hs⟩
      | inl s1 =>
        dsimp only
        have := rngN_eq (b1 := b1) (b2 := b2) P k (i + 1) s1 (h3 s1 hc) (fun j s g1 g2 => hb j s (by omega) (by omega))
        rwa [show i + 1 + (k : Int) = i + ((k + 1 : Nat) : Int) by omega] at this
theorem rngX_eq {S O : Type} {b1 b2 : Int → S → Option (S ⊕ O)} {n : Int} (P : Int → S → Prop) {s : S} (hn : 0 ≤ n) (h0 : P 0 s)
    (hb : ∀ j s, 0 ≤ j → j < n → P j s → b1 j s = b2 j s ∧ b1 j s ≠ none ∧ ∀ s', b1 j s = some (.inl s') → P (j + 1) s') :
    rngX 0 n b1 s = rngX 0 n b2 s ∧ rngX 0 n b1 s ≠ none ∧ ∀ s', rngX 0 n b1 s = some (.inl s') → P n s' := by
  have := rngN_eq P (n - 0).toNat 0 s h0 (fun j s g1 g2 => hb j s g1 (by omega))
  rwa [show (0 : Int) + ((n - 0).toNat : Int) = n by omega] at this
end Ab
end
section
namespace Ab
open Go
/-- A proposition as' a truth value. -/
noncomputable def dec (p : Prop) : Bool := @decide p (Classical.propDecidable p)
@[simp] theorem dec_true {p : Prop} : dec p = true ↔ p := by simp [dec]
@[simp] theorem dec_false {p : Prop} : dec p = false ↔ ¬ p := by simp [dec]
@[simp] theorem dec_not {p : Prop} : (!dec p) = dec (¬ p) := by by_cases h : p <;> simp [dec, h]
theorem decide_dec {p : Prop} [Decidable p] : decide p = dec p := by by_cases h : p <;> simp [dec, h]
theorem dec_of {p : Prop} (h : p) : dec p = true := dec_true.2 h
theorem dec_no {p : Prop} (h : ¬ p) : dec p = false := dec_false.2 h
theorem dec_congr {p q : Prop} (h : p ↔ q) : dec p = dec q := by rw [propext h]
theorem dec_and {p q : Prop} : (dec p && dec q) = dec (p ∧ q) := by by_cases h : p <;> by_cases g : q <;> simp [dec, h, g]
theorem ifP {α : Type} {p : Prop} {a b : α} (h : p) : (if dec p = true then a else b) = a := if_pos (dec_of h)
theorem ifN {α : Type} {p : Prop} {a b : α} (h : ¬ p) : (if dec p = true then a else b) = b := if_neg fun g => h (dec_true.1 g)
theorem ifNN {α : Type} {p : Prop} {a b : α} (h : p) : (if dec (¬ p) = true then a else b) = b := ifN (not_not_intro h)
theorem ix_mem {α : Type} {l : List α} {i : Int} {a : α} (h : ix l i = some a) : a ∈ l := List.mem_of_getElem? (ix_lo h).2.2
theorem mem_ix {α : Type} {l : List α} {a : α} (h : a ∈ l) : ∃ i : Int, 0 ≤ i ∧ i < l.length ∧ ix l i = some a := by
  obtain ⟨k, hk⟩ := List.getElem?_of_mem h
  exact ⟨k, by omega, by have := (List.getElem?_eq_some_iff.1 hk).1; omega, by rw [ix_nat, hk]⟩
theorem ix_put {α : Type} {l : List α} {i j : Int} {x : α} (h0 : 0 ≤ i) (h1 : i < l.length) (hj : 0 ≤ j) : ix (l.set i.toNat x) j = if j = i then some x else ix l j := by
  simp only [ix, hj, if_true, List.getElem?_set]
  by_cases h : j = i
  · subst h; rw [if_pos rfl, if_pos rfl, if_pos (by omega)]
  · rw [if_neg h, if_neg (by omega)]
/-- A loop that tests: the first number that fails ends it. -/
theorem rngX_test {O : Type} {body : Int → Unit → Option (Unit ⊕ O)} {n : Int} (g : Int → Option O) (hn : 0 ≤ n)
    (hb : ∀ j, 0 ≤ j → j < n → (∀ i, 0 ≤ i → i < j → g i = none) → body j () = some (match g j with | none => .inl () | some o => .inr o)) :
    (rngX 0 n body () = some (.inl ()) ∧ ∀ j, 0 ≤ j → j < n → g j = none) ∨ ∃ j o, 0 ≤ j ∧ j < n ∧ g j = some o ∧ (∀ i, 0 ≤ i → i < j → g i = none) ∧ rngX 0 n body () = some (.inr o) := by
  rcases rngX_inv (body := body) (n := n) (fun j _ => ∀ i, 0 ≤ i → i < j → g i = none) (fun o => ∃ j, 0 ≤ j ∧ j < n ∧ g j = some o ∧ ∀ i, 0 ≤ i → i < j → g i = none) (s := ()) hn (fun i h1 h2 => by omega) (fun j s h0 h1 hP => by
    have := hb j h0 h1 hP
    cases hg : g j with
    | none => rw [hg] at this; exact .inl ⟨(), this, fun i h2 h3 => by
        rcases Int.lt_or_eq_of_le (Int.le_of_lt_add_one h3) with h | h
        · exact hP i h2 h
        · rw [h, hg]⟩
    | some o => rw [hg] at this; exact .inr ⟨o, this, j, h0, h1, hg, hP⟩) with ⟨s', h1, h2⟩ | ⟨o, h1, j, h2, h3, h4, h5⟩
  · exact .inl ⟨h1, h2⟩
  · exact .inr ⟨j, o, h2, h3, h4, h5, h1⟩
/-- A loop over a list that tests its elements. -/
theorem rng_list {α O : Type} {l : List α} {body : Int → Unit → Option (Unit ⊕ O)} (q : α → Prop) (b : O)
    (hb : ∀ j a, ix l j = some a → (q a ∧ body j () = some (.inl ())) ∨ (¬ q a ∧ body j () = some (.inr b))) :
    rngX 0 (l.length : Int) body () = some (if dec (∀ a ∈ l, q a) = true then .inl () else .inr b) := by
  rcases rngX_test (body := body) (n := (l.length : Int)) (fun j => match ix l j with | some a => if dec (q a) = true then none else some b | none => none) (by omega) (fun j h0 h1 _ => by
    obtain ⟨a, h2, _⟩ := ix_of h0 h1
    rw [h2]
    rcases hb j a h2 with ⟨h3, h4⟩ | ⟨h3, h4⟩
    · rw [h4]; simp [h3]
    · rw [h4]; simp [h3]) with ⟨h1, h2⟩ | ⟨j, o, h0, h1, h2, _, h4⟩
  · rw [h1, if_pos]
    rw [dec_true]
    intro a ha
    obtain ⟨i, g1, g2, g3⟩ := mem_ix ha
    have := h2 i g1 g2
    rw [g3] at this
    simpa using this
  · rw [h4]
    obtain ⟨a, g1, _⟩ := ix_of h0 h1
    rw [g1] at h2
    simp only [dec_true] at h2
    split at h2
    · cases h2
    · rename_i hq
      cases h2
      rw [if_neg]
      rw [dec_true]
      exact fun h => hq (dec_of (h a (ix_mem g1)))
/-- Rising lists. -/
abbrev Inc (l : List Int) : Prop := l.Pairwise (· < ·)
theorem inc_of_adj : ∀ {l : List Int}, (∀ (k : Nat) a b, l[k]? = some a → l[k + 1]? = some b → a < b) → Inc l
  | [], _ => .nil
  | [_], _ => by simp
  | a :: b :: l, h => by
    have ih : Inc (b :: l) := inc_of_adj fun k x y h1 h2 => h (k + 1) x y (by simpa using h1) (by simpa using h2)
    have hab : a < b := h 0 a b rfl rfl
    refine List.pairwise_cons.2 ⟨fun c hc => ?_, ih⟩
    rcases List.mem_cons.1 hc with rfl | hc
    · exact hab
    · exact Int.lt_trans hab ((List.pairwise_cons.1 ih).1 c hc)
theorem Inc.get {l : List Int} (h : Inc l) {i j : Nat} {a b : Int} (hi : l[i]? = some a) (hj : l[j]? = some b) (hij : i < j) : a < b := by
  obtain ⟨h1, rfl⟩ := List.getElem?_eq_some_iff.1 hi
  obtain ⟨h2, rfl⟩ := List.getElem?_eq_some_iff.1 hj
  exact List.pairwise_iff_getElem.1 h i j h1 h2 hij
theorem Inc.ext : ∀ {l m : List Int}, Inc l → Inc m → (∀ x, x ∈ l ↔ x ∈ m) → l = m
  | [], [], _, _, _ => rfl
  | [], b :: m, _, _, h => absurd ((h b).2 (by simp)) (by simp)
  | a :: l, [], _, _, h => absurd ((h a).1 (by simp)) (by simp)
  | a :: l, b :: m, hl, hm, h => by
    obtain ⟨l1, l2⟩ := List.pairwise_cons.1 hl
    obtain ⟨m1, m2⟩ := List.pairwise_cons.1 hm
    have hab : a = b := by
      rcases List.mem_cons.1 ((h a).1 (by simp)) with e | e
      · exact e
      · rcases List.mem_cons.1 ((h b).2 (by simp)) with e' | e'
        · exact e'.symm
        · have := l1 b e'; have := m1 a e; omega
    subst hab
    rw [Inc.ext l2 m2 fun x => ⟨fun hx => ?_, fun hx => ?_⟩]
    · rcases List.mem_cons.1 ((h x).1 (by simp [hx])) with e | e
      · have := l1 x hx; omega
      · exact e
    · rcases List.mem_cons.1 ((h x).2 (by simp [hx])) with e | e
      · have := m1 x hx; omega
      · exact e
theorem Inc.filter {l : List Int} (h : Inc l) (p : Int → Bool) : Inc (l.filter p) := List.Pairwise.filter p h
/-- Numbers from lo on. -/
def nums (lo : Int) : Nat → List Int
  | 0 => []
  | k + 1 => lo :: nums (lo + 1) k
theorem mem_nums {x : Int} : ∀ {k : Nat} {lo : Int}, x ∈ nums lo k ↔ lo ≤ x ∧ x < lo + k
  | 0, lo => by simp [nums]
  | k + 1, lo => by
    rw [nums, List.mem_cons, mem_nums (k := k)]
    omega
theorem inc_nums : ∀ (k : Nat) (lo : Int), Inc (nums lo k)
  | 0, _ => .nil
  | k + 1, lo => List.pairwise_cons.2 ⟨fun x hx => by have := mem_nums.1 hx; omega, inc_nums k (lo + 1)⟩
theorem len_nums : ∀ (k : Nat) (lo : Int), (nums lo k).length = k
  | 0, _ => rfl
  | k + 1, lo => by simp [nums, len_nums k]
/-- The set of the numbers below n of which p holds. -/
noncomputable def setOf (p : Int → Prop) (n : Int) : List Int := (nums 0 n.toNat).filter fun x => dec (p x)
theorem mem_setOf {p : Int → Prop} {n x : Int} : x ∈ setOf p n ↔ 0 ≤ x ∧ x < n ∧ p x := by
  rw [setOf, List.mem_filter, mem_nums, dec_true]
  constructor
  · rintro ⟨⟨h1, h2⟩, h3⟩; exact ⟨h1, by omega, h3⟩
  · rintro ⟨h1, h2, h3⟩; exact ⟨⟨h1, by omega⟩, h3⟩
theorem inc_setOf (p : Int → Prop) (n : Int) : Inc (setOf p n) := (inc_nums _ _).filter _
theorem setOf_congr {p q : Int → Prop} {n : Int} (h : ∀ x, 0 ≤ x → x < n → (p x ↔ q x)) : setOf p n = setOf q n := by
  refine List.filter_congr fun x hx => dec_congr ?_
  have := mem_nums.1 hx
  exact h x (by omega) (by omega)
/-- A rising list of numbers below n. -/
def SetN (l : List Int) (n : Int) : Prop := Inc l ∧ ∀ x ∈ l, 0 ≤ x ∧ x < n
theorem setN_setOf (p : Int → Prop) (n : Int) : SetN (setOf p n) n := ⟨inc_setOf p n, fun x hx => by have := mem_setOf.1 hx; exact ⟨this.1, this.2.1⟩⟩
theorem SetN.eq {l : List Int} {n : Int} (h : SetN l n) : l = setOf (· ∈ l) n :=
  h.1.ext (inc_setOf _ _) fun x => ⟨fun hx => mem_setOf.2 ⟨(h.2 x hx).1, (h.2 x hx).2, hx⟩, fun hx => (mem_setOf.1 hx).2.2⟩
theorem SetN.eq_of {l : List Int} {n : Int} (h : SetN l n) {p : Int → Prop} (hp : ∀ x, 0 ≤ x → x < n → (x ∈ l ↔ p x)) : l = setOf p n :=
  h.eq.trans (setOf_congr hp)
theorem SetN.len {l : List Int} {n : Int} (h : SetN l n) : l.length ≤ n.toNat := by
  rw [h.eq, setOf]
  exact Nat.le_trans (List.length_filter_le _ _) (Nat.le_of_eq (len_nums _ _))
theorem setN_nil (n : Int) : SetN [] n := ⟨.nil, by simp⟩
/-- A list of the elements that pass, made by appending. -/
theorem forR_filter {α : Type} {l : List α} {b : Nat} {body : Int → List α → Option (List α)} (q : α → Prop)
    (hb : ∀ j a c, ix l j = some a → (q a → body j c = app b c [a]) ∧ (¬ q a → body j c = some c)) (c0 : List α) (hl : (c0.length + l.length) * b ≤ 140737488355328) :
    forR 0 (l.length : Int) body c0 = some (c0 ++ l.filter fun a => dec (q a)) := by
  obtain ⟨s', h1, h2⟩ := forR_inv (body := body) (n := (l.length : Int)) (s := c0) (fun j c => c = c0 ++ (l.take j.toNat).filter fun a => dec (q a)) (by omega) (by simp) (fun j c h0 h1 hP => by
    obtain ⟨a, g1, g2⟩ := ix_of h0 h1
    have e : (j + 1).toNat = j.toNat + 1 := by omega
    have ht : l.take (j + 1).toNat = l.take j.toNat ++ [a] := by rw [e, List.take_add_one, g2]; rfl
    by_cases hq : q a
    · have happ : app b c [a] = some (c ++ [a]) := by
        rw [app, if_pos]
        have h3 : ((l.take j.toNat).filter fun a => dec (q a)).length ≤ (l.take j.toNat).length := List.length_filter_le _ _
        rw [List.length_take] at h3
        have h5 : c.length + 1 ≤ c0.length + l.length := by rw [hP, List.length_append]; omega
        refine Nat.le_trans (Nat.mul_le_mul_right b ?_) hl
        simpa using h5
      refine ⟨c ++ [a], by rw [(hb j a c g1).1 hq, happ], ?_⟩
      rw [ht, List.filter_append, hP]
      simp [hq]
    · refine ⟨c, (hb j a c g1).2 hq, ?_⟩
      rw [ht, List.filter_append, hP]
      simp [hq])
  rw [h1, h2]
  simp
end Ab
end
section
namespace Ab
open Go
theorem has_eq (l : List Int) (n : Int) : ref1_Has l n = some (dec (n ∈ l)) := by
  unfold ref1_Has
  rw [rng_list (l := l) (fun a => a ≠ n) true (fun j a h => by
    unfold ref1_Has_l1
    rw [h]
    by_cases e : a = n <;> simp [e])]
  by_cases h : n ∈ l
  · rw [if_neg (by simp only [dec_true]; exact fun g => g n h rfl)]
    simp [h]
  · rw [if_pos (by simp only [dec_true]; exact fun a ha e => h (e ▸ ha))]
    simp [h]
theorem disjoint_eq (a b : List Int) : ref1_Disjoint a b = some (dec (∀ x ∈ a, x ∉ b)) := by
  unfold ref1_Disjoint
  rw [rng_list (l := a) (fun x => x ∉ b) false (fun j x h => by
    unfold ref1_Disjoint_l1
    rw [h]
    by_cases e : x ∈ b <;> simp [e, has_eq])]
  by_cases h : ∀ x ∈ a, x ∉ b
  · rw [if_pos (dec_of h), dec_of h]; rfl
  · rw [if_neg (by rw [dec_no h]; simp), dec_no h]; rfl
theorem in_eq (n lo hi : Int) : ref1_In n lo hi = some (dec (lo ≤ n ∧ n ≤ hi)) := by
  unfold ref1_In; rw [decide_dec, decide_dec, dec_and]
theorem at_eq (c i : Int) : ref1_At c i = some ⟨c, i⟩ := rfl
/-- What a test of a rising list asks at a place. -/
def stepOk (l : List Int) (n j : Int) : Prop := ∀ a, ix l j = some a → (0 ≤ a ∧ a < n) ∧ ∀ b, 0 < j → ix l (j - 1) = some b → b < a
theorem stepOk_iff {l : List Int} {n : Int} : (∀ j : Int, 0 ≤ j → j < l.length → stepOk l n j) ↔ SetN l n := by
  constructor
  · intro h
    refine ⟨inc_of_adj fun k a b h1 h2 => ?_, fun x hx => ?_⟩
    · have hk := (List.getElem?_eq_some_iff.1 h2).1
      have := (h ((k + 1 : Nat) : Int) (by omega) (by omega) b (by rw [ix_nat]; exact h2)).2 a (by omega)
      rw [show ((k + 1 : Nat) : Int) - 1 = (k : Nat) by omega] at this
      exact this (by rw [ix_nat]; exact h1)
    · obtain ⟨i, h1, h2, h3⟩ := mem_ix hx
      exact (h i h1 h2 x h3).1
  · intro h j h0 h1 a ha
    refine ⟨h.2 a (ix_mem ha), fun b hj hb => ?_⟩
    obtain ⟨_, _, ga⟩ := ix_lo ha
    obtain ⟨_, _, gb⟩ := ix_lo hb
    exact h.1.get gb ga (by omega)
theorem isSet_eq (l : List Int) (n : Int) : strips_IsSet l n = some (dec (SetN l n)) := by
  unfold strips_IsSet
  rcases rngX_test (body := strips_IsSet_l1 l n) (n := (l.length : Int)) (fun j => if dec (stepOk l n j) = true then none else some false) (by omega) (fun j h0 h1 _ => by
    obtain ⟨a, ha, _⟩ := ix_of (l := l) h0 h1
    unfold strips_IsSet_l1
    rw [ha]
    simp only [Option.bind_some]
    by_cases c1 : a < 0
    · rw [if_pos c1, if_neg]
      · rfl
      · rw [dec_true]; intro h; have := (h a ha).1; omega
    · rw [if_neg c1]
      by_cases c2 : n ≤ a
      · rw [if_pos c2, if_neg]
        · rfl
        · rw [dec_true]; intro h; have := (h a ha).1; omega
      · rw [if_neg c2]
        by_cases c3 : 0 < j
        · obtain ⟨b, hb, _⟩ := ix_of (l := l) (i := j - 1) (by omega) (by omega)
          rw [if_pos c3, hb]
          simp only [Option.bind_some]
          by_cases c4 : a ≤ b
          · rw [if_pos (by simpa using c4), if_neg]
            rw [dec_true]; intro h; have := (h a ha).2 b c3 hb; omega
          · rw [if_neg (by simpa using c4), if_pos]
            rw [dec_true]; intro x hx
            rw [ha] at hx; cases hx
            exact ⟨by omega, fun y _ hy => by rw [hb] at hy; cases hy; omega⟩
        · rw [if_neg c3]
          simp only [Option.bind_some]
          rw [if_neg (by simp), if_pos]
          rw [dec_true]; intro x hx
          rw [ha] at hx; cases hx
          exact ⟨by omega, fun y hy => absurd hy c3⟩) with ⟨h1, h2⟩ | ⟨j, o, h0, h1, h2, _, h4⟩
  · rw [h1, dec_of]
    · rfl
    · exact stepOk_iff.1 fun j g1 g2 => by have := h2 j g1 g2; simpa using this
  · rw [h4]
    split at h2
    · cases h2
    · rename_i hs
      cases h2
      rw [dec_no]
      · rfl
      · exact fun h => hs (dec_of (stepOk_iff.2 h j h0 h1))
theorem rIsSet_eq (l : List Int) {n : Int} (hn : -9223372036854775808 < n) (hn' : n ≤ 9223372036854775807) : ref1_IsSet l n = some (dec (SetN l n)) := by
  unfold ref1_IsSet
  rcases rngX_test (body := ref1_IsSet_l1 l n) (n := (l.length : Int)) (fun j => if dec (stepOk l n j) = true then none else some false) (by omega) (fun j h0 h1 _ => by
    obtain ⟨a, ha, _⟩ := ix_of (l := l) h0 h1
    unfold ref1_IsSet_l1
    rw [ha]
    simp only [Option.bind_some, in_eq, w64_of (n := n - 1) (by omega) (by omega), dec_not]
    by_cases c1 : 0 ≤ a ∧ a ≤ n - 1
    · rw [if_neg (by simpa using c1)]
      by_cases c3 : 0 < j
      · obtain ⟨b, hb, _⟩ := ix_of (l := l) (i := j - 1) (by omega) (by omega)
        rw [if_pos c3, hb]
        simp only [Option.bind_some]
        by_cases c4 : a ≤ b
        · rw [if_pos (by simpa using c4), if_neg]
          rw [dec_true]; intro h; have := (h a ha).2 b c3 hb; omega
        · rw [if_neg (by simpa using c4), if_pos]
          rw [dec_true]; intro x hx
          rw [ha] at hx; cases hx
          exact ⟨by omega, fun y _ hy => by rw [hb] at hy; cases hy; omega⟩
      · rw [if_neg c3]
        simp only [Option.bind_some]
        rw [if_neg (by simp), if_pos]
        rw [dec_true]; intro x hx
        rw [ha] at hx; cases hx
        exact ⟨by omega, fun y hy => absurd hy c3⟩
    · rw [if_pos (by simpa using c1), if_neg]
      · rfl
      · rw [dec_true]; intro h; have := (h a ha).1; omega) with ⟨h1, h2⟩ | ⟨j, o, h0, h1, h2, _, h4⟩
  · rw [h1, dec_of]
    · rfl
    · exact stepOk_iff.1 fun j g1 g2 => by have := h2 j g1 g2; simpa using this
  · rw [h4]
    split at h2
    · cases h2
    · rename_i hs
      cases h2
      rw [dec_no]
      · rfl
      · exact fun h => hs (dec_of (stepOk_iff.2 h j h0 h1))
theorem containsLoop {s : List Int} (hs : Inc s) (hl : s.length ≤ 1000000) (x : Int) {i : Int} (h0 : 0 ≤ i) (h1 : i ≤ s.length) (hlt : ∀ k a, 0 ≤ k → k < i → ix s k = some a → a < x) :
    ∃ i', Loop (strips_Contains_l2 s x) i = some i' ∧ i ≤ i' ∧ i' ≤ s.length ∧ (∀ k a, 0 ≤ k → k < i' → ix s k = some a → a < x) ∧ (∀ a, ix s i' = some a → x ≤ a) := by
  obtain ⟨o, h2, h3⟩ := Loop_inv (body := strips_Contains_l2 s x) (fun j => i ≤ j ∧ j ≤ s.length ∧ ∀ k a, 0 ≤ k → k < j → ix s k = some a → a < x) (fun i' => i ≤ i' ∧ i' ≤ s.length ∧ (∀ k a, 0 ≤ k → k < i' → ix s k = some a → a < x) ∧ (∀ a, ix s i' = some a → x ≤ a)) (fun j => (s.length - j).toNat) (s := i) ⟨Int.le_refl _, h1, hlt⟩ (fun j ⟨g1, g2, g3⟩ => by
    unfold strips_Contains_l2
    by_cases c : j < s.length
    · obtain ⟨a, ha, _⟩ := ix_of (l := s) (i := j) (by omega) c
      rw [if_pos c, ha]
      simp only [Option.bind_some, decide_eq_true_eq]
      by_cases c2 : a < x
      · rw [if_pos c2]
        rw [w64_of (by omega) (by omega)]
        refine .inl ⟨j + 1, rfl, ⟨by omega, by omega, fun k b k0 k1 hb => ?_⟩, by omega⟩
        by_cases e : k = j
        · subst e; rw [ha] at hb; cases hb; exact c2
        · exact g3 k b k0 (by omega) hb
      · rw [if_neg c2]
        exact .inr ⟨j, rfl, g1, g2, g3, fun b hb => by rw [ha] at hb; cases hb; omega⟩
    · rw [if_neg c]
      exact .inr ⟨j, rfl, g1, g2, g3, fun b hb => by have := (ix_lo hb).2.1; omega⟩)
  exact ⟨o, h2, h3⟩
theorem contains_eq {s part : List Int} (hs : Inc s) (hp : Inc part) (hl : s.length ≤ 1000000) : strips_Contains s part = some (dec (∀ x ∈ part, x ∈ s)) := by
  unfold strips_Contains
  rcases rngX_inv (body := strips_Contains_l1 s part) (n := (part.length : Int)) (fun j i => (0 ≤ i ∧ i ≤ s.length ∧ ∀ k a, 0 ≤ k → k < i → ix s k = some a → ∀ m x, j ≤ m → ix part m = some x → a < x) ∧ ∀ m x, 0 ≤ m → m < j → ix part m = some x → x ∈ s) (fun o => o = false ∧ ¬ ∀ x ∈ part, x ∈ s) (s := 0) (by omega) ⟨⟨by omega, by omega, fun k a h1 h2 => by omega⟩, fun m x h1 h2 => by omega⟩ (fun j i h0 h1 ⟨⟨g1, g2, g3⟩, g4⟩ => by
    obtain ⟨x, hx, gx⟩ := ix_of (l := part) h0 h1
    unfold strips_Contains_l1
    obtain ⟨i', e1, e2, e3, e4, e5⟩ := containsLoop hs hl x g1 g2 (fun k a k0 k1 ha => g3 k a k0 k1 ha j x (Int.le_refl _) hx)
    rw [hx]
    simp only [Option.bind_some, e1]
    have nin : (∀ a, ix s i' = some a → x < a) → x ∉ s := fun hgt hin => by
      obtain ⟨k, k0, k1, hk⟩ := mem_ix hin
      rcases Int.lt_trichotomy k i' with c | c | c
      · have := e4 k x k0 c hk; omega
      · subst c; have := hgt x hk; omega
      · obtain ⟨b, hb, gb⟩ := ix_of (l := s) (i := i') (by omega) (by omega)
        obtain ⟨_, _, gk⟩ := ix_lo hk
        have := hs.get gb gk (by omega)
        have := e5 b hb
        omega
    by_cases c : i' = s.length
    · rw [if_pos c]
      refine .inr ⟨false, rfl, rfl, fun h => ?_⟩
      exact nin (fun a ha => by have := (ix_lo ha).2.1; omega) (h x (ix_mem hx))
    · rw [if_neg c]
      obtain ⟨b, hb, gb⟩ := ix_of (l := s) (i := i') (by omega) (by omega)
      rw [hb]
      simp only [Option.bind_some]
      have hxb := e5 b hb
      by_cases c2 : b = x
      · subst c2
        rw [if_neg (by simp)]
        refine .inl ⟨i', rfl, ⟨by omega, e3, fun k a k0 k1 ha m y hm hy => ?_⟩, fun m y m0 m1 hy => ?_⟩
        · obtain ⟨_, _, gy⟩ := ix_lo hy
          have := hp.get gx gy (by omega)
          have := e4 k a k0 k1 ha
          omega
        · by_cases e : m = j
          · subst e; rw [hx] at hy; cases hy; exact ix_mem hb
          · exact g4 m y m0 (by omega) hy
      · rw [if_pos (by simpa using c2)]
        refine .inr ⟨false, rfl, rfl, fun h => ?_⟩
        exact nin (fun a ha => by rw [hb] at ha; cases ha; omega) (h x (ix_mem hx))) with ⟨s', h1, _, h2⟩ | ⟨o, h1, rfl, h2⟩
  · rw [h1, dec_of]
    · rfl
    · intro x hx
      obtain ⟨m, m0, m1, hm⟩ := mem_ix hx
      exact h2 m x m0 m1 hm
  · rw [h1, dec_no h2]; rfl
end Ab
end
section
namespace Ab
open Go
theorem half_eq {i j : Int} (h0 : 0 ≤ i) (h1 : i ≤ j) (h2 : j ≤ 1000000) : w64 (shrW .u64 ((IntKind.u64).wrap (w64 (i + j))) 1) = (i + j) / 2 := by
  rw [w64_of (n := i + j) (by omega) (by omega), IntKind.wrap_u64, Int.emod_eq_of_lt (by omega) (by omega)]
  have : shrW .u64 (i + j) 1 = (i + j) / 2 := by
    simp only [shrW, IntKind.bits]
    rw [show min (1 : Int).toNat 64 = 1 by rfl, Int.fdiv_eq_ediv_of_nonneg _ (by decide)]
    rfl
  rw [this]
  exact w64_of (by omega) (by omega)
theorem less_eq (a b : Int) : cmp_Less_int a b = some (decide (a < b)) := by simp [cmp_Less_int, cmp_isNaN_int]
theorem bsearch_eq {xs : List Int} (hs : Inc xs) (hl : xs.length ≤ 500000) (t : Int) : ∃ i, slices_BinarySearch_int_int xs t = some (i, dec (t ∈ xs)) ∧ 0 ≤ i ∧ i ≤ xs.length ∧ (∀ k a, 0 ≤ k → k < i → ix xs k = some a → a < t) ∧ (∀ k a, i ≤ k → ix xs k = some a → t ≤ a) := by
  unfold slices_BinarySearch_int_int
  obtain ⟨i, h1, h2, h3, h4, h5⟩ := Loop_inv (body := slices_BinarySearch_int_int_l1 xs t) (fun p => (0 ≤ p.1 ∧ p.1 ≤ p.2 ∧ p.2 ≤ xs.length) ∧ (∀ k a, 0 ≤ k → k < p.1 → ix xs k = some a → a < t) ∧ (∀ k a, p.2 ≤ k → ix xs k = some a → t ≤ a))
    (fun i => 0 ≤ i ∧ i ≤ xs.length ∧ (∀ k a, 0 ≤ k → k < i → ix xs k = some a → a < t) ∧ (∀ k a, i ≤ k → ix xs k = some a → t ≤ a)) (fun p => (p.2 - p.1).toNat) (s := (0, (xs.length : Int)))
    ⟨⟨by simp, by simp, by simp⟩, fun k a h1 h2 => by simp at h2; omega, fun k a h1 h2 => by have := (ix_lo h2).2.1; simp at h1; omega⟩ (fun ⟨i, j⟩ ⟨⟨g1, g2, g3⟩, g4, g5⟩ => by
    dsimp only at g1 g2 g3 g4 g5 ⊢
    unfold slices_BinarySearch_int_int_l1
    dsimp only
    by_cases c : i < j
    · rw [if_pos c, half_eq g1 g2 (by omega)]
      obtain ⟨a, ha, ga⟩ := ix_of (l := xs) (i := (i + j) / 2) (by omega) (by omega)
      rw [ha]
      simp only [Option.bind_some, less_eq, decide_eq_true_eq]
      by_cases c2 : a < t
      · rw [if_pos c2, w64_of (by omega) (by omega)]
        refine .inl ⟨_, rfl, ⟨⟨by dsimp only; omega, by dsimp only; omega, g3⟩, fun k b k0 k1 hb => ?_, g5⟩, by dsimp only; omega⟩
        dsimp only at k1
        obtain ⟨_, _, gb⟩ := ix_lo hb
        by_cases e : k = (i + j) / 2
        · subst e; rw [ha] at hb; cases hb; exact c2
        · have := hs.get gb ga (by omega); omega
      · rw [if_neg c2]
        refine .inl ⟨_, rfl, ⟨⟨g1, by dsimp only; omega, by dsimp only; omega⟩, g4, fun k b k0 hb => ?_⟩, by dsimp only; omega⟩
        dsimp only at k0
        obtain ⟨_, _, gb⟩ := ix_lo hb
        by_cases e : k = (i + j) / 2
        · subst e; rw [ha] at hb; cases hb; omega
        · have := hs.get ga gb (by omega); omega
    · rw [if_neg c]
      have : i = j := by omega
      subst this
      exact .inr ⟨i, rfl, g1, g3, g4, g5⟩)
  rw [h1]
  simp only [Option.bind_some]
  refine ⟨i, ?_, h2, h3, h4, h5⟩
  have nin : (∀ a, ix xs i = some a → a ≠ t) → t ∉ xs := fun hne hin => by
    obtain ⟨k, k0, k1, hk⟩ := mem_ix hin
    rcases Int.lt_trichotomy k i with c | c | c
    · have := h4 k t k0 c hk; omega
    · subst c; exact hne t hk rfl
    · obtain ⟨b, hb, gb⟩ := ix_of (l := xs) (i := i) (by omega) (by omega)
      obtain ⟨_, _, gk⟩ := ix_lo hk
      have := hs.get gb gk (by omega)
      have := h5 i b (Int.le_refl _) hb
      omega
  by_cases c : i < xs.length
  · obtain ⟨a, ha, ga⟩ := ix_of (l := xs) (i := i) (by omega) c
    rw [if_pos c, ha]
    simp only [Option.bind_some]
    by_cases c2 : a = t
    · subst c2
      rw [if_pos rfl, dec_of (ix_mem ha)]
      rfl
    · rw [if_neg c2]
      simp only [slices_isNaN_int, decide_true, Bool.not_true, Bool.false_eq_true, if_false, Option.bind_some]
      rw [dec_no (nin fun b hb => by rw [ha] at hb; cases hb; exact c2)]
  · rw [if_neg c]
    simp only [Option.bind_some]
    rw [dec_no (nin fun b hb => by have := (ix_lo hb).2.1; omega)]
theorem bsearch2 {xs : List Int} (hs : Inc xs) (hl : xs.length ≤ 500000) (t : Int) : ∃ i, slices_BinarySearch_int_int xs t = some (i, dec (t ∈ xs)) :=
  let ⟨i, h, _⟩ := bsearch_eq hs hl t
  ⟨i, h⟩
theorem containsFunc_eq {l : List Int} {f : Int → Option Bool} (p : Int → Prop) (hf : ∀ x ∈ l, f x = some (dec (p x))) : slices_ContainsFunc_int_int l f = some (dec (∃ x ∈ l, p x)) := by
  unfold slices_ContainsFunc_int_int slices_IndexFunc_int_int
  rcases rngX_test (body := slices_IndexFunc_int_int_l1 l f) (n := (l.length : Int)) (fun j => if dec (∀ a, ix l j = some a → ¬ p a) = true then none else some j) (by omega) (fun j h0 h1 _ => by
    obtain ⟨a, ha, _⟩ := ix_of (l := l) h0 h1
    unfold slices_IndexFunc_int_int_l1
    rw [ha]
    simp only [Option.bind_some, hf a (ix_mem ha)]
    by_cases c : p a
    · rw [if_pos (dec_of c), if_neg (by rw [dec_true]; exact fun h => h a rfl c)]
    · rw [if_neg (by rw [dec_no c]; simp), if_pos (dec_of fun b hb => by cases hb; exact c)]) with ⟨h1, h2⟩ | ⟨j, o, h0, h1, h2, _, h4⟩
  · rw [h1]
    simp only [Option.bind_some]
    rw [dec_no]
    · rfl
    · rintro ⟨x, hx, hp⟩
      obtain ⟨i, g1, g2, g3⟩ := mem_ix hx
      have := h2 i g1 g2
      split at this
      · rename_i h; exact dec_true.1 h x g3 hp
      · cases this
  · rw [h4]
    split at h2
    · cases h2
    · rename_i h
      cases h2
      simp only [Option.bind_some]
      rw [dec_of]
      · simp [h0]
      · simp only [dec_true] at h
        obtain ⟨a, g1, _⟩ := ix_of (l := l) h0 h1
        refine ⟨a, ix_mem g1, ?_⟩
        rcases Classical.em (p a) with c | c
        · exact c
        · exact absurd (fun b hb => by rw [g1] at hb; cases hb; exact c) h
theorem meets_eq {a b : List Int} (hb : Inc b) (hl : b.length ≤ 500000) : strips_Meets a b = some (dec (∃ x ∈ a, x ∈ b)) := by
  unfold strips_Meets
  rw [containsFunc_eq (fun x => x ∈ b) (fun x _ => by
    unfold strips_Meets_1
    obtain ⟨i, h⟩ := bsearch2 hb hl x
    rw [h]; rfl)]
  rfl
/-! ### Sorted, and equal neighbours made one -/
theorem compact_spec {l : List Int} (hs : l.Pairwise (· ≤ ·)) : Inc (compactL l) ∧ ∀ x, x ∈ compactL l ↔ x ∈ l := by
  have key : ∀ m, m ≤ l.length → Inc (Go.Lib.compactUpTo l.toArray m) ∧ (∀ x, x ∈ Go.Lib.compactUpTo l.toArray m ↔ x ∈ l.take m) := by
    intro m
    induction m with
    | zero => intro _; simp [Go.Lib.compactUpTo]
    | succ m ih =>
      intro hm
      obtain ⟨h1, h2⟩ := ih (by omega)
      have hlt : m < l.length := by omega
      have hd : l.toArray[m]! = l[m] := by simp [hlt]
      have ht : l.take (m + 1) = l.take m ++ [l[m]] := by rw [List.take_add_one]; simp [hlt]
      rw [Go.Lib.compactUpTo_succ, ht]
      by_cases hk : Go.Lib.keeps l.toArray m = true
      · rw [if_pos hk, hd]
        refine ⟨List.pairwise_append.2 ⟨h1, by simp, fun a ha b hb => ?_⟩, fun x => by rw [List.mem_append, List.mem_append, h2]⟩
        simp only [List.mem_singleton] at hb
        subst hb
        have ha' := (h2 a).1 ha
        obtain ⟨i, hi, rfl⟩ := List.mem_iff_getElem.1 ha'
        rw [List.length_take] at hi
        rw [List.getElem_take]
        simp only [Go.Lib.keeps, decide_eq_true_eq] at hk
        rcases hk with hk | hk
        · omega
        · have hm1 : l.toArray[m - 1]! = l[m - 1] := by simp [show m - 1 < l.length by omega]
          rw [hd, hm1] at hk
          have e1 : l[m - 1] ≤ l[m] := List.pairwise_iff_getElem.1 hs (m - 1) m (by omega) hlt (by omega)
          have e2 : l[i] ≤ l[m - 1] := by
            rcases Nat.lt_or_ge i (m - 1) with c | c
            · exact List.pairwise_iff_getElem.1 hs i (m - 1) (by omega) (by omega) c
            · have : i = m - 1 := by omega
              subst this; exact Int.le_refl _
          omega
      · rw [if_neg hk, List.append_nil]
        refine ⟨h1, fun x => ?_⟩
        rw [h2, List.mem_append]
        refine ⟨.inl, fun h => ?_⟩
        rcases h with h | h
        · exact h
        · simp only [List.mem_singleton] at h
          subst h
          have hm0 : m ≠ 0 := fun e => hk (by simp [Go.Lib.keeps, e])
          have hm1 : l.toArray[m - 1]! = l[m - 1] := by simp [show m - 1 < l.length by omega]
          have he : l[m] = l[m - 1] := by
            simp only [Go.Lib.keeps, decide_eq_true_eq, not_or] at hk
            have h3 : l.toArray[m]! = l.toArray[m - 1]! := Classical.not_not.1 (fun h => hk.2 h)
            rw [hd, hm1] at h3; exact h3
          rw [he, List.mem_take_iff_getElem]
          exact ⟨m - 1, by omega, rfl⟩
  obtain ⟨h1, h2⟩ := key l.length (Nat.le_refl _)
  refine ⟨?_, fun x => ?_⟩
  · simpa [compactL, Go.Lib.compact] using h1
  · have := h2 x
    rw [List.take_length] at this
    simpa [compactL, Go.Lib.compact] using this
theorem srt_spec (l : List Int) : (srt l).Pairwise (· ≤ ·) ∧ ∀ x, x ∈ srt l ↔ x ∈ l := by
  refine ⟨?_, fun x => by simp [srt]⟩
  have := List.pairwise_mergeSort (le := fun x y : Int => decide (x ≤ y)) (fun a b c h1 h2 => by simp at h1 h2 ⊢; omega) (fun a b => by simp; omega) l
  refine this.imp fun h => by simpa using h
theorem sortL_eq {l : List Int} (h : l.length < 4611686018427387904) : sortL l = some (srt l) := by rw [sortL, if_pos h]
theorem update_inc {s add del : List Int} (hd : Inc del) (hl : del.length ≤ 500000) (h1 : s.length ≤ 500000) (h2 : add.length ≤ 500000) :
    ∃ r, strips_Update s add del = some r ∧ Inc r ∧ ∀ x, x ∈ r ↔ (x ∈ s ∧ x ∉ del) ∨ x ∈ add := by
  unfold strips_Update
  rw [forR_filter (l := s) (b := 8) (fun a => a ∉ del) (fun j a c h => by
    obtain ⟨i, hi⟩ := bsearch2 hd hl a
    unfold strips_Update_l1
    rw [h]
    simp only [Option.bind_some, hi, dec_not]
    refine ⟨fun hq => ?_, fun hq => ?_⟩
    · rw [if_pos (dec_of hq)]
      cases app 8 c [a] <;> rfl
    · rw [if_neg (by simpa using hq)]; rfl) [] (by simp; omega)]
  simp only [Option.bind_some, List.nil_append]
  have hle : (s.filter fun a => dec (a ∉ del)).length ≤ s.length := List.length_filter_le _ _
  rw [show app 8 (s.filter fun a => dec (a ∉ del)) add = some ((s.filter fun a => dec (a ∉ del)) ++ add) by rw [app, if_pos]; omega]
  simp only [Option.bind_some]
  rw [sortL_eq (by rw [List.length_append]; omega)]
  simp only [Option.bind_some]
  obtain ⟨e1, e2⟩ := srt_spec ((s.filter fun a => dec (a ∉ del)) ++ add)
  obtain ⟨e3, e4⟩ := compact_spec e1
  refine ⟨_, rfl, e3, fun x => ?_⟩
  rw [e4, e2, List.mem_append, List.mem_filter, dec_true]
theorem update_eq {s add del : List Int} {n : Int} (hn : n ≤ 1000) (hd : Inc del) (hl : del.length ≤ 500000) (hs : SetN s n) (ha : SetN add n) :
    strips_Update s add del = some (setOf (fun x => (x ∈ s ∧ x ∉ del) ∨ x ∈ add) n) := by
  have h1 := hs.len; have h2 := ha.len
  obtain ⟨r, e1, e2, e3⟩ := update_inc (s := s) (add := add) hd hl (by omega) (by omega)
  rw [e1, SetN.eq_of (n := n) ⟨e2, fun x hx => ?_⟩ (fun x _ _ => e3 x)]
  rcases (e3 x).1 hx with h | h
  · exact hs.2 x h.1
  · exact ha.2 x h
end Ab
end
section
namespace Ab
open Go
def opSets (o : TOperator) (n : Int) : Prop := SetN o.pre n ∧ SetN o.add n ∧ SetN o.del n ∧ ∀ x ∈ o.add, x ∉ o.del
def opCost (o : TOperator) : Prop := 0 ≤ o.cost ∧ o.cost ≤ 100
noncomputable def opCode (o : TOperator) (n : Int) : Int := if dec (opSets o n) = true then if dec (opCost o) = true then 0 else 3 else 5
structure TaskOk (t : TTask) : Prop where
  n0 : 0 ≤ t.facts
  n1 : t.facts ≤ 24
  init : SetN t.init t.facts
  goal : SetN t.goal t.facts
  ops : t.operators.length ≤ 40
  op : ∀ o ∈ t.operators, opSets o t.facts ∧ opCost o
def PlanOk (t : TTask) (plan : List Int) : Prop := plan.length ≤ 60 ∧ ∀ x ∈ plan, 0 ≤ x ∧ x < t.operators.length
theorem opCode_zero {o : TOperator} {n : Int} : opCode o n = 0 ↔ opSets o n ∧ opCost o := by
  unfold opCode
  by_cases h : opSets o n
  · rw [if_pos (dec_of h)]
    by_cases g : opCost o
    · rw [if_pos (dec_of g)]; simp [h, g]
    · rw [if_neg (by rw [dec_no g]; simp)]; simp [g]
  · rw [if_neg (by rw [dec_no h]; simp)]; simp [h]
theorem operator_eq {o : TOperator} {n : Int} (h0 : 0 ≤ n) (h1 : n ≤ 24) : strips_operator o n = some (opCode o n) := by
  unfold strips_operator opCode
  simp only [isSet_eq, Option.bind_some, dec_not]
  have bad : ¬ opSets o n → dec (opSets o n) = true → False := fun h g => h (dec_true.1 g)
  by_cases c1 : SetN o.pre n
  · rw [if_neg (by simpa using c1)]
    by_cases c2 : SetN o.add n
    · rw [if_neg (by simpa using c2)]
      by_cases c3 : SetN o.del n
      · rw [if_neg (by simpa using c3)]
        have hl := c3.len
        rw [meets_eq c3.1 (by omega)]
        simp only [Option.bind_some]
        by_cases c4 : ∃ x ∈ o.add, x ∈ o.del
        · rw [if_pos (dec_of c4), if_neg]
          rw [dec_true]
          obtain ⟨x, g1, g2⟩ := c4
          exact fun h => h.2.2.2 x g1 g2
        · have hs : opSets o n := ⟨c1, c2, c3, fun x g1 g2 => c4 ⟨x, g1, g2⟩⟩
          rw [if_neg (by rw [dec_no c4]; simp), if_pos (dec_of hs)]
          by_cases c5 : opCost o
          · rw [if_pos (dec_of c5), if_neg]
            have := c5.1; have := c5.2
            simp; omega
          · rw [if_neg (fun h => c5 (dec_true.1 h)), if_pos]
            unfold opCost at c5
            simp; omega
      · rw [if_pos (by simpa using c3)]
        simp only [Option.bind_some, if_true]
        rw [if_neg fun h => c3 (dec_true.1 h).2.2.1]
    · rw [if_pos (by simpa using c2)]
      simp only [Option.bind_some, if_true]
      rw [if_neg fun h => c2 (dec_true.1 h).2.1]
  · rw [if_pos (by simpa using c1)]
    simp only [Option.bind_some, if_true]
    rw [if_neg fun h => c1 (dec_true.1 h).1]
theorem validate_eq (t : TTask) : ∃ f, strips_Validate t = some f ∧ ref1_TaskFault t = some f ∧ ((f = ⟨0, 0⟩ ∧ TaskOk t) ∨ (f.code ≠ 0 ∧ ¬ TaskOk t)) := by
  unfold strips_Validate ref1_TaskFault
  simp only [in_eq, at_eq, Option.bind_some, dec_not]
  by_cases c1 : 0 ≤ t.facts ∧ t.facts ≤ 24
  · rw [if_neg (by simp; omega), ifNN c1]
    simp only [isSet_eq, rIsSet_eq (n := t.facts) _ (by omega) (by omega), Option.bind_some, dec_not]
    by_cases c2 : SetN t.init t.facts
    · rw [ifNN c2, ifNN c2]
      by_cases c3 : SetN t.goal t.facts
      · rw [ifNN c3, ifNN c3]
        by_cases c4 : 40 < (t.operators.length : Int)
        · rw [if_pos c4, if_pos c4]
          exact ⟨_, rfl, rfl, .inr ⟨by simp, fun h => by have := h.ops; omega⟩⟩
        · rw [if_neg c4, if_neg c4]
          have hb : ∀ j : Int, 0 ≤ j → j < t.operators.length → ∃ o, ix t.operators j = some o ∧ strips_Validate_l1 t j () = some (if opCode o t.facts = 0 then .inl () else .inr ⟨opCode o t.facts, j⟩) ∧ ref1_TaskFault_l1 t j () = some (if opCode o t.facts = 0 then .inl () else .inr ⟨opCode o t.facts, j⟩) := fun j h0 h1 => by
            obtain ⟨o, ho, _⟩ := ix_of (l := t.operators) h0 h1
            refine ⟨o, ho, ?_, ?_⟩
            · unfold strips_Validate_l1
              rw [ho]
              simp only [Option.bind_some, operator_eq c1.1 c1.2]
              by_cases e : opCode o t.facts = 0
              · rw [if_pos e, if_pos e]
              · rw [if_neg e, if_neg e]
            · unfold ref1_TaskFault_l1
              rw [ho]
              simp only [Option.bind_some, rIsSet_eq (n := t.facts) _ (show -9223372036854775808 < t.facts by omega) (show t.facts ≤ 9223372036854775807 by omega), disjoint_eq, in_eq, at_eq, dec_not]
              have hp : (if dec (¬ SetN o.pre t.facts) = true then some true else if dec (¬ SetN o.add t.facts) = true then some true else if dec (¬ SetN o.del t.facts) = true then some true else some (dec (¬ ∀ x ∈ o.add, x ∉ o.del))) = some (dec (¬ opSets o t.facts)) := by
                unfold opSets
                by_cases g1 : SetN o.pre t.facts
                · rw [if_neg (by simpa using g1)]
                  by_cases g2 : SetN o.add t.facts
                  · rw [if_neg (by simpa using g2)]
                    by_cases g3 : SetN o.del t.facts
                    · rw [if_neg (by simpa using g3)]
                      exact congrArg some (dec_congr ⟨fun h g => h g.2.2.2, fun h g => h ⟨g1, g2, g3, g⟩⟩)
                    · rw [if_pos (by simpa using g3), dec_of (fun g => g3 g.2.2.1)]
                  · rw [if_pos (by simpa using g2), dec_of (fun g => g2 g.2.1)]
                · rw [if_pos (by simpa using g1), dec_of (fun g => g1 g.1)]
              rw [hp]
              simp only [Option.bind_some]
              unfold opCode
              by_cases g1 : opSets o t.facts
              · rw [if_neg (by simpa using g1), if_pos (dec_of g1)]
                by_cases g2 : opCost o
                · rw [ifP g2, ifNN (p := 0 ≤ o.cost ∧ o.cost ≤ 100) g2]; rfl
                · rw [ifN g2, ifP (p := ¬ (0 ≤ o.cost ∧ o.cost ≤ 100)) g2]; rfl
              · rw [if_pos (dec_of g1), if_neg (fun h => g1 (dec_true.1 h))]; rfl
          have heq : rngX 0 (t.operators.length : Int) (strips_Validate_l1 t) () = rngX 0 (t.operators.length : Int) (ref1_TaskFault_l1 t) () :=
            (rngX_eq (fun _ _ => True) (by omega) trivial (fun j s h0 h1 _ => by
              obtain ⟨o, _, e1, e2⟩ := hb j h0 h1
              exact ⟨by rw [e1, e2], by rw [e1]; simp, fun _ _ => trivial⟩)).1
          rcases rngX_test (body := ref1_TaskFault_l1 t) (n := (t.operators.length : Int)) (fun j => match ix t.operators j with | some o => if opCode o t.facts = 0 then none else some (⟨opCode o t.facts, j⟩ : TFault) | none => none) (by omega) (fun j h0 h1 _ => by
            obtain ⟨o, e0, _, e2⟩ := hb j h0 h1
            rw [e2, e0]
            dsimp only
            split <;> rfl) with ⟨h1, h2⟩ | ⟨j, f, h0, h1, h2, _, h4⟩
          · rw [heq, h1]
            refine ⟨⟨0, 0⟩, rfl, rfl, .inl ⟨rfl, c1.1, c1.2, c2, c3, by omega, fun o ho => ?_⟩⟩
            obtain ⟨j, g0, g1, g2⟩ := mem_ix ho
            have := h2 j g0 g1
            rw [g2] at this
            dsimp only at this
            split at this
            · rename_i e; exact opCode_zero.1 e
            · cases this
          · rw [heq, h4]
            obtain ⟨o, e0, _, _⟩ := hb j h0 h1
            rw [e0] at h2
            dsimp only at h2
            split at h2
            · cases h2
            · rename_i e
              cases h2
              exact ⟨_, rfl, rfl, .inr ⟨e, fun h => e (opCode_zero.2 (h.op o (ix_mem e0)))⟩⟩
      · rw [ifP c3, ifP c3]
        exact ⟨_, rfl, rfl, .inr ⟨by simp, fun h => c3 h.goal⟩⟩
    · rw [ifP c2, ifP c2]
      exact ⟨_, rfl, rfl, .inr ⟨by simp, fun h => c2 h.init⟩⟩
  · rw [if_pos (by simp; omega), if_pos (dec_of c1)]
    exact ⟨_, rfl, rfl, .inr ⟨by simp, fun h => c1 ⟨h.n0, h.n1⟩⟩⟩
theorem fault_no {f : TFault} (h : f.code ≠ 0) : (!((decide (f.code = 0)) && (decide (f.index = 0)))) = true := by simp [h]
theorem steps_eq {n : Int} (h0 : 0 ≤ n) (h1 : n ≤ 9223372036854775807) (plan : List Int) : ∃ f, strips_Steps n plan = some f ∧ ref1_StepsFault n plan = some f ∧ ((f = ⟨0, 0⟩ ∧ plan.length ≤ 60 ∧ ∀ x ∈ plan, 0 ≤ x ∧ x < n) ∨ (f.code ≠ 0 ∧ ¬ (plan.length ≤ 60 ∧ ∀ x ∈ plan, 0 ≤ x ∧ x < n))) := by
  unfold strips_Steps ref1_StepsFault
  by_cases c : 60 < (plan.length : Int)
  · rw [if_pos c, if_pos c]
    exact ⟨⟨2, -5⟩, rfl, rfl, .inr ⟨by simp, fun h => by omega⟩⟩
  · rw [if_neg c, if_neg c]
    rw [rng_list (l := plan) (fun x => 0 ≤ x ∧ x < n) (⟨3, -6⟩ : TFault) (fun j a h => by
      unfold strips_Steps_l1
      rw [h]
      simp only [Option.bind_some]
      by_cases g : 0 ≤ a ∧ a < n
      · rw [if_neg (by simp; omega)]; exact .inl ⟨g, rfl⟩
      · rw [if_pos (by simp; omega)]; exact .inr ⟨g, rfl⟩)]
    rw [rng_list (l := plan) (fun x => 0 ≤ x ∧ x < n) (⟨3, -6⟩ : TFault) (fun j a h => by
      unfold ref1_StepsFault_l1
      rw [h]
      simp only [Option.bind_some, in_eq, at_eq, w64_of (n := n - 1) (by omega) (by omega), dec_not]
      by_cases g : 0 ≤ a ∧ a < n
      · rw [if_neg (by simp; omega)]; exact .inl ⟨g, rfl⟩
      · rw [if_pos (by rw [dec_true]; omega)]; exact .inr ⟨g, rfl⟩)]
    by_cases g : ∀ x ∈ plan, 0 ≤ x ∧ x < n
    · rw [if_pos (dec_of g)]
      exact ⟨_, rfl, rfl, .inl ⟨rfl, by omega, g⟩⟩
    · rw [if_neg (fun h => g (dec_true.1 h))]
      exact ⟨_, rfl, rfl, .inr ⟨by simp, fun h => g h.2⟩⟩
theorem planFault_eq (t : TTask) (plan : List Int) : ∃ f, strips_PlanFault t plan = some f ∧ ref1_PlanFault t plan = some f ∧ ((f = ⟨0, 0⟩ ∧ TaskOk t ∧ PlanOk t plan) ∨ (f.code ≠ 0 ∧ ¬ (TaskOk t ∧ PlanOk t plan))) := by
  obtain ⟨f, h1, h2, h3⟩ := validate_eq t
  unfold strips_PlanFault ref1_PlanFault
  rw [h1, h2]
  simp only [Option.bind_some]
  rcases h3 with ⟨rfl, ht⟩ | ⟨hc, ht⟩
  · obtain ⟨g, g1, g2, g3⟩ := steps_eq (n := (t.operators.length : Int)) (by omega) (by have := ht.ops; omega) plan
    rw [if_neg (by simp), if_pos rfl, g1, g2]
    refine ⟨g, rfl, rfl, ?_⟩
    rcases g3 with ⟨e, k⟩ | ⟨e, k⟩
    · exact .inl ⟨e, ht, k⟩
    · exact .inr ⟨e, fun h => k h.2⟩
  · rw [if_pos (fault_no hc), if_neg hc]
    exact ⟨f, rfl, rfl, .inr ⟨hc, fun h => ht h.1⟩⟩
/-! ### What operators and plans do -/
def noOp : TOperator := ⟨[], [], [], 0⟩
def opAt (t : TTask) (op : Int) : TOperator := (t.operators[op.toNat]?).getD noOp
theorem ix_op {t : TTask} {op : Int} (h0 : 0 ≤ op) (h1 : op < t.operators.length) : ix t.operators op = some (opAt t op) := by
  obtain ⟨a, h2, h3⟩ := ix_of h0 h1
  rw [h2, opAt, h3]; rfl
theorem TaskOk.at {t : TTask} (h : TaskOk t) {op : Int} (h0 : 0 ≤ op) (h1 : op < t.operators.length) : opSets (opAt t op) t.facts ∧ opCost (opAt t op) := h.op _ (ix_mem (ix_op h0 h1))
def can (t : TTask) (s : List Int) (op : Int) : Prop := ∀ x ∈ (opAt t op).pre, x ∈ s
noncomputable def aft (t : TTask) (s : List Int) (op : Int) : List Int := setOf (fun x => x ∈ (opAt t op).add ∨ x ∈ s ∧ x ∉ (opAt t op).del) t.facts
theorem setN_aft (t : TTask) (s : List Int) (op : Int) : SetN (aft t s op) t.facts := setN_setOf _ _
theorem can_eq {t : TTask} (ht : TaskOk t) {op : Int} (h0 : 0 ≤ op) (h1 : op < t.operators.length) {s : List Int} (hs : SetN s t.facts) : strips_Can t s op = some (dec (can t s op)) := by
  have := ht.n1; have := hs.len
  unfold strips_Can
  rw [ix_op h0 h1]
  simp only [Option.bind_some]
  rw [contains_eq hs.1 (ht.at h0 h1).1.1.1 (by omega)]
  rfl
theorem next_eq {t : TTask} (ht : TaskOk t) {op : Int} (h0 : 0 ≤ op) (h1 : op < t.operators.length) {s : List Int} (hs : SetN s t.facts) : strips_Next t s op = some (aft t s op) := by
  have := ht.n1
  obtain ⟨⟨_, k2, k3, _⟩, _⟩ := ht.at h0 h1
  have hl := k3.len
  unfold strips_Next
  rw [ix_op h0 h1]
  simp only [Option.bind_some]
  rw [update_eq (n := t.facts) (by omega) k3.1 (by omega) hs k2]
  simp only [Option.bind_some, aft]
  exact congrArg some (setOf_congr fun x _ _ => Or.comm)
/-- The state in which a plan ends, if its steps are applicable. -/
noncomputable def ends (t : TTask) : List Int → List Int → Option (List Int)
  | s, [] => some s
  | s, op :: r => if dec (can t s op) = true then ends t (aft t s op) r else none
theorem ends_setN {t : TTask} : ∀ {plan s e : List Int}, SetN s t.facts → ends t s plan = some e → SetN e t.facts
  | [], s, e, hs, h => by cases h; exact hs
  | op :: r, s, e, hs, h => by
    simp only [ends] at h
    split at h
    · exact ends_setN (setN_aft t s op) h
    · cases h
theorem ends_append {t : TTask} : ∀ {p q s : List Int}, ends t s (p ++ q) = (ends t s p).bind fun e => ends t e q
  | [], q, s => rfl
  | op :: r, q, s => by
    simp only [List.cons_append, ends]
    split
    · exact ends_append
    · rfl
/-- The plan leads to a goal state. -/
def works (t : TTask) (s plan : List Int) : Prop := ∃ e, ends t s plan = some e ∧ ∀ x ∈ t.goal, x ∈ e
theorem clone_eq {s : List Int} (h : s.length ≤ 1000000) : slices_Clone_int_int s = some s := by
  rw [slices_Clone_int_int, app, if_pos (by simp; omega)]; rfl
/-- The states that a plan reaches. -/
noncomputable def run (t : TTask) : List Int → List Int → List (List Int)
  | s, [] => [s]
  | s, op :: r => s :: if dec (can t s op) = true then run t (aft t s op) r else []
theorem run_ends {t : TTask} : ∀ {plan s : List Int}, (ends t s plan = none → (run t s plan).length ≠ plan.length + 1) ∧ ∀ e, ends t s plan = some e → (run t s plan).length = plan.length + 1 ∧ (run t s plan)[plan.length]? = some e
  | [], s => ⟨fun h => by simp [ends] at h, fun e h => by cases h; simp [run]⟩
  | op :: r, s => by
    obtain ⟨h1, h2⟩ := run_ends (t := t) (plan := r) (s := aft t s op)
    simp only [ends, run, List.length_cons]
    by_cases c : can t s op
    · rw [ifP c, ifP c]
      exact ⟨fun h => by have := h1 h; omega, fun e h => by obtain ⟨g1, g2⟩ := h2 e h; exact ⟨by omega, by simpa using g2⟩⟩
    · rw [ifN c, ifN c]
      exact ⟨fun _ => by simp, fun e h => by cases h⟩
theorem run_eq {t : TTask} (ht : TaskOk t) {plan : List Int} (hp : PlanOk t plan) {s : List Int} (hs : SetN s t.facts) : strips_Run t s plan = some (run t s plan) := by
  have hl := hp.1
  have hsl := hs.len
  have hn := ht.n1
  unfold strips_Run
  rw [clone_eq (by omega)]
  simp only [Option.bind_some]
  obtain ⟨o, h1, h2⟩ := Loop_inv (body := strips_Run_l1 t plan) (fun p => 0 ≤ p.2.2 ∧ p.2.2 ≤ plan.length ∧ SetN p.2.1 t.facts ∧ p.1.length = p.2.2.toNat + 1 ∧ ∃ pre, p.1 = pre ++ [p.2.1] ∧ run t s plan = pre ++ run t p.2.1 (plan.drop p.2.2.toNat))
    (fun o => o = run t s plan) (fun p => (plan.length - p.2.2).toNat) (s := ([s], s, 0)) ⟨by simp, by simp, hs, by simp, [], rfl, by simp⟩ (fun ⟨c, s', j⟩ ⟨g0, g1, g2, g3, pre, g4, g5⟩ => by
      dsimp only at g0 g1 g2 g3 g4 g5 ⊢
      unfold strips_Run_l1
      dsimp only
      by_cases cj : j < plan.length
      · obtain ⟨op, hop, gop⟩ := ix_of (l := plan) g0 cj
        have hm := hp.2 op (ix_mem hop)
        have hd : plan.drop j.toNat = op :: plan.drop (j.toNat + 1) := by
          obtain ⟨hlt, rfl⟩ := List.getElem?_eq_some_iff.1 gop
          exact List.drop_eq_getElem_cons hlt
        rw [hd] at g5
        rw [if_pos cj, hop]
        simp only [Option.bind_some, can_eq ht hm.1 hm.2 g2, dec_not, next_eq ht hm.1 hm.2 g2]
        by_cases cc : can t s' op
        · rw [ifNN cc, app, if_pos (by simp; omega)]
          simp only [Option.bind_some]
          rw [w64_of (by omega) (by omega)]
          refine .inl ⟨_, rfl, ⟨by dsimp only; omega, by dsimp only; omega, setN_aft _ _ _, by simp; omega, c, rfl, ?_⟩, by dsimp only; omega⟩
          dsimp only
          rw [g5, run, ifP cc, g4, show (j + 1).toNat = j.toNat + 1 by omega]
          simp
        · rw [ifP cc]
          refine .inr ⟨_, rfl, ?_⟩
          rw [g5, run, ifN cc, g4]
      · rw [if_neg cj]
        refine .inr ⟨_, rfl, ?_⟩
        rw [g5, List.drop_of_length_le (by omega), run, g4])
  rw [h1, h2]; rfl
theorem sWorks_eq {t : TTask} (ht : TaskOk t) {plan : List Int} (hp : PlanOk t plan) {s : List Int} (hs : SetN s t.facts) : strips_Works t s plan = some (dec (works t s plan)) := by
  have hl := hp.1
  have hn := ht.n1
  unfold strips_Works
  rw [run_eq ht hp hs, w64_of (by omega) (by omega)]
  simp only [Option.bind_some]
  obtain ⟨h1, h2⟩ := run_ends (t := t) (plan := plan) (s := s)
  cases h : ends t s plan with
  | none =>
    rw [if_neg (by have := h1 h; omega)]
    simp only [Option.bind_some]
    rw [dec_no]
    rintro ⟨e, g, _⟩
    rw [h] at g; cases g
  | some e =>
    obtain ⟨g1, g2⟩ := h2 e h
    have he := ends_setN hs h
    have hel := he.len
    rw [if_pos (by omega)]
    simp only [ix_nat, g2, Option.bind_some]
    rw [contains_eq he.1 ht.goal.1 (by omega)]
    simp only [Option.bind_some]
    exact congrArg some (dec_congr ⟨fun g => ⟨e, h, g⟩, fun ⟨e', k1, k2⟩ => by rw [h] at k1; cases k1; exact k2⟩)
theorem solves_eq (t : TTask) (plan : List Int) : ∃ b f, strips_Solves t plan = some (b, f) ∧ ref1_PlanFault t plan = some f ∧ ((f = ⟨0, 0⟩ ∧ TaskOk t ∧ PlanOk t plan ∧ b = dec (works t t.init plan)) ∨ (f.code ≠ 0 ∧ ¬ (TaskOk t ∧ PlanOk t plan) ∧ b = false)) := by
  obtain ⟨f, h1, h2, h3⟩ := planFault_eq t plan
  unfold strips_Solves
  rw [h1, h2]
  simp only [Option.bind_some]
  rcases h3 with ⟨rfl, ht, hp⟩ | ⟨hc, hn⟩
  · rw [if_neg (by simp), sWorks_eq ht hp ht.init]
    exact ⟨_, _, rfl, rfl, .inl ⟨rfl, ht, hp, rfl⟩⟩
  · rw [if_pos (fault_no hc)]
    exact ⟨_, _, rfl, rfl, .inr ⟨hc, hn, rfl⟩⟩
end Ab
end
section
namespace Ab
open Go
theorem numbers_eq (a b : List Int) : equal_Numbers a b = some (dec (a = b)) := by
  unfold equal_Numbers
  by_cases hl : (a.length : Int) = b.length
  · rw [if_pos hl]
    rcases rngX_test (body := equal_Numbers_l1 a b) (n := (a.length : Int)) (fun j => if dec (ix a j = ix b j) = true then none else some false) (by omega) (fun j h0 h1 _ => by
      obtain ⟨x, hx, _⟩ := ix_of (l := a) h0 h1
      obtain ⟨y, hy, _⟩ := ix_of (l := b) (i := j) h0 (by omega)
      unfold equal_Numbers_l1
      rw [hx, hy]
      simp only [Option.bind_some]
      by_cases e : x = y
      · rw [if_pos e, ifP (by rw [e])]
      · rw [if_neg e, ifN (by simpa using e)]) with ⟨h1, h2⟩ | ⟨j, o, h0, h1, h2, _, h4⟩
    · rw [h1, dec_of]
      · rfl
      · refine List.ext_getElem? fun k => ?_
        by_cases hk : k < a.length
        · have := h2 k (by omega) (by omega)
          split at this
          · rename_i e
            have := dec_true.1 e
            rwa [ix_nat, ix_nat] at this
          · cases this
        · rw [List.getElem?_eq_none (by omega), List.getElem?_eq_none (by omega)]
    · rw [h4]
      split at h2
      · cases h2
      · rename_i e
        cases h2
        rw [dec_no (fun h => e (dec_of (by rw [h])))]; rfl
  · rw [if_neg hl, dec_no (fun h => hl (by rw [h]))]
theorem setN1 (a : Int) {n : Int} (h0 : 0 ≤ a) (h1 : a < n) : SetN [a] n := ⟨by simp, by simp [h0, h1]⟩
def stepT : TTask := ⟨2, [0], [1], [⟨[0], [1], [0], 1⟩, ⟨[], [1], [], 3⟩]⟩
theorem step_ok : TaskOk stepT where
  n0 := by decide
  n1 := by decide
  init := setN1 0 (by decide) (by decide)
  goal := setN1 1 (by decide) (by decide)
  ops := by decide
  op o ho := by
    simp only [stepT, List.mem_cons, List.not_mem_nil, or_false] at ho
    rcases ho with rfl | rfl
    · exact ⟨⟨setN1 0 (by decide) (by decide), setN1 1 (by decide) (by decide), setN1 0 (by decide) (by decide), by simp⟩, by decide, by decide⟩
    · exact ⟨⟨setN_nil _, setN1 1 (by decide) (by decide), setN_nil _, by simp⟩, by decide, by decide⟩
end Ab
end
section
namespace Ab
open Go
/-- Lexicographic order. -/
def llt : List Int → List Int → Prop
  | [], [] => False
  | [], _ :: _ => True
  | _ :: _, [] => False
  | a :: l, b :: m => a < b ∨ a = b ∧ llt l m
theorem llt_irrefl : ∀ l : List Int, ¬ llt l l
  | [] => id
  | a :: l => fun h => by
    rcases h with h | ⟨_, h⟩
    · omega
    · exact llt_irrefl l h
theorem llt_trans : ∀ {a b c : List Int}, llt a b → llt b c → llt a c
  | [], [], _, h, _ => h.elim
  | [], _ :: _, [], _, h => h.elim
  | [], _ :: _, _ :: _, _, _ => trivial
  | _ :: _, [], _, h, _ => h.elim
  | _ :: _, _ :: _, [], _, h => h.elim
  | x :: a, y :: b, z :: c, h, g => by
    rcases h with h | ⟨rfl, h⟩ <;> rcases g with g | ⟨rfl, g⟩
    · exact .inl (by omega)
    · exact .inl h
    · exact .inl g
    · exact .inr ⟨rfl, llt_trans h g⟩
theorem llt_total : ∀ a b : List Int, llt a b ∨ a = b ∨ llt b a
  | [], [] => .inr (.inl rfl)
  | [], _ :: _ => .inl trivial
  | _ :: _, [] => .inr (.inr trivial)
  | x :: a, y :: b => by
    rcases Int.lt_trichotomy x y with h | rfl | h
    · exact .inl (.inl h)
    · rcases llt_total a b with h | rfl | h
      · exact .inl (.inr ⟨rfl, h⟩)
      · exact .inr (.inl rfl)
      · exact .inr (.inr (.inr ⟨rfl, h⟩))
    · exact .inr (.inr (.inl h))
theorem llt_asymm {a b : List Int} (h : llt a b) (g : llt b a) : False := llt_irrefl a (llt_trans h g)
/-- What Compare tells. -/
noncomputable def cmpL (a b : List Int) : Int := if dec (llt a b) = true then -1 else if dec (a = b) = true then 0 else 1
theorem cmpL_lt {a b : List Int} : cmpL a b < 0 ↔ llt a b := by
  unfold cmpL
  by_cases h : llt a b
  · rw [ifP h]; simp [h]
  · rw [ifN h]
    split <;> simp [h]
theorem cmpL_eq {a b : List Int} : cmpL a b = 0 ↔ a = b := by
  unfold cmpL
  by_cases h : llt a b
  · rw [ifP h]
    constructor
    · intro e; omega
    · rintro rfl; exact absurd h (llt_irrefl _)
  · rw [ifN h]
    by_cases g : a = b
    · rw [ifP g]; simp [g]
    · rw [ifN g]; simp [g]
theorem cmpInt_eq (x y : Int) : cmp_Compare_int x y = some (if x < y then -1 else if y < x then 1 else 0) := by
  unfold cmp_Compare_int cmp_isNaN_int
  simp only [decide_true, Bool.not_true, Option.bind_some, Bool.false_eq_true, if_false]
  split
  · rfl
  · split <;> rfl
theorem llt_drop : ∀ {a b : List Int} (k : Nat), k ≤ a.length → k ≤ b.length → a.take k = b.take k → (llt a b ↔ llt (a.drop k) (b.drop k))
  | _, _, 0, _, _, _ => by simp
  | [], _, k + 1, h, _, _ => by simp at h
  | _ :: _, [], k + 1, _, h, _ => by simp at h
  | x :: a, y :: b, k + 1, h1, h2, h3 => by
    simp only [List.take_succ_cons, List.cons.injEq] at h3
    obtain ⟨rfl, h3⟩ := h3
    simp only [List.drop_succ_cons]
    rw [← llt_drop k (by simpa using h1) (by simpa using h2) h3]
    simp [llt]
theorem compare_eq (a b : List Int) : slices_Compare_int_int a b = some (cmpL a b) := by
  unfold slices_Compare_int_int
  rcases rngX_inv (body := slices_Compare_int_int_l1 a b) (n := (a.length : Int)) (s := ()) (fun j _ => j ≤ b.length ∧ a.take j.toNat = b.take j.toNat) (fun o => o = cmpL a b) (by omega) ⟨by omega, by simp⟩ (fun j _ j0 j1 ⟨k1, k2⟩ => by
    obtain ⟨x, hx, gx⟩ := ix_of (l := a) j0 j1
    have hxl := (List.getElem?_eq_some_iff.1 gx).2
    unfold slices_Compare_int_int_l1
    rw [hx]
    simp only [Option.bind_some]
    have hd := llt_drop (a := a) (b := b) j.toNat (by omega) (by omega) k2
    have da : a.drop j.toNat = x :: a.drop (j.toNat + 1) := by rw [← hxl]; exact List.drop_eq_getElem_cons (by omega)
    by_cases c : (b.length : Int) ≤ j
    · rw [if_pos c]
      refine .inr ⟨_, rfl, ?_⟩
      have db : b.drop j.toNat = [] := List.drop_of_length_le (by omega)
      rw [da, db] at hd
      unfold cmpL
      rw [ifN (fun h => (hd.1 h).elim), ifN]
      rintro rfl; omega
    · rw [if_neg c]
      obtain ⟨y, hy, gy⟩ := ix_of (l := b) (i := j) j0 (by omega)
      have hyl := (List.getElem?_eq_some_iff.1 gy).2
      have db : b.drop j.toNat = y :: b.drop (j.toNat + 1) := by rw [← hyl]; exact List.drop_eq_getElem_cons (by omega)
      rw [hy]
      simp only [Option.bind_some, cmpInt_eq]
      rw [da, db] at hd
      have hne : x ≠ y → a ≠ b := fun h e => by subst e; rw [hx] at hy; cases hy; exact h rfl
      rcases Int.lt_trichotomy x y with h | rfl | h
      · rw [if_pos h, if_neg (by decide)]
        refine .inr ⟨_, rfl, ?_⟩
        unfold cmpL
        rw [ifP (hd.2 (.inl h))]
      · simp only [Int.lt_irrefl, if_false, if_true]
        refine .inl ⟨(), trivial, by omega, ?_⟩
        rw [show (j + 1).toNat = j.toNat + 1 by omega, List.take_add_one, List.take_add_one, gx, gy, k2]
      · rw [if_neg (show ¬ x < y by omega), if_pos h, if_neg (by decide)]
        refine .inr ⟨_, rfl, ?_⟩
        unfold cmpL
        rw [ifN, ifN (hne (by omega))]
        intro g
        rcases hd.1 g with g | ⟨g, _⟩ <;> omega) with ⟨_, r1, r2, r3⟩ | ⟨o, r1, rfl⟩
  · rw [r1]
    simp only [Option.bind_some]
    have hd := llt_drop (a := a) (b := b) a.length (Nat.le_refl _) (by omega) (by simpa using r3)
    have da : a.drop a.length = [] := by simp
    rw [da] at hd
    have e3 : a = b.take a.length := by simpa using r3
    by_cases c : (a.length : Int) < b.length
    · rw [if_pos c]
      have : b.drop a.length ≠ [] := by simp; omega
      unfold cmpL
      rw [ifP]
      rw [hd]
      cases h : b.drop a.length with
      | nil => exact absurd h this
      | cons x l => trivial
    · rw [if_neg c]
      have : a = b := by rw [e3, List.take_of_length_le (by omega)]
      rw [cmpL_eq.2 this]
  · rw [r1]; rfl
theorem cmp_ok : CmpOk slices_Compare_int_int cmpL := by
  refine ⟨compare_eq, ⟨fun x => ?_, fun x y z h1 h2 => ?_, fun x y z h1 h2 => ?_⟩, fun a b h1 h2 => ?_⟩
  · simp only [Go.Proofs.ltOf, decide_eq_false_iff_not, cmpL_lt]
    exact llt_irrefl x
  · simp only [Go.Proofs.ltOf, decide_eq_true_eq, cmpL_lt] at h1 h2 ⊢
    exact llt_trans h1 h2
  · simp only [Go.Proofs.ltOf, decide_eq_false_iff_not, cmpL_lt] at h1 h2 ⊢
    intro h
    rcases llt_total x y with g | rfl | g
    · exact h1 g
    · exact h2 h
    · exact h2 (llt_trans g h)
  · rw [cmpL_lt] at h1 h2
    rcases llt_total a b with g | g | g
    · exact absurd g h1
    · exact g
    · exact absurd g h2
/-! ### Lists compared -/
/-- Two lists compared element by element. -/
theorem listEq {α : Type} {a b : List α} {body : Int → Unit → Option (Unit ⊕ Bool)} (hl : a.length = b.length) (hb : ∀ j x y, ix a j = some x → ix b j = some y → (x = y ∧ body j () = some (.inl ())) ∨ (x ≠ y ∧ body j () = some (.inr false))) :
    (Option.bind (rngX 0 (a.length : Int) body ()) fun | .inl _ => some true | .inr x => some x) = some (dec (a = b)) := by
  rcases rngX_test (body := body) (n := (a.length : Int)) (fun j => if dec (ix a j = ix b j) = true then none else some false) (by omega) (fun j h0 h1 _ => by
    obtain ⟨x, hx, _⟩ := ix_of (l := a) h0 h1
    obtain ⟨y, hy, _⟩ := ix_of (l := b) (i := j) h0 (by omega)
    rcases hb j x y hx hy with ⟨e, h⟩ | ⟨e, h⟩
    · rw [h, ifP (by rw [hx, hy, e])]
    · rw [h, ifN (by rw [hx, hy]; simpa using e)]) with ⟨h1, h2⟩ | ⟨j, o, h0, h1, h2, _, h4⟩
  · rw [h1, dec_of]
    · rfl
    · refine List.ext_getElem? fun k => ?_
      by_cases hk : k < a.length
      · have := h2 k (by omega) (by omega)
        split at this
        · rename_i e
          have := dec_true.1 e
          rwa [ix_nat, ix_nat] at this
        · cases this
      · rw [List.getElem?_eq_none (by omega), List.getElem?_eq_none (by omega)]
  · rw [h4]
    split at h2
    · cases h2
    · rename_i e
      cases h2
      rw [dec_no (fun h => e (dec_of (by rw [h])))]; rfl
theorem equal_eq (a b : List Int) : slices_Equal_int_int a b = some (dec (a = b)) := by
  unfold slices_Equal_int_int
  by_cases hl : (a.length : Int) = b.length
  · rw [if_pos hl]
    refine listEq (by omega) fun j x y hx hy => ?_
    unfold slices_Equal_int_int_l1
    simp only [hx, hy, Option.bind_some]
    by_cases e : x = y
    · rw [if_pos e]; exact .inl ⟨e, rfl⟩
    · rw [if_neg e]; exact .inr ⟨e, rfl⟩
  · rw [if_neg hl, dec_no (fun h => hl (by rw [h]))]
/-! ### Ordered lists -/
abbrev Ord (l : List (List Int)) : Prop := l.Pairwise llt
theorem Ord.ext : ∀ {l m : List (List Int)}, Ord l → Ord m → (∀ x, x ∈ l ↔ x ∈ m) → l = m
  | [], [], _, _, _ => rfl
  | [], b :: m, _, _, h => absurd ((h b).2 (by simp)) (by simp)
  | a :: l, [], _, _, h => absurd ((h a).1 (by simp)) (by simp)
  | a :: l, b :: m, hl, hm, h => by
    obtain ⟨l1, l2⟩ := List.pairwise_cons.1 hl
    obtain ⟨m1, m2⟩ := List.pairwise_cons.1 hm
    have hab : a = b := by
      rcases List.mem_cons.1 ((h a).1 (by simp)) with e | e
      · exact e
      · rcases List.mem_cons.1 ((h b).2 (by simp)) with e' | e'
        · exact e'.symm
        · exact (llt_asymm (l1 b e') (m1 a e)).elim
    subst hab
    rw [Ord.ext l2 m2 fun x => ⟨fun hx => ?_, fun hx => ?_⟩]
    · rcases List.mem_cons.1 ((h x).1 (by simp [hx])) with e | e
      · subst e; exact absurd (l1 x hx) (llt_irrefl x)
      · exact e
    · rcases List.mem_cons.1 ((h x).2 (by simp [hx])) with e | e
      · subst e; exact absurd (m1 x hx) (llt_irrefl x)
      · exact e
/-- Equal neighbours made one: what is kept of the first m elements. -/
def ddN (l : List (List Int)) : Nat → List (List Int)
  | 0 => []
  | m + 1 => ddN l m ++ if decide (m = 0 ∨ l[m]? ≠ l[m - 1]?) = true then l[m]?.toList else []
theorem ddN_spec {l : List (List Int)} (hs : l.Pairwise fun a b => ¬ llt b a) : ∀ m, m ≤ l.length → Ord (ddN l m) ∧ ∀ x, x ∈ ddN l m ↔ x ∈ l.take m := by
  intro m
  induction m with
  | zero => intro _; simp [ddN]
  | succ m ih =>
    intro hm
    obtain ⟨h1, h2⟩ := ih (by omega)
    have hlt : m < l.length := by omega
    have ht : l.take (m + 1) = l.take m ++ [l[m]] := by rw [List.take_add_one]; simp [hlt]
    rw [ddN, ht]
    by_cases hk : m = 0 ∨ l[m]? ≠ l[m - 1]?
    · rw [if_pos (by simpa using hk)]
      simp only [List.getElem?_eq_getElem hlt, Option.toList_some]
      refine ⟨List.pairwise_append.2 ⟨h1, by simp, fun a ha b hb => ?_⟩, fun x => by rw [List.mem_append, List.mem_append, h2]⟩
      simp only [List.mem_singleton] at hb
      subst hb
      have ha' := (h2 a).1 ha
      obtain ⟨i, hi, rfl⟩ := List.mem_iff_getElem.1 ha'
      rw [List.length_take] at hi
      rw [List.getElem_take]
      rcases hk with hk | hk
      · omega
      · have hm1 : m - 1 < l.length := by omega
        rw [List.getElem?_eq_getElem hlt, List.getElem?_eq_getElem hm1] at hk
        have e1 : ¬ llt l[m] l[m - 1] := List.pairwise_iff_getElem.1 hs (m - 1) m hm1 hlt (by omega)
        have e2 : llt l[m - 1] l[m] := by
          rcases llt_total l[m - 1] l[m] with h | h | h
          · exact h
          · exact absurd (by rw [h]) hk
          · exact absurd h e1
        by_cases hi2 : i = m - 1
        · subst hi2; exact e2
        · have e3 : ¬ llt l[m - 1] l[i] := List.pairwise_iff_getElem.1 hs i (m - 1) (by omega) hm1 (by omega)
          rcases llt_total l[i] l[m] with h | h | h
          · exact h
          · rw [h] at e3; exact absurd e2 e3
          · exact absurd (llt_trans e2 h) e3
    · rw [if_neg (by simpa using hk), List.append_nil]
      refine ⟨h1, fun x => ?_⟩
      rw [h2, List.mem_append]
      refine ⟨.inl, fun h => ?_⟩
      rcases h with h | h
      · exact h
      · simp only [List.mem_singleton] at h
        subst h
        have hm0 : m ≠ 0 := fun e => hk (.inl e)
        have he : l[m]? = l[m - 1]? := Classical.not_not.1 fun e => hk (.inr e)
        rw [List.getElem?_eq_getElem hlt, List.getElem?_eq_getElem (show m - 1 < l.length by omega)] at he
        rw [Option.some.inj he, List.mem_take_iff_getElem]
        exact ⟨m - 1, by omega, rfl⟩
theorem ddN_len (l : List (List Int)) : ∀ m, (ddN l m).length ≤ m
  | 0 => by simp [ddN]
  | m + 1 => by
    have := ddN_len l m
    rw [ddN, List.length_append]
    split
    · have : (l[m]?.toList).length ≤ 1 := by cases l[m]? <;> simp
      omega
    · simp; omega
theorem ddN_all {l : List (List Int)} : ∀ m, m ≤ l.length → (∀ i, 0 < i → i < m → l[i]? ≠ l[i - 1]?) → ddN l m = l.take m
  | 0, _, _ => by simp [ddN]
  | m + 1, hm, h => by
    rw [ddN, ddN_all m (by omega) fun i h0 h1 => h i h0 (by omega), if_pos, List.take_add_one]
    rw [decide_eq_true_eq]
    by_cases e : m = 0
    · exact .inl e
    · exact .inr (h m (by omega) (by omega))
theorem compactF_eq {l : List (List Int)} (hl : l.length ≤ 1000000) : slices_CompactFunc_int_int_w l = some (ddN l l.length) := by
  unfold slices_CompactFunc_int_int_w
  by_cases c0 : (l.length : Int) < 2
  · rw [if_pos c0, ddN_all l.length (Nat.le_refl _) fun i h0 h1 => by omega, List.take_length]
  · rw [if_neg c0]
    have key := rngN_inv (body := slices_CompactFunc_int_int_w_l1 l) (fun j _ => ∀ i : Nat, 0 < i → (i : Int) < j → l[i]? ≠ l[i - 1]?) (fun o => o = ddN l l.length) ((l.length : Int) - 1).toNat 1 () (fun i h0 h1 => by omega) (fun j _ j0 j1 hP => by
      obtain ⟨a, ha, ga⟩ := ix_of (l := l) (i := j) (by omega) (by omega)
      obtain ⟨b, hb, gb⟩ := ix_of (l := l) (i := j - 1) (by omega) (by omega)
      unfold slices_CompactFunc_int_int_w_l1
      simp only [ha, hb, Option.bind_some, equal_eq]
      have ej : (j - 1).toNat = j.toNat - 1 := by omega
      rw [ej] at gb
      by_cases c : a = b
      · rw [ifP c]
        subst c
        right
        rw [show cutV (l.length : Int) j (l.length : Int) = some () by rw [cutV, if_pos (by omega)]]
        simp only [Option.bind_some]
        obtain ⟨⟨cs, kv⟩, r1, r2, r3, r4, r5, r6⟩ := forN_inv (body := slices_CompactFunc_int_int_w_l2 l j) (fun k2 p => p.1.length = l.length ∧ j ≤ p.2 ∧ p.2 ≤ j + k2 - 1 ∧ p.1.take p.2.toNat = ddN l (j + k2).toNat ∧ ∀ i : Nat, j + k2 - 1 ≤ i → p.1[i]? = l[i]?) ((l.length : Int) - j - 1).toNat 1 (l, j) ⟨rfl, by simp, by dsimp only; omega, by
            dsimp only
            rw [show (j + 1).toNat = j.toNat + 1 by omega, ddN, if_neg, List.append_nil, ddN_all j.toNat (by omega) fun i h0 h1 => hP i h0 (by omega)]
            rw [decide_eq_true_eq]
            rintro (h | h)
            · omega
            · exact h (ga.trans gb.symm), fun i _ => rfl⟩ (fun k2 ⟨cs, kv⟩ k0 k1 ⟨g1, g2, g3, g4, g5⟩ => by
            dsimp only at g1 g2 g3 g4 g5 ⊢
            obtain ⟨x, hx, gx⟩ := ix_of (l := l) (i := j + k2) (by omega) (by omega)
            obtain ⟨y, hy, gy⟩ := ix_of (l := l) (i := j + k2 - 1) (by omega) (by omega)
            have iv : ∀ i : Int, 0 ≤ i → i < (l.length : Int) - j → ixV cs (0 + j) ((l.length : Int) - j) i = ix cs (j + i) := fun i h0 h1 => by
              rw [ixV, if_pos (by omega), Int.zero_add]
            have same : ∀ i : Int, j + k2 - 1 ≤ i → ix cs i = ix l i := fun i hi => by
              have := g5 i.toNat (by omega)
              simp only [ix]
              rw [this]
            unfold slices_CompactFunc_int_int_w_l2
            dsimp only
            rw [iv k2 (by omega) (by omega), iv (k2 - 1) (by omega) (by omega), show j + (k2 - 1) = j + k2 - 1 by omega, same _ (by omega), same _ (by omega), hx, hy]
            simp only [Option.bind_some, equal_eq, dec_not]
            have ek : (j + (k2 + 1)).toNat = (j + k2).toNat + 1 := by omega
            have ek1 : (j + k2 - 1).toNat = (j + k2).toNat - 1 := by omega
            rw [ek1] at gy
            by_cases cx : x = y
            · rw [ifNN cx]
              refine ⟨_, rfl, g1, g2, by omega, ?_, fun i hi => g5 i (by omega)⟩
              dsimp only
              rw [ek, ddN, if_neg, List.append_nil]
              · exact g4
              · rw [decide_eq_true_eq]
                rintro (h | h)
                · omega
                · exact h (by rw [gx, gy, cx])
            · rw [ifP cx]
              obtain ⟨z, hz, gz⟩ := ix_of (l := cs) (i := kv) (by omega) (by omega)
              simp only [hz, Option.bind_some]
              rw [w64_of (by omega) (by omega)]
              refine ⟨_, rfl, by rw [List.length_set]; exact g1, by omega, by omega, ?_, fun i hi => ?_⟩
              · dsimp only
                rw [ek, ddN, if_pos, gx, show (kv + 1).toNat = kv.toNat + 1 by omega, List.take_add_one, List.getElem?_set, if_pos rfl, if_pos (by omega), List.take_set_of_le (Nat.le_refl _), g4]
                rw [decide_eq_true_eq]
                exact .inr (by rw [gx, gy]; simpa using cx)
              · dsimp only
                rw [List.getElem?_set, if_neg (by omega)]
                exact g5 i (by omega))
        have ef : forR 1 ((l.length : Int) - j) (slices_CompactFunc_int_int_w_l2 l j) (l, j) = some (cs, kv) := r1
        dsimp only at r2 r3 r4 r5 r6
        rw [ef]
        simp only [Option.bind_some]
        have hcl : (clrL cs (0 + kv) ((cs.length : Int) - kv) []).length = cs.length := by simp [clrL]; omega
        rw [show cutV (cs.length : Int) kv (cs.length : Int) = some () by rw [cutV, if_pos (by omega)]]
        simp only [Option.bind_some, hcl]
        rw [show cutV (cs.length : Int) 0 kv = some () by rw [cutV, if_pos (by omega)]]
        refine ⟨_, rfl, ?_⟩
        have e1 : viewL (clrL cs (0 + kv) ((cs.length : Int) - kv) []) 0 kv = cs.take kv.toNat := by
          simp only [viewL, clrL, Int.zero_add, Int.toNat_zero, List.drop_zero]
          rw [List.append_assoc, List.take_append_of_le_length (by simp; omega), List.take_take, Nat.min_self]
        rw [e1, r5]
        congr 1
        omega
      · rw [ifN c]
        left
        refine ⟨(), rfl, fun i h0 h1 => ?_⟩
        by_cases e : (i : Int) = j
        · have : i = j.toNat := by omega
          subst this
          rw [ga, gb]
          simpa using c
        · exact hP i h0 (by omega))
    rcases key with ⟨_, h1, h2⟩ | ⟨o, h1, rfl⟩
    · have : rngX 1 (l.length : Int) (slices_CompactFunc_int_int_w_l1 l) () = some (.inl ()) := h1
      rw [this]
      simp only [Option.bind_some]
      rw [ddN_all l.length (Nat.le_refl _) fun i h0 h1 => h2 i h0 (by omega), List.take_length]
    · have : rngX 1 (l.length : Int) (slices_CompactFunc_int_int_w_l1 l) () = some (.inr (ddN l l.length)) := h1
      rw [this]; rfl
theorem normal_eq {l : List (List Int)} (hl : l.length ≤ 1000000) : ∃ r, belief_Normal_w l = some r ∧ Ord r ∧ (∀ x, x ∈ r ↔ x ∈ l) ∧ r.length ≤ l.length := by
  unfold belief_Normal_w
  rw [sortFL_eq (by omega) cmp_ok]
  simp only [Option.bind_some]
  have hlen : (l.mergeSort fun x y => decide (¬ cmpL y x < 0)).length = l.length := by simp
  rw [compactF_eq (by rw [hlen]; exact hl)]
  have hs : (l.mergeSort fun x y => decide (¬ cmpL y x < 0)).Pairwise fun a b => ¬ llt b a := by
    have := List.pairwise_mergeSort (le := fun x y : List Int => decide (¬ cmpL y x < 0)) (fun a b c h1 h2 => by
      simp only [decide_eq_true_eq, cmpL_lt] at h1 h2 ⊢
      intro h
      rcases llt_total b a with g | g | g
      · exact h1 g
      · subst g; exact h2 h
      · exact h2 (llt_trans h g)) (fun a b => by
      simp only [Bool.or_eq_true, decide_eq_true_eq, cmpL_lt]
      by_cases h : llt b a
      · exact .inr fun g => llt_asymm h g
      · exact .inl h) l
    exact this.imp fun h => by simpa [cmpL_lt] using h
  obtain ⟨h1, h2⟩ := ddN_spec hs _ (Nat.le_refl _)
  refine ⟨_, rfl, h1, fun x => ?_, ?_⟩
  · rw [h2, List.take_length]; simp
  · have := ddN_len (l.mergeSort fun x y => decide (¬ cmpL y x < 0)) (l.mergeSort fun x y => decide (¬ cmpL y x < 0)).length
    rw [hlen] at this
    rw [hlen]; exact this
end Ab
end
section
namespace Ab
open Go
/-- b is made of a by n insertions and removals. -/
inductive Ed : Nat → List Int → List Int → Prop
  | nil : Ed 0 [] []
  | keep {n : Nat} {x : Int} {a b : List Int} (h : Ed n a b) : Ed n (x :: a) (x :: b)
  | del {n : Nat} {x : Int} {a b : List Int} (h : Ed n a b) : Ed (n + 1) (x :: a) b
  | ins {n : Nat} {y : Int} {a b : List Int} (h : Ed n a b) : Ed (n + 1) a (y :: b)
theorem Ed.symm {n : Nat} {a b : List Int} (h : Ed n a b) : Ed n b a := by
  induction h with
  | nil => exact .nil
  | keep _ ih => exact .keep ih
  | del _ ih => exact .ins ih
  | ins _ ih => exact .del ih
theorem Ed.refl : ∀ a : List Int, Ed 0 a a
  | [] => .nil
  | _ :: a => .keep (Ed.refl a)
theorem Ed.eq {n : Nat} {a b : List Int} (h : Ed n a b) : n = 0 → a = b := by
  induction h with
  | nil => intro _; rfl
  | keep _ ih => intro h; rw [ih h]
  | del => intro h; omega
  | ins => intro h; omega
theorem Ed.trans {n m : Nat} {a b c : List Int} (h : Ed n a b) (k : Ed m b c) : ∃ q, q ≤ n + m ∧ Ed q a c := by
  induction h generalizing m c with
  | nil => exact ⟨m, by omega, k⟩
  | @keep n x a b h ih =>
    generalize hb : x :: b = b' at k
    induction k with
    | nil => cases hb
    | keep k _ =>
      cases hb
      obtain ⟨q, h1, h2⟩ := ih k
      exact ⟨q, h1, .keep h2⟩
    | del k _ =>
      cases hb
      obtain ⟨q, h1, h2⟩ := ih k
      exact ⟨q + 1, by omega, .del h2⟩
    | ins k ihk =>
      obtain ⟨q, h1, h2⟩ := ihk hb
      exact ⟨q + 1, by omega, .ins h2⟩
  | del h ih =>
    obtain ⟨q, h1, h2⟩ := ih k
    exact ⟨q + 1, by omega, .del h2⟩
  | @ins n y a b h ih =>
    generalize hb : y :: b = b' at k
    induction k with
    | nil => cases hb
    | keep k _ =>
      cases hb
      obtain ⟨q, h1, h2⟩ := ih k
      exact ⟨q + 1, by omega, .ins h2⟩
    | del k _ =>
      cases hb
      obtain ⟨q, h1, h2⟩ := ih k
      exact ⟨q, by omega, h2⟩
    | ins k ihk =>
      obtain ⟨q, h1, h2⟩ := ihk hb
      exact ⟨q + 1, by omega, .ins h2⟩
theorem Ed.keepR {n : Nat} {a b : List Int} (x : Int) (h : Ed n a b) : Ed n (a ++ [x]) (b ++ [x]) := by
  induction h with
  | nil => exact .keep .nil
  | keep _ ih => exact .keep ih
  | del _ ih => exact .del ih
  | ins _ ih => exact .ins ih
theorem Ed.delR {n : Nat} {a b : List Int} (x : Int) (h : Ed n a b) : Ed (n + 1) (a ++ [x]) b := by
  induction h with
  | nil => exact .del .nil
  | keep _ ih => exact .keep ih
  | del _ ih => exact .del ih
  | ins _ ih => exact .ins ih
theorem Ed.insR {n : Nat} {a b : List Int} (x : Int) (h : Ed n a b) : Ed (n + 1) a (b ++ [x]) := by
  induction h with
  | nil => exact .ins .nil
  | keep _ ih => exact .keep ih
  | del _ ih => exact .del ih
  | ins _ ih => exact .ins ih
theorem Ed.rev {n : Nat} {a b : List Int} (h : Ed n a b) : Ed n a.reverse b.reverse := by
  induction h with
  | nil => exact .nil
  | keep _ ih => simpa using ih.keepR _
  | del _ ih => simpa using ih.delR _
  | ins _ ih => simpa using ih.insR _
def dmG (x : Int) (f : List Int → Nat) (n : Nat) : List Int → Nat
  | [] => n
  | y :: b => if x = y then min (min (f (y :: b)) (dmG x f n b) + 1) (f b) else min (f (y :: b)) (dmG x f n b) + 1
/-- The smallest number of changes. -/
def dm : List Int → List Int → Nat
  | [], b => b.length
  | x :: a, b => dmG x (dm a) (a.length + 1) b
theorem dm_nil : ∀ a : List Int, dm a [] = a.length
  | [] => rfl
  | _ :: _ => rfl
theorem dm_cons (x y : Int) (a b : List Int) : dm (x :: a) (y :: b) = if x = y then min (min (dm a (y :: b)) (dm (x :: a) b) + 1) (dm a b) else min (dm a (y :: b)) (dm (x :: a) b) + 1 := rfl
theorem Ed.all : ∀ b : List Int, Ed b.length [] b
  | [] => .nil
  | _ :: b => .ins (Ed.all b)
theorem Ed.none : ∀ b : List Int, Ed b.length b []
  | [] => .nil
  | _ :: b => .del (Ed.none b)
theorem dm_ed : ∀ a b : List Int, Ed (dm a b) a b
  | [], b => Ed.all b
  | x :: a, [] => Ed.none (x :: a)
  | x :: a, y :: b => by
    have h1 := (dm_ed a (y :: b)).del (x := x)
    have h2 := (dm_ed (x :: a) b).ins (y := y)
    have h3 := dm_ed a b
    rw [dm_cons]
    have hmin : Ed (min (dm a (y :: b)) (dm (x :: a) b) + 1) (x :: a) (y :: b) := by
      rcases Nat.le_total (dm a (y :: b)) (dm (x :: a) b) with h | h
      · rw [Nat.min_eq_left h]; exact h1
      · rw [Nat.min_eq_right h]; exact h2
    by_cases hxy : x = y
    · subst hxy
      rw [if_pos rfl]
      rcases Nat.le_total (min (dm a (x :: b)) (dm (x :: a) b) + 1) (dm a b) with h | h
      · rw [Nat.min_eq_left h]; exact hmin
      · rw [Nat.min_eq_right h]; exact .keep h3
    · rw [if_neg hxy]; exact hmin
termination_by a b => a.length + b.length
theorem dm_le {n : Nat} {a b : List Int} (h : Ed n a b) : dm a b ≤ n := by
  induction h with
  | nil => exact Nat.le_refl _
  | keep _ ih => rw [dm_cons, if_pos rfl]; omega
  | @del n x a b h ih =>
    cases b with
    | nil => rw [dm_nil] at ih ⊢; simp; omega
    | cons y b =>
      rw [dm_cons]
      split <;> omega
  | @ins n y a b h ih =>
    cases a with
    | nil => simp only [dm, List.length_cons] at ih ⊢; omega
    | cons x a =>
      rw [dm_cons]
      split <;> omega
theorem dm_len (a b : List Int) : dm a b ≤ a.length + b.length := by
  have h : Ed (b.length + a.length) a b := by
    induction a with
    | nil => exact Ed.all b
    | cons x a ih => exact .del ih
  have := dm_le h
  omega
theorem dm_rev (a b : List Int) : dm a.reverse b.reverse = dm a b := by
  have h1 := dm_le (dm_ed a b).rev
  have h2 := dm_le (dm_ed a.reverse b.reverse).rev
  simp only [List.reverse_reverse] at h2
  omega
/-! ### Distance -/
/-- A row of numbers. -/
def RowIs (m : Nat) (f : Nat → Nat) (row : List Int) : Prop := row.length = m + 1 ∧ ∀ k, k ≤ m → row[k]? = some (f k : Int)
theorem RowIs.ix {m : Nat} {f : Nat → Nat} {row : List Int} (h : RowIs m f row) {k : Nat} (hk : k ≤ m) : ix row (k : Int) = some (f k : Int) := by rw [ix_nat]; exact h.2 k hk
theorem RowIs.set {m : Nat} {f : Nat → Nat} {row : List Int} (h : RowIs m f row) (k v : Nat) : RowIs m (fun i => if i = k then v else f i) (row.set k (v : Int)) := by
  refine ⟨by rw [List.length_set]; exact h.1, fun i hi => ?_⟩
  rw [List.getElem?_set]
  by_cases e : k = i
  · subst e; simp [h.1]; omega
  · rw [if_neg e, h.2 i hi]; simp [show ¬ i = k from fun e' => e e'.symm]
theorem RowIs.congr {m : Nat} {f g : Nat → Nat} {row : List Int} (h : RowIs m f row) (hg : ∀ k, k ≤ m → f k = g k) : RowIs m g row := ⟨h.1, fun k hk => by rw [h.2 k hk, hg k hk]⟩
/-- The first k elements, the last of them first. -/
def rk (l : List Int) (k : Nat) : List Int := (l.take k).reverse
theorem rk_succ {l : List Int} {k : Nat} {x : Int} (h : l[k]? = some x) : rk l (k + 1) = x :: rk l k := by
  have hl := (List.getElem?_eq_some_iff.1 h)
  obtain ⟨hl, rfl⟩ := hl
  simp only [rk, List.take_succ_eq_append_getElem hl, List.reverse_append]
  rfl
theorem rk_len {l : List Int} {k : Nat} (h : k ≤ l.length) : (rk l k).length = k := by simp [rk]; omega
theorem rk_all (l : List Int) : rk l l.length = l.reverse := by simp [rk]
theorem distance_in {a b : List Int} (ha : a.length ≤ 60) (hb : b.length ≤ 60) {i : Nat} {x : Int} (hx : a[i]? = some x) {row : List Int} (h : RowIs b.length (fun k => dm (rk a i) (rk b k)) row) :
    ∃ row', repair_Distance_l2 a b (i : Int) row = some row' ∧ RowIs b.length (fun k => dm (rk a (i + 1)) (rk b k)) row' := by
  have hi := (List.getElem?_eq_some_iff.1 hx).1
  unfold repair_Distance_l2
  have e0 : ix row 0 = some (dm (rk a i) (rk b 0) : Int) := h.ix (k := 0) (Nat.zero_le _)
  have ex : ix a (i : Int) = some x := by rw [ix_nat]; exact hx
  have ra := rk_succ hx
  have b1 : ∀ (p q : Nat), p ≤ a.length → q ≤ b.length → dm (rk a p) (rk b q) ≤ 120 := fun p q hp hq => by
    have := dm_len (rk a p) (rk b q)
    rw [rk_len hp, rk_len hq] at this
    omega
  have d0 : dm (rk a (i + 1)) (rk b 0) = dm (rk a i) (rk b 0) + 1 := by
    have e : rk b 0 = [] := by simp [rk]
    rw [e, dm_nil, dm_nil, rk_len (by omega), rk_len (by omega)]
  simp only [ex, e0, Option.bind_some]
  rw [w64_of (by omega) (by have := b1 i 0 (by omega) (by omega); omega)]
  obtain ⟨⟨r', dg⟩, h1, h2⟩ := forR_inv (body := repair_Distance_l3 b x) (n := (b.length : Int)) (s := (row.set (0 : Int).toNat ((dm (rk a i) (rk b 0) : Nat) + 1 : Int), (dm (rk a i) (rk b 0) : Int)))
    (fun j s => ∃ jn : Nat, j = jn ∧ RowIs b.length (fun k => if k ≤ jn then dm (rk a (i + 1)) (rk b k) else dm (rk a i) (rk b k)) s.1 ∧ s.2 = (dm (rk a i) (rk b jn) : Int)) (by omega)
    ⟨0, rfl, (h.set 0 (dm (rk a i) (rk b 0) + 1)).congr (fun k hk => by
      by_cases e : k = 0
      · subst e; simp [d0]
      · rw [if_neg e, if_neg (by omega)]), rfl⟩
    (fun j s h0 hj hP => by
      obtain ⟨jn, rfl, hr, hd⟩ := hP
      obtain ⟨r, dg⟩ := s
      simp only at hr hd
      subst hd
      have hjn : jn < b.length := by omega
      obtain ⟨y, hy1, hy2⟩ := ix_of (l := b) (i := (jn : Int)) (by omega) (by omega)
      rw [Int.toNat_natCast] at hy2
      have rb := rk_succ hy2
      have q1 : ix r (jn : Int) = some (dm (rk a (i + 1)) (rk b jn) : Int) := by rw [hr.ix (by omega), if_pos (Nat.le_refl _)]
      have q2 : ix r ((jn : Int) + 1) = some (dm (rk a i) (rk b (jn + 1)) : Int) := by
        have := hr.ix (k := jn + 1) (by omega)
        rw [if_neg (by omega)] at this
        exact this
      have m1 := b1 (i + 1) jn (by omega) (by omega)
      have m2 := b1 i (jn + 1) (by omega) (by omega)
      have m3 := b1 i jn (by omega) (by omega)
      have dc := dm_cons x y (rk a i) (rk b jn)
      rw [← rb, ← ra] at dc
      refine ⟨(r.set (jn + 1) (dm (rk a (i + 1)) (rk b (jn + 1)) : Int), (dm (rk a i) (rk b (jn + 1)) : Int)), ?_, jn + 1, by omega, ?_, rfl⟩
      · unfold repair_Distance_l3
        simp only [hy1, q1, q2, Option.bind_some]
        rw [w64_of (by omega) (by omega)]
        rw [show (((jn : Int) + 1).toNat) = jn + 1 by omega]
        by_cases hxy : x = y
        · rw [if_pos hxy] at dc ⊢
          simp only [Option.bind_some]
          rw [show min (min (dm (rk a (i + 1)) (rk b jn) : Int) (dm (rk a i) (rk b (jn + 1)) : Int) + 1) (dm (rk a i) (rk b jn) : Int) = (dm (rk a (i + 1)) (rk b (jn + 1)) : Int) by rw [dc]; omega]
        · rw [if_neg hxy] at dc ⊢
          simp only [Option.bind_some]
          rw [show min (dm (rk a (i + 1)) (rk b jn) : Int) (dm (rk a i) (rk b (jn + 1)) : Int) + 1 = (dm (rk a (i + 1)) (rk b (jn + 1)) : Int) by rw [dc]; omega]
      · refine (hr.set (jn + 1) _).congr fun k hk => ?_
        by_cases e : k = jn + 1
        · subst e; simp
        · rw [if_neg e]
          by_cases e2 : k ≤ jn
          · rw [if_pos e2, if_pos (by omega)]
          · rw [if_neg e2, if_neg (by omega)])
  obtain ⟨jn, hjn, hr, hd⟩ := h2
  have hjn' : jn = b.length := by omega
  subst hjn'
  refine ⟨r', ?_, hr.congr fun k hk => by rw [if_pos hk]⟩
  rw [show (((dm (rk a i) (rk b 0) : Nat) : Int) + 1) = ((dm (rk a i) (rk b 0) : Nat) + 1 : Int) from rfl, h1]
  rfl
theorem distance_eq {a b : List Int} (ha : a.length ≤ 60) (hb : b.length ≤ 60) : repair_Distance a b = some ((dm a b : Int), ⟨0, 0⟩) := by
  unfold repair_Distance
  have c1 : ¬ (60 : Int) < a.length := by omega
  have c2 : ¬ (60 : Int) < b.length := by omega
  simp only [c1, c2, decide_false, Bool.or_self, if_false, Bool.false_eq_true]
  rw [w64_of (by omega) (by omega)]
  have hmk : mkL 8 ((b.length : Int) + 1) (0 : Int) = some (List.replicate (b.length + 1) 0) := by
    unfold mkL
    rw [if_pos ⟨by omega, by omega, by omega⟩]
    rw [show ((b.length : Int) + 1).toNat = b.length + 1 by omega]
  simp only [hmk, Option.bind_some, List.length_replicate]
  obtain ⟨row, h1, h2⟩ := forR_inv (body := repair_Distance_l1) (n := ((b.length + 1 : Nat) : Int)) (s := List.replicate (b.length + 1) (0 : Int))
    (fun j s => ∃ jn : Nat, j = jn ∧ s.length = b.length + 1 ∧ ∀ k, k < jn → s[k]? = some (k : Int)) (by omega) ⟨0, rfl, by simp, fun k hk => by omega⟩
    (fun j s h0 hj hP => by
      obtain ⟨jn, rfl, hl, hk⟩ := hP
      obtain ⟨y, hy1, hy2⟩ := ix_of (l := s) (i := (jn : Int)) (by omega) (by omega)
      refine ⟨s.set jn (jn : Int), ?_, jn + 1, by omega, by simpa using hl, fun k hk' => ?_⟩
      · unfold repair_Distance_l1
        simp only [hy1, Option.bind_some, Int.toNat_natCast]
      · rw [List.getElem?_set]
        by_cases e : jn = k
        · subst e; simp; omega
        · rw [if_neg e]; exact hk k (by omega))
  obtain ⟨jn, hjn, hl, hk⟩ := h2
  have hrow : RowIs b.length (fun k => dm (rk a 0) (rk b k)) row := ⟨hl, fun k hk' => by
    have e : rk a 0 = [] := by simp [rk]
    rw [hk k (by omega), e]
    simp only [dm, rk_len hk']⟩
  rw [h1]
  simp only [Option.bind_some]
  obtain ⟨row', g1, g2⟩ := forR_inv (body := repair_Distance_l2 a b) (n := (a.length : Int)) (s := row)
    (fun j s => ∃ jn : Nat, j = jn ∧ RowIs b.length (fun k => dm (rk a jn) (rk b k)) s) (by omega) ⟨0, rfl, hrow⟩
    (fun j s h0 hj hP => by
      obtain ⟨jn, rfl, hr⟩ := hP
      obtain ⟨x, hx1, hx2⟩ := ix_of (l := a) (i := (jn : Int)) (by omega) (by omega)
      rw [Int.toNat_natCast] at hx2
      obtain ⟨r', k1, k2⟩ := distance_in ha hb hx2 hr
      exact ⟨r', k1, jn + 1, by omega, k2⟩)
  obtain ⟨jn, hjn, hr⟩ := g2
  have e : jn = a.length := by omega
  subst e
  rw [g1]
  simp only [Option.bind_some]
  rw [hr.ix (Nat.le_refl _)]
  simp only [rk_all, dm_rev, Option.bind_some]
end Ab
end
section
namespace Ab
open Go
def lcG (x : Int) (f : List Int → Nat) : List Int → Nat
  | [] => 0
  | y :: b => if x = y then max (max (f (y :: b)) (lcG x f b)) (f b + 1) else max (f (y :: b)) (lcG x f b)
/-- The length of a longest common subsequence. -/
def lc : List Int → List Int → Nat
  | [], _ => 0
  | x :: a, b => lcG x (lc a) b
/-- The table, from row i on; row i from place j on. -/
structure Tab (a b : List Int) (i j : Nat) (t : List (List Int)) : Prop where
  len : t.length = a.length + 1
  row : ∀ k r, i ≤ k → t[k]? = some r → r.length = b.length + 1
  low : ∀ k r, i < k → t[k]? = some r → ∀ q, q ≤ b.length → r[q]? = some (lc (a.drop k) (b.drop q) : Int)
  cur : ∀ r, t[i]? = some r → ∀ q, j ≤ q → q ≤ b.length → r[q]? = some (lc (a.drop i) (b.drop q) : Int)
end Ab
end
section
namespace Ab
open Go
/-- A number under 100 in decimal digits. -/
def dg (x : Int) : List Int := if x < 10 then [48 + x] else [48 + x / 10, 48 + x % 10]
def encS (s : List Int) : List Int := s.flatMap (fun x => dg x ++ [44]) ++ [59]
def encK (l : List (List Int)) : List Int := l.flatMap encS
def small (s : List Int) : Prop := ∀ x ∈ s, 0 ≤ x ∧ x < 100
theorem dg_split {x y : Int} (hx : 0 ≤ x ∧ x < 100) (hy : 0 ≤ y ∧ y < 100) {r r' : List Int} (h : dg x ++ 44 :: r = dg y ++ 44 :: r') : x = y ∧ r = r' := by
  unfold dg at h
  split at h <;> split at h <;> simp only [List.cons_append, List.nil_append, List.cons.injEq] at h
  · exact ⟨by omega, h.2.2⟩
  · exfalso; omega
  · exfalso; omega
  · exact ⟨by omega, h.2.2.2⟩
theorem dg_head {x : Int} (hx : 0 ≤ x ∧ x < 100) : ∃ a l, dg x = a :: l ∧ 48 ≤ a ∧ a < 58 := by
  unfold dg
  split
  · exact ⟨_, _, rfl, by omega, by omega⟩
  · exact ⟨_, _, rfl, by omega, by omega⟩
theorem encS_cons (x : Int) (s : List Int) : encS (x :: s) = dg x ++ 44 :: encS s := by simp [encS]
theorem encS_inj : ∀ {s s' r r' : List Int}, small s → small s' → encS s ++ r = encS s' ++ r' → s = s' ∧ r = r'
  | [], [], r, r', _, _, h => by simp [encS] at h; exact ⟨rfl, h⟩
  | [], y :: s', r, r', _, h2, h => by
    obtain ⟨a, l, ha, h3, h4⟩ := dg_head (h2 y (by simp))
    rw [encS_cons, ha] at h
    simp only [encS, List.flatMap_nil, List.nil_append, List.cons_append, List.cons.injEq] at h
    omega
  | x :: s, [], r, r', h1, _, h => by
    obtain ⟨a, l, ha, h3, h4⟩ := dg_head (h1 x (by simp))
    rw [encS_cons, ha] at h
    simp only [encS, List.flatMap_nil, List.nil_append, List.cons_append, List.cons.injEq] at h
    omega
  | x :: s, y :: s', r, r', h1, h2, h => by
    rw [encS_cons, encS_cons, List.append_assoc, List.append_assoc, List.cons_append, List.cons_append] at h
    obtain ⟨rfl, g⟩ := dg_split (h1 x (by simp)) (h2 y (by simp)) h
    obtain ⟨e1, e2⟩ := encS_inj (s := s) (s' := s') (fun z hz => h1 z (List.mem_cons_of_mem _ hz)) (fun z hz => h2 z (List.mem_cons_of_mem _ hz)) g
    exact ⟨by rw [e1], e2⟩
theorem encK_inj : ∀ {l l' : List (List Int)}, (∀ s ∈ l, small s) → (∀ s ∈ l', small s) → encK l = encK l' → l = l'
  | [], [], _, _, _ => rfl
  | [], s :: l', _, _, h => by
    have h := congrArg List.length h
    simp only [encK, encS, List.flatMap_nil, List.flatMap_cons, List.length_append, List.length_nil, List.length_cons] at h
    omega
  | s :: l, [], _, _, h => by
    have h := congrArg List.length h
    simp only [encK, encS, List.flatMap_nil, List.flatMap_cons, List.length_append, List.length_nil, List.length_cons] at h
    omega
  | s :: l, s' :: l', h1, h2, h => by
    have h : encS s ++ encK l = encS s' ++ encK l' := h
    obtain ⟨e1, e2⟩ := encS_inj (h1 s (List.mem_cons_self ..)) (h2 s' (List.mem_cons_self ..)) h
    have e3 := encK_inj (l := l) (l' := l') (fun z hz => h1 z (List.mem_cons_of_mem _ hz)) (fun z hz => h2 z (List.mem_cons_of_mem _ hz)) e2
    rw [e1, e3]
theorem dg_byte {x : Int} (hx : 0 ≤ x ∧ x < 100) : ∀ a ∈ dg x, 0 ≤ a ∧ a < 256 := by
  intro a ha
  unfold dg at ha
  split at ha <;> simp at ha <;> omega
theorem encS_byte {s : List Int} (h : small s) : ∀ a ∈ encS s, 0 ≤ a ∧ a < 256 := by
  intro a ha
  simp only [encS, List.mem_append, List.mem_flatMap, List.mem_singleton] at ha
  rcases ha with ⟨x, hx, h1 | h1⟩ | h1
  · exact dg_byte (h x hx) a h1
  · omega
  · omega
theorem encK_byte {l : List (List Int)} (h : ∀ s ∈ l, small s) : ∀ a ∈ encK l, 0 ≤ a ∧ a < 256 := by
  intro a ha
  simp only [encK, List.mem_flatMap] at ha
  obtain ⟨s, hs, h1⟩ := ha
  exact encS_byte (h s hs) a h1
theorem strB_inj {l l' : List Int} (h1 : ∀ a ∈ l, 0 ≤ a ∧ a < 256) (h2 : ∀ a ∈ l', 0 ≤ a ∧ a < 256) (h : strB l = strB l') : l = l' := by
  have h3 : l.map (fun n => UInt8.ofNat n.toNat) = l'.map (fun n => UInt8.ofNat n.toNat) := by
    have := congrArg ByteArray.data h
    simpa [strB] using this
  have back : ∀ {m : List Int}, (∀ a ∈ m, 0 ≤ a ∧ a < 256) → (m.map (fun n => UInt8.ofNat n.toNat)).map (fun b => (b.toNat : Int)) = m := by
    intro m hm
    rw [List.map_map]
    conv => rhs; rw [← List.map_id m]
    apply List.map_congr_left
    intro a ha
    have := hm a ha
    simp only [Function.comp_apply, id_eq, UInt8.toNat_ofNat']
    omega
  rw [← back h1, ← back h2, h3]
/-- The key of a list of sets. -/
def keyK (l : List (List Int)) : ByteArray := strB (encK l)
theorem keyK_inj {l l' : List (List Int)} (h1 : ∀ s ∈ l, small s) (h2 : ∀ s ∈ l', small s) (h : keyK l = keyK l') : l = l' := encK_inj h1 h2 (strB_inj (encK_byte h1) (encK_byte h2) h)
/-! ### Maps -/
theorem mget_mset {K V : Type} [DecidableEq K] (k k' : K) (v : V) : ∀ m : List (K × V), mget (mset m k v) k' = if k' = k then some v else mget m k'
  | [] => by
    simp only [mset, mget]
  | p :: r => by
    simp only [mset]
    by_cases h : k = p.1
    · rw [if_pos h]
      simp only [mget]
      by_cases h2 : k' = k
      · rw [if_pos h2, if_pos h2]
      · rw [if_neg h2, if_neg h2, if_neg (by rw [← h]; exact h2)]
    · rw [if_neg h]
      simp only [mget]
      rw [mget_mset k k' v r]
      by_cases h2 : k' = p.1
      · rw [if_pos h2, if_pos h2, if_neg (fun e => h (e.symm.trans h2))]
      · rw [if_neg h2, if_neg h2]
end Ab
end
section
namespace Ab
open Go
/-- A list made by appending a piece for each element. -/
theorem forR_flatMap {α β : Type} {l : List α} {body : Int → List β → Option (List β)} (g : α → List β) (N : Nat) (c0 : List β)
    (hb : ∀ j a c, ix l j = some a → c.length + (g a).length ≤ N → body j c = some (c ++ g a)) (hN : c0.length + (l.flatMap g).length ≤ N) :
    forR 0 (l.length : Int) body c0 = some (c0 ++ l.flatMap g) := by
  obtain ⟨s', h1, h2⟩ := forR_inv (body := body) (n := (l.length : Int)) (s := c0) (fun j c => c = c0 ++ (l.take j.toNat).flatMap g) (by omega) (by simp) (fun j c h0 h1 hP => by
    obtain ⟨a, g1, g2⟩ := ix_of h0 h1
    have e : (j + 1).toNat = j.toNat + 1 := by omega
    have ht : l.take (j + 1).toNat = l.take j.toNat ++ [a] := by rw [e, List.take_add_one, g2]; rfl
    refine ⟨c ++ g a, hb j a c g1 ?_, ?_⟩
    · have hs : l = l.take j.toNat ++ [a] ++ l.drop (j + 1).toNat := by rw [← ht, List.take_append_drop]
      have hl : (l.flatMap g).length = ((l.take j.toNat).flatMap g).length + (g a).length + ((l.drop (j + 1).toNat).flatMap g).length := by
        conv => lhs; rw [hs]
        simp [List.flatMap_append]; omega
      rw [hP, List.length_append]; omega
    · rw [ht, List.flatMap_append, hP]; simp)
  rw [h1, h2]
  simp
theorem small_eq : ∀ n : Fin 100, (internal_strconv_small (n : Nat)).map strL = some (dg (n : Nat)) := by decide +kernel
theorem appendInt_eq {x : Int} (hx : 0 ≤ x ∧ x < 100) {l : List Int} (hl : l.length ≤ 1000000) : strconv_AppendInt_w1 x 10 l = some (l ++ dg x) := by
  have h := small_eq ⟨x.toNat, by omega⟩
  rw [show (((⟨x.toNat, by omega⟩ : Fin 100) : Nat) : Int) = x by simp; omega] at h
  obtain ⟨b, h1, h2⟩ := Option.map_eq_some_iff.1 h
  first
    | unfold strconv_AppendInt_w1 internal_strconv_AppendInt_w1 internal_strconv_AppendUint_w1
    | unfold strconv_AppendInt_w1 internal_strconv_AppendInt_w2 internal_strconv_AppendUint_w3
  rw [if_neg (by omega), IntKind.wrap_u64, Int.emod_eq_of_lt (by omega) (by omega)]
  simp only [Option.bind_some, if_true]
  rw [if_pos hx.2, w64_of (by omega) (by omega), h1]
  simp only [Option.bind_some, h2]
  have : (dg x).length ≤ 2 := by unfold dg; split <;> simp
  rw [app, if_pos (by omega)]
  rfl
theorem dg_len (x : Int) : (dg x).length ≤ 2 := by unfold dg; split <;> simp
theorem key_eq {l : List (List Int)} (hs : ∀ s ∈ l, small s) (hN : (encK l).length ≤ 900000) : belief_Key l = some (keyK l) := by
  unfold belief_Key
  rw [forR_flatMap encS 900000 [] (fun j s c hj hc => by
    unfold belief_Key_l1
    rw [hj]
    simp only [Option.bind_some]
    have hlen : (encS s).length = (s.flatMap fun x => dg x ++ [44]).length + 1 := by simp [encS]
    rw [forR_flatMap (fun x => dg x ++ [44]) 900000 c (fun i x c' hi hc' => by
      unfold belief_Key_l2
      rw [hi]
      simp only [List.length_append, List.length_singleton] at hc'
      simp only [Option.bind_some, appendInt_eq (hs s (ix_mem hj) x (ix_mem hi)) (l := c') (by omega)]
      rw [app, if_pos (by simp; omega)]
      simp) (by omega)]
    simp only [Option.bind_some]
    rw [app, if_pos (by rw [List.length_append]; simp only [List.length_singleton]; omega)]
    simp [encS]) (by simpa [encK] using hN)]
  rfl
theorem encS_len : ∀ s : List Int, (encS s).length ≤ 3 * s.length + 1
  | [] => by simp [encS]
  | x :: s => by
    have := encS_len s
    have := dg_len x
    rw [encS_cons]
    simp only [List.length_append, List.length_cons]
    omega
theorem key2_eq {s a : List Int} (hs : small s) (ha : small a) (h1 : s.length ≤ 1000) (h2 : a.length ≤ 1000) : belief_Key [s, a] = some (keyK [s, a]) := by
  refine key_eq (by simp [hs, ha]) ?_
  have := encS_len s; have := encS_len a
  simp only [encK, List.flatMap_cons, List.flatMap_nil, List.length_append, List.append_nil]
  omega
end Ab
end
section
namespace Ab
open Go
theorem nodup_len {α : Type} [DecidableEq α] : ∀ {c S : List α}, c.Nodup → (∀ x ∈ c, x ∈ S) → c.length ≤ S.length
  | [], _, _, _ => Nat.zero_le _
  | a :: c, S, h, hs => by
    obtain ⟨h1, h2⟩ := List.nodup_cons.1 h
    have ha := hs a (by simp)
    have := nodup_len (c := c) (S := S.erase a) h2 fun x hx => by
      have hne : x ≠ a := fun e => h1 (e ▸ hx)
      exact (List.mem_erase_of_ne hne).2 (hs x (List.mem_cons_of_mem _ hx))
    rw [List.length_erase_of_mem ha] at this
    have : 0 < S.length := List.length_pos_of_mem ha
    simp only [List.length_cons]
    omega
section
variable {α : Type}
/-- Surely over within k steps. -/
def Dn (G L : α → Prop) (nx : α → List α) : Nat → α → Prop
  | 0, s => G s
  | k + 1, s => G s ∨ (L s ∧ ∀ y ∈ nx s, Dn G L nx k y)
variable {G L : α → Prop} {nx : α → List α}
theorem Dn.goal {k : Nat} {s : α} (h : G s) : Dn G L nx k s := by
  cases k with
  | zero => exact h
  | succ k => exact .inl h
theorem Dn.succ : ∀ {k : Nat} {s : α}, Dn G L nx k s → Dn G L nx (k + 1) s
  | 0, s, h => .inl h
  | k + 1, s, h => by
    rcases h with h | ⟨h1, h2⟩
    · exact .inl h
    · exact .inr ⟨h1, fun y hy => (h2 y hy).succ⟩
theorem Dn.mono {k m : Nat} {s : α} (h : Dn G L nx k s) (hm : k ≤ m) : Dn G L nx m s := by
  induction hm with
  | refl => exact h
  | step _ ih => exact ih.succ
/-- The exact number of steps in the worst case. -/
def Ht (G L : α → Prop) (nx : α → List α) (k : Nat) (s : α) : Prop := Dn G L nx k s ∧ ∀ j, j < k → ¬ Dn G L nx j s
theorem Ht.unique {k m : Nat} {s : α} (h : Ht G L nx k s) (h' : Ht G L nx m s) : k = m := by
  rcases Nat.lt_trichotomy k m with c | c | c
  · exact absurd h.1 (h'.2 k c)
  · exact c
  · exact absurd h'.1 (h.2 m c)
theorem Ht.le {k m : Nat} {s : α} (h : Ht G L nx k s) (h' : Dn G L nx m s) : k ≤ m := by
  rcases Nat.lt_or_ge m k with c | c
  · exact absurd h' (h.2 m c)
  · exact c
theorem Ht.of_dn : ∀ {k : Nat} {s : α}, Dn G L nx k s → ∃ m, m ≤ k ∧ Ht G L nx m s
  | 0, s, h => ⟨0, Nat.le_refl _, h, fun j hj => by omega⟩
  | k + 1, s, h => by
    by_cases c : Dn G L nx k s
    · obtain ⟨m, h1, h2⟩ := Ht.of_dn c
      exact ⟨m, by omega, h2⟩
    · exact ⟨k + 1, Nat.le_refl _, h, fun j hj hd => c (hd.mono (by omega))⟩
theorem Ht.zero {s : α} (h : G s) : Ht G L nx 0 s := ⟨h, fun j hj => by omega⟩
theorem Ht.goal {k : Nat} {s : α} (h : Ht G L nx k s) (hg : G s) : k = 0 := h.unique (.zero hg)
/-- A state that is not over has a successor one step nearer, and none further. -/
theorem Ht.step {k : Nat} {s : α} (h : Ht G L nx k s) (hg : ¬ G s) (hne : ∀ s, L s → nx s ≠ []) : ∃ m, k = m + 1 ∧ L s ∧ (∀ y ∈ nx s, ∃ j, j ≤ m ∧ Ht G L nx j y) ∧ ∃ y ∈ nx s, Ht G L nx m y := by
  cases k with
  | zero => exact absurd h.1 hg
  | succ m =>
    rcases h.1 with g | ⟨h1, h2⟩
    · exact absurd g hg
    · refine ⟨m, rfl, h1, fun y hy => Ht.of_dn (h2 y hy), ?_⟩
      cases m with
      | zero =>
        obtain ⟨y, hy⟩ := List.exists_mem_of_ne_nil _ (hne s h1)
        exact ⟨y, hy, h2 y hy, fun j hj => by omega⟩
      | succ m =>
        have hn := h.2 (m + 1) (by omega)
        have : ∃ y ∈ nx s, ¬ Dn G L nx m y := Classical.byContradiction fun hc => hn (.inr ⟨h1, fun y hy => Classical.byContradiction fun hy2 => hc ⟨y, hy, hy2⟩⟩)
        obtain ⟨y, hy, hy2⟩ := this
        exact ⟨y, hy, h2 y hy, fun j hj hd => hy2 (hd.mono (by omega))⟩
end
end Ab
end
section
namespace Ab
open Go
/-! ### All sets -/
def allS : Nat → Int → List (List Int)
  | 0, _ => [[]]
  | n + 1, k => allS n (k + 1) ++ (allS n (k + 1)).map (k :: ·)
theorem mem_allS : ∀ {n : Nat} {k : Int} {l : List Int}, Inc l → (∀ x ∈ l, k ≤ x ∧ x < k + n) → l ∈ allS n k
  | 0, k, l, _, h => by
    cases l with
    | nil => simp [allS]
    | cons a l => have := h a (by simp); omega
  | n + 1, k, l, hi, h => by
    simp only [allS, List.mem_append, List.mem_map]
    cases l with
    | nil => exact .inl (mem_allS .nil (by simp))
    | cons a l =>
      have hi' := List.pairwise_cons.1 hi
      have ha := h a (by simp)
      by_cases e : a = k
      · subst e
        refine .inr ⟨l, mem_allS hi'.2 fun x hx => ?_, rfl⟩
        have := hi'.1 x hx
        have := h x (List.mem_cons_of_mem _ hx)
        omega
      · refine .inl (mem_allS hi fun x hx => ?_)
        have h2 := h x hx
        rcases List.mem_cons.1 hx with rfl | hx
        · omega
        · have := hi'.1 x hx; omega
theorem allS_len : ∀ (n : Nat) (k : Int), (allS n k).length = 2 ^ n
  | 0, _ => rfl
  | n + 1, k => by simp only [allS, List.length_append, List.length_map, allS_len n]; rw [Nat.pow_succ]; omega
/-! ### Keys -/
def kk (s : List Int) (a : Int) : ByteArray := keyK [s, [a]]
def univ : List ByteArray := (allS 24 0).flatMap fun s => (List.range 61).map fun a : Nat => kk s (a : Int)
theorem flat_len {α β : Type} (f : α → List β) (n : Nat) (hf : ∀ a, (f a).length = n) : ∀ l : List α, (l.flatMap f).length = l.length * n
  | [] => by simp
  | a :: l => by simp only [List.flatMap_cons, List.length_append, flat_len f n hf l, hf, List.length_cons, Nat.succ_mul]; omega
theorem univ_len : univ.length = 2 ^ 24 * 61 := by
  rw [univ, flat_len _ 61 (fun a => by simp), allS_len]
theorem mem_univ {t : TTask} (ht : TaskOk t) {s : List Int} (hs : SetN s t.facts) {a : Int} (h0 : 0 ≤ a) (h1 : a ≤ 60) : kk s a ∈ univ := by
  have := ht.n1
  refine List.mem_flatMap.2 ⟨s, mem_allS hs.1 fun x hx => by have := hs.2 x hx; omega, List.mem_map.2 ⟨a.toNat, by simp; omega, by rw [Int.toNat_of_nonneg h0]⟩⟩
theorem small_set {t : TTask} (ht : TaskOk t) {s : List Int} (hs : SetN s t.facts) : small s := fun x hx => by
  have := ht.n1
  have := hs.2 x hx
  omega
theorem small_one {a : Int} (h0 : 0 ≤ a) (h1 : a ≤ 60) : small [a] := fun x hx => by
  simp at hx; subst hx; omega
theorem kk_eq {t : TTask} (ht : TaskOk t) {s : List Int} (hs : SetN s t.facts) {a : Int} (h0 : 0 ≤ a) (h1 : a ≤ 60) : belief_Key [s, [a]] = some (kk s a) := by
  have := ht.n1
  have := hs.len
  exact key2_eq (small_set ht hs) (small_one h0 h1) (by omega) (by simp)
theorem kk_inj {t : TTask} (ht : TaskOk t) {s s' : List Int} (hs : SetN s t.facts) (hs' : SetN s' t.facts) {a a' : Int} (h0 : 0 ≤ a) (h1 : a ≤ 60) (h0' : 0 ≤ a') (h1' : a' ≤ 60) (h : kk s a = kk s' a') : s = s' ∧ a = a' := by
  have := keyK_inj (fun x hx => by
    rcases List.mem_cons.1 hx with rfl | hx
    · exact small_set ht hs
    · simp at hx; subst hx; exact small_one h0 h1) (fun x hx => by
    rcases List.mem_cons.1 hx with rfl | hx
    · exact small_set ht hs'
    · simp at hx; subst hx; exact small_one h0' h1') h
  simpa using this
/-! ### Maps -/
section
variable {K : Type} [DecidableEq K]
theorem mset_new {k : K} {v : Int} : ∀ {m : List (K × Int)}, mget m k = none → mset m k v = m ++ [(k, v)]
  | [], _ => rfl
  | p :: r, h => by
    simp only [mget] at h
    split at h
    · cases h
    · rename_i hne
      simp only [mset, if_neg hne, mset_new h, List.cons_append]
theorem mset_keys {k : K} {v : Int} : ∀ {m : List (K × Int)}, mget m k ≠ none → (mset m k v).map (·.1) = m.map (·.1)
  | [], h => absurd rfl h
  | p :: r, h => by
    simp only [mget] at h
    simp only [mset]
    split
    · rename_i e; simp [e]
    · rename_i hne
      rw [if_neg hne] at h
      simp [mset_keys h]
theorem mget_mem {k : K} {v : Int} : ∀ {m : List (K × Int)}, mget m k = some v → (k, v) ∈ m
  | [], h => by cases h
  | p :: r, h => by
    simp only [mget] at h
    split at h
    · rename_i e; cases h; subst e; exact List.mem_cons_self
    · exact List.mem_cons_of_mem _ (mget_mem h)
theorem mget_none {k : K} : ∀ {m : List (K × Int)}, mget m k = none → k ∉ m.map (·.1)
  | [], _ => by simp
  | p :: r, h => by
    simp only [mget] at h
    split at h
    · cases h
    · rename_i hne
      have := mget_none h
      simp only [List.map_cons, List.mem_cons, not_or]
      exact ⟨hne, this⟩
/-- How many values are beyond c. -/
def late (c : Int) (m : List (K × Int)) : Nat := (m.filter fun p => decide (c < p.2)).length
theorem late_app (c : Int) (m m' : List (K × Int)) : late c (m ++ m') = late c m + late c m' := by simp [late, List.filter_append]
theorem late_cons (c : Int) (p : K × Int) (m : List (K × Int)) : late c (p :: m) = (if c < p.2 then 1 else 0) + late c m := by
  simp only [late, List.filter_cons]
  by_cases h : c < p.2
  · simp [h]; omega
  · simp [h]
theorem late_one (c : Int) (p : K × Int) : late c [p] ≤ 1 := by
  rw [late_cons]; simp only [late, List.filter_nil, List.length_nil]; split <;> omega
theorem late_set {c v : Int} {k : K} (hv : v ≤ c) : ∀ {m : List (K × Int)} {old : Int}, mget m k = some old → c < old → late c (mset m k v) + 1 = late c m
  | [], old, h, _ => by cases h
  | p :: r, old, h, ho => by
    simp only [mget] at h
    simp only [mset]
    split at h
    · rename_i e
      cases h
      rw [if_pos e, late_cons, late_cons, if_neg (by simp only; omega), if_pos ho]; omega
    · rename_i hne
      have := late_set hv h ho
      rw [if_neg hne, late_cons, late_cons]; omega
theorem late_mono {c c' : Int} (h : c ≤ c') : ∀ m : List (K × Int), late c' m ≤ late c m
  | [] => Nat.le_refl _
  | p :: r => by
    have := late_mono h r
    rw [late_cons, late_cons]
    by_cases h1 : c' < p.2
    · rw [if_pos h1, if_pos (by omega)]; omega
    · rw [if_neg h1]; omega
end
/-! ### What the search keeps -/
abbrev Mp' := List (ByteArray × Int)
/-- The steps that lead to a node. -/
inductive Chn (ns : List Trepair_node) : Int → List Int → Prop
  | root {i : Int} (h : i < 0) : Chn ns i []
  | op {i : Int} {n : Trepair_node} {st : List Int} (h : ix ns i = some n) (ho : 0 ≤ n.op) (hf : n.ffrom < i) (hc : Chn ns n.ffrom st) : Chn ns i (st ++ [n.op])
  | no {i : Int} {n : Trepair_node} {st : List Int} (h : ix ns i = some n) (ho : n.op < 0) (hf : n.ffrom < i) (hc : Chn ns n.ffrom st) : Chn ns i st
theorem Chn.mono {ns ns' : List Trepair_node} {i : Int} {st : List Int} (hn : ∀ i n, ix ns i = some n → ix ns' i = some n) (h : Chn ns i st) : Chn ns' i st := by
  induction h with
  | root h => exact .root h
  | op h ho hf _ ih => exact .op (hn _ _ h) ho hf ih
  | no h ho hf _ ih => exact .no (hn _ _ h) ho hf ih
/-- The rest of what may still be added. -/
def pot (c : Int) (m : Mp') : Nat := 2 * (univ.length - m.length) + late c m
/-- A node that the search may hold. -/
structure NodeOk (t : TTask) (plan : List Int) (n : Trepair_node) : Prop where
  set : SetN n.fs t.facts
  at0 : 0 ≤ n.fat
  at1 : n.fat ≤ plan.length
  ch0 : 0 ≤ n.change
/-- The steps to a state, and how far they are from what has been handled of the plan. -/
def Way (t : TTask) (plan st : List Int) (n : Trepair_node) : Prop := (∀ x ∈ st, 0 ≤ x ∧ x < t.operators.length) ∧ ends t t.init st = some n.fs ∧ Ed n.change.toNat (plan.take n.fat.toNat) st
structure Bs (t : TTask) (plan : List Int) (c : Int) (m : Mp') (ns : List Trepair_node) (q : List (List Int)) : Prop where
  node : ∀ i n, ix ns i = some n → NodeOk t plan n ∧ n.change ≤ c + 1 ∧ ∃ st, Chn ns i st ∧ Way t plan st n
  m1 : ∀ i n, ix ns i = some n → ∃ v, mget m (kk n.fs n.fat) = some v ∧ v ≤ n.change
  m2 : ∀ (s : List Int) (a v : Int), SetN s t.facts → 0 ≤ a → a ≤ plan.length → mget m (kk s a) = some v → ∃ i n, ix ns i = some n ∧ n.fs = s ∧ n.fat = a ∧ n.change = v
  qs : ∀ b row, ix q b = some row → ∀ i ∈ row, ∃ n, ix ns i = some n ∧ n.change = b
  qn : ∀ i n, ix ns i = some n → ∃ row p, ix q n.change = some row ∧ ix row p = some i
  nd : (m.map (·.1)).Nodup
  un : ∀ k ∈ m.map (·.1), k ∈ univ
  vl : ∀ p ∈ m, p.2 ≤ c + 1
  ql : q.length ≤ ns.length
  rl : ∀ b row, ix q b = some row → row.length ≤ ns.length
/-- From one moment of the search to a later one, in the same round. -/
structure Stp (c : Int) (m : Mp') (ns : List Trepair_node) (q : List (List Int)) (m' : Mp') (ns' : List Trepair_node) (q' : List (List Int)) : Prop where
  sat : ∀ k v, mget m k = some v → ∃ v', mget m' k = some v' ∧ v' ≤ v
  nst : ∀ i n, ix ns i = some n → ix ns' i = some n
  row : ∀ b row, ix q b = some row → ∃ e, ix q' b = some (row ++ e)
  old : ∀ b, b < c → ix q' b = ix q b
  len : q.length ≤ q'.length
  psi : q'.length + pot c m' ≤ q.length + pot c m
  pend : ∀ row, ix q c = some row → ∃ row', ix q' c = some row' ∧ row'.length + pot c m' ≤ row.length + pot c m
  nsl : ns'.length + pot c m' ≤ ns.length + pot c m
theorem Stp.refl (c : Int) (m : Mp') (ns : List Trepair_node) (q : List (List Int)) : Stp c m ns q m ns q :=
  ⟨fun k v h => ⟨v, h, Int.le_refl _⟩, fun _ _ h => h, fun b row h => ⟨[], by simpa using h⟩, fun _ _ => rfl, Nat.le_refl _, Nat.le_refl _, fun row h => ⟨row, h, Nat.le_refl _⟩, Nat.le_refl _⟩
theorem Stp.trans {c : Int} {m m' m'' : Mp'} {ns ns' ns'' : List Trepair_node} {q q' q'' : List (List Int)} (h : Stp c m ns q m' ns' q') (k : Stp c m' ns' q' m'' ns'' q'') : Stp c m ns q m'' ns'' q'' where
  sat a v g := by
    obtain ⟨v', g1, g2⟩ := h.sat a v g
    obtain ⟨v'', g3, g4⟩ := k.sat a v' g1
    exact ⟨v'', g3, by omega⟩
  nst i n g := k.nst i n (h.nst i n g)
  row b row g := by
    obtain ⟨e, g1⟩ := h.row b row g
    obtain ⟨e', g2⟩ := k.row b _ g1
    exact ⟨e ++ e', by rw [g2, List.append_assoc]⟩
  old b hb := (k.old b hb).trans (h.old b hb)
  len := Nat.le_trans h.len k.len
  psi := by have := h.psi; have := k.psi; omega
  pend row g := by
    obtain ⟨r', g1, g2⟩ := h.pend row g
    obtain ⟨r'', g3, g4⟩ := k.pend r' g1
    exact ⟨r'', g3, by omega⟩
  nsl := by have := h.nsl; have := k.nsl; omega
/-- A state with a place is known at a price. -/
def Sat (m : Mp') (s : List Int) (a d : Int) : Prop := ∃ v, mget m (kk s a) = some v ∧ v ≤ d
theorem Stp.keep {c : Int} {m m' : Mp'} {ns ns' : List Trepair_node} {q q' : List (List Int)} (h : Stp c m ns q m' ns' q') {s : List Int} {a d : Int} (k : Sat m s a d) : Sat m' s a d := by
  obtain ⟨v, h1, h2⟩ := k
  obtain ⟨v', h3, h4⟩ := h.sat _ v h1
  exact ⟨v', h3, by omega⟩
end Ab
end
section
namespace Ab
open Go
theorem ix_neg {α : Type} {l : List α} {i : Int} (h : i < 0) : ix l i = none := by
  unfold ix; rw [if_neg (by omega)]
theorem ix_snoc {α : Type} {l : List α} {x : α} {i : Int} : ix (l ++ [x]) i = if i = l.length then some x else ix l i := by
  by_cases h0 : 0 ≤ i
  · obtain ⟨k, rfl⟩ := Int.eq_ofNat_of_zero_le h0
    rw [ix_nat, ix_nat]
    by_cases e : k = l.length
    · subst e; simp
    · rw [if_neg (by omega)]
      rcases Nat.lt_or_ge k l.length with h | h
      · rw [List.getElem?_append_left h]
      · rw [List.getElem?_eq_none (by simp; omega), List.getElem?_eq_none h]
  · rw [ix_neg (by omega), ix_neg (by omega), if_neg (by omega)]
theorem ix_snoc_old {α : Type} {l : List α} {x a : α} {i : Int} (h : ix l i = some a) : ix (l ++ [x]) i = some a := by
  rw [ix_snoc, if_neg (by have := ix_lo h; omega), h]
theorem ix_snoc_new {α : Type} {l : List α} {x : α} : ix (l ++ [x]) (l.length : Int) = some x := by rw [ix_snoc, if_pos rfl]
theorem mset_mem {K V : Type} [DecidableEq K] {k : K} {v : V} {p : K × V} : ∀ {m : List (K × V)}, p ∈ mset m k v → p = (k, v) ∨ p ∈ m
  | [], h => .inl (by simpa [mset] using h)
  | a :: m, h => by
    simp only [mset] at h
    split at h
    · rcases List.mem_cons.1 h with h | h
      · exact .inl h
      · exact .inr (List.mem_cons_of_mem _ h)
    · rcases List.mem_cons.1 h with h | h
      · exact .inr (h ▸ List.mem_cons_self)
      · rcases mset_mem h with h | h
        · exact .inl h
        · exact .inr (List.mem_cons_of_mem _ h)
theorem grow_spec {nv : Trepair_node} {q : List (List Int)} (h0 : 0 ≤ nv.change) (h1 : nv.change ≤ q.length) (hq : q.length ≤ 4000000000) :
    ∃ q1, Loop (repair_searcher_add_w2_l1 nv) q = some q1 ∧ (∀ b row, ix q b = some row → ix q1 b = some row) ∧ (∀ b row, ix q1 b = some row → ix q b = some row ∨ (row = [] ∧ b = q.length ∧ nv.change = q.length)) ∧ q.length ≤ q1.length ∧ q1.length ≤ q.length + 1 ∧ nv.change < q1.length := by
  by_cases e : nv.change = q.length
  · refine ⟨q ++ [[]], Loop_iff.2 ⟨2, ?_⟩, fun b row h => ix_snoc_old h, fun b row h => ?_, by simp, by simp, by simp; omega⟩
    · have e1 : app 24 q ([[]] : List (List Int)) = some (q ++ [[]]) := by rw [app, if_pos (by simp; omega)]
      simp only [LoopN, repair_searcher_add_w2_l1]
      rw [if_pos (by omega), e1]
      simp only [Option.bind_some]
      rw [if_neg (by simp; omega)]
    · rw [ix_snoc] at h
      split at h
      · cases h; exact .inr ⟨rfl, by assumption, e⟩
      · exact .inl h
  · refine ⟨q, Loop_iff.2 ⟨1, ?_⟩, fun b row h => h, fun b row h => .inl h, Nat.le_refl _, by omega, by omega⟩
    simp only [LoopN, repair_searcher_add_w2_l1]
    rw [if_neg (by omega)]
theorem add_spec {t : TTask} (ht : TaskOk t) {plan : List Int} (hp : plan.length ≤ 60) {c : Int} (hc : 0 ≤ c) {m : Mp'} {ns : List Trepair_node} {q : List (List Int)} (hB : Bs t plan c m ns q) (hN : ns.length + pot c m ≤ 2 * univ.length)
    {nv : Trepair_node} (hn : NodeOk t plan nv) (hch : nv.change = c ∨ nv.change = c + 1) (hq : nv.change ≤ q.length) (hW : ∃ st, Chn ns nv.ffrom st ∧ nv.ffrom < ns.length ∧ Way t plan (if 0 ≤ nv.op then st ++ [nv.op] else st) nv) :
    ∃ m' ns' q', repair_searcher_add_w2 nv t plan ns q m = some (m', ns', q') ∧ Bs t plan c m' ns' q' ∧ Stp c m ns q m' ns' q' ∧ Sat m' nv.fs nv.fat nv.change := by
  have hU := univ_len
  have h60 : nv.fat ≤ 60 := by have := hn.at1; omega
  unfold repair_searcher_add_w2
  rw [kk_eq ht hn.set hn.at0 h60]
  simp only [Option.bind_some]
  by_cases hf : ∃ v, mget m (kk nv.fs nv.fat) = some v ∧ v ≤ nv.change
  · obtain ⟨v, h1, h2⟩ := hf
    rw [if_pos (by simp [h1, h2])]
    exact ⟨m, ns, q, rfl, hB, .refl .., v, h1, h2⟩
  rw [if_neg (by
    intro h
    simp only [Bool.and_eq_true, decide_eq_true_eq, Option.isSome_iff_exists] at h
    obtain ⟨⟨v, h1⟩, h2⟩ := h
    rw [h1] at h2
    exact hf ⟨v, h1, h2⟩)]
  have hql := hB.ql
  have ha : app 56 ns [nv] = some (ns ++ [nv]) := by rw [app, if_pos (by simp; omega)]
  obtain ⟨q1, g1, Q1, Q2, L1, L2, L3⟩ := grow_spec hn.ch0 hq (by omega)
  obtain ⟨row, r1, _⟩ := ix_of (l := q1) hn.ch0 L3
  have hrl : row.length ≤ ns.length := by
    rcases Q2 _ _ r1 with h | ⟨h, _⟩
    · exact hB.rl _ _ h
    · simp [h]
  have hb : app 8 row [w64 (((ns ++ [nv]).length : Int) - 1)] = some (row ++ [(ns.length : Int)]) := by
    have e : (((ns ++ [nv]).length : Int) - 1) = (ns.length : Int) := by simp
    rw [e, w64_of (by omega) (by omega), app, if_pos (by simp; omega)]
  rw [ha]
  simp only [Option.bind_some]
  rw [g1]
  simp only [Option.bind_some, r1, hb]
  have hmem : kk nv.fs nv.fat ∈ univ := mem_univ ht hn.set hn.at0 h60
  -- what becomes of the map
  have hmap : pot c (mset m (kk nv.fs nv.fat) nv.change) + 1 ≤ pot c m ∧ ((mset m (kk nv.fs nv.fat) nv.change).map (·.1)).Nodup ∧ ∀ k ∈ (mset m (kk nv.fs nv.fat) nv.change).map (·.1), k ∈ univ := by
    cases hg : mget m (kk nv.fs nv.fat) with
    | none =>
      rw [mset_new hg]
      have hnd : ((m ++ [(kk nv.fs nv.fat, nv.change)]).map (·.1)).Nodup := by
        rw [List.map_append, List.nodup_append]
        refine ⟨hB.nd, by simp, fun a h1 b h2 e => ?_⟩
        simp only [List.map_cons, List.map_nil, List.mem_singleton] at h2
        subst e; subst h2
        exact mget_none hg h1
      have hun : ∀ k ∈ (m ++ [(kk nv.fs nv.fat, nv.change)]).map (·.1), k ∈ univ := fun k hk => by
        rw [List.map_append, List.mem_append] at hk
        rcases hk with hk | hk
        · exact hB.un k hk
        · simp at hk; subst hk; exact hmem
      have hl := nodup_len hnd hun
      simp only [List.length_map, List.length_append, List.length_singleton] at hl
      refine ⟨?_, hnd, hun⟩
      have := late_one c (kk nv.fs nv.fat, nv.change)
      simp only [pot, late_app, List.length_append, List.length_singleton]
      omega
    | some old =>
      have hne : mget m (kk nv.fs nv.fat) ≠ none := by rw [hg]; simp
      have hk := mset_keys (v := nv.change) hne
      have hlen : (mset m (kk nv.fs nv.fat) nv.change).length = m.length := by
        have := congrArg List.length hk
        simpa using this
      have ho : nv.change < old := by
        rcases Int.lt_or_le nv.change old with h | h
        · exact h
        · exact absurd ⟨old, hg, h⟩ hf
      have := hB.vl _ (mget_mem hg)
      simp only at this
      have hcc : nv.change = c := by omega
      have hlt := late_set (c := c) (v := nv.change) (by omega) hg (by omega)
      refine ⟨?_, by rw [hk]; exact hB.nd, by rw [hk]; exact hB.un⟩
      simp only [pot, hlen]
      omega
  obtain ⟨hpot, hnd, hun⟩ := hmap
  generalize hm' : mset m (kk nv.fs nv.fat) nv.change = m' at *
  have hget : ∀ k, mget m' k = if k = kk nv.fs nv.fat then some nv.change else mget m k := fun k => by rw [← hm', mget_mset]
  have hlt : ∀ v, mget m (kk nv.fs nv.fat) = some v → nv.change < v := fun v hv => by
    rcases Int.lt_or_le nv.change v with h | h
    · exact h
    · exact absurd ⟨v, hv, h⟩ hf
  have hq' : ∀ b, ix (q1.set nv.change.toNat (row ++ [(ns.length : Int)])) b = if b = nv.change then some (row ++ [(ns.length : Int)]) else ix q1 b := fun b => by
    by_cases h0 : 0 ≤ b
    · rw [ix_put hn.ch0 L3 h0]
    · rw [ix_neg (by omega), ix_neg (by omega), if_neg (by have := hn.ch0; omega)]
  have hold : ∀ i n, ix ns i = some n → ix (ns ++ [nv]) i = some n := fun i n h => ix_snoc_old h
  refine ⟨m', ns ++ [nv], _, rfl, ?_, ?_, nv.change, by rw [hget, if_pos rfl], Int.le_refl _⟩
  · exact {
      node := fun i n hi => by
        rw [ix_snoc] at hi
        split at hi
        · rename_i e
          cases hi
          obtain ⟨st, h1, h2, h3⟩ := hW
          refine ⟨hn, by omega, _, ?_, h3⟩
          have hx : ix (ns ++ [nv]) i = some nv := by rw [e]; exact ix_snoc_new
          split
          · exact .op hx (by assumption) (by omega) (h1.mono hold)
          · exact .no hx (by omega) (by omega) (h1.mono hold)
        · obtain ⟨h1, h2, st, h3, h4⟩ := hB.node i n hi
          exact ⟨h1, h2, st, h3.mono hold, h4⟩
      m1 := fun i n hi => by
        rw [hget]
        rw [ix_snoc] at hi
        split at hi
        · cases hi
          rw [if_pos rfl]
          exact ⟨_, rfl, Int.le_refl _⟩
        · obtain ⟨v, h1, h2⟩ := hB.m1 i n hi
          split
          · rename_i e
            rw [e] at h1
            have := hlt v h1
            exact ⟨_, rfl, by omega⟩
          · exact ⟨v, h1, h2⟩
      m2 := fun s a v hs h0 h1 hv => by
        rw [hget] at hv
        split at hv
        · rename_i e
          obtain ⟨rfl, rfl⟩ := kk_inj ht hs hn.set h0 (by omega) hn.at0 h60 e
          cases hv
          exact ⟨ns.length, nv, ix_snoc_new, rfl, rfl, rfl⟩
        · obtain ⟨i, n, g1, g2⟩ := hB.m2 s a v hs h0 h1 hv
          exact ⟨i, n, hold _ _ g1, g2⟩
      qs := fun b r hr i hi => by
        rw [hq'] at hr
        split at hr
        · rename_i e
          subst e
          cases hr
          rcases List.mem_append.1 hi with hi | hi
          · rcases Q2 _ _ r1 with h | ⟨h, _⟩
            · obtain ⟨n, k1, k2⟩ := hB.qs _ _ h i hi
              exact ⟨n, hold _ _ k1, k2⟩
            · rw [h] at hi; cases hi
          · simp only [List.mem_singleton] at hi
            subst hi
            exact ⟨nv, ix_snoc_new, rfl⟩
        · rcases Q2 _ _ hr with h | ⟨h, _⟩
          · obtain ⟨n, k1, k2⟩ := hB.qs _ _ h i hi
            exact ⟨n, hold _ _ k1, k2⟩
          · rw [h] at hi; cases hi
      qn := fun i n hi => by
        rw [ix_snoc] at hi
        split at hi
        · rename_i e
          cases hi
          refine ⟨row ++ [(ns.length : Int)], row.length, by rw [hq', if_pos rfl], ?_⟩
          rw [ix_snoc_new, e]
        · obtain ⟨r, p, k1, k2⟩ := hB.qn i n hi
          by_cases e : n.change = nv.change
          · have : r = row := by
              have := Q1 _ _ k1
              rw [e, r1] at this
              exact (Option.some.inj this).symm
            subst this
            exact ⟨_, p, by rw [hq', if_pos e], ix_snoc_old k2⟩
          · exact ⟨r, p, by rw [hq', if_neg e]; exact Q1 _ _ k1, k2⟩
      nd := hnd
      un := hun
      vl := fun p hp => by
        rw [← hm'] at hp
        rcases mset_mem hp with h | h
        · subst h; simp only; omega
        · exact hB.vl p h
      ql := by simp only [List.length_set, List.length_append, List.length_singleton]; omega
      rl := fun b r hr => by
        rw [hq'] at hr
        simp only [List.length_append, List.length_singleton]
        split at hr
        · cases hr; simp; omega
        · rcases Q2 _ _ hr with h | ⟨h, _⟩
          · have := hB.rl _ _ h; omega
          · simp [h] }
  · exact {
      sat := fun k v hk => by
        rw [hget]
        split
        · rename_i e
          rw [e] at hk
          have := hlt v hk
          exact ⟨_, rfl, by omega⟩
        · exact ⟨v, hk, Int.le_refl _⟩
      nst := hold
      row := fun b r hr => by
        rw [hq']
        split
        · rename_i e
          subst e
          have := Q1 _ _ hr
          rw [r1] at this
          cases this
          exact ⟨[(ns.length : Int)], rfl⟩
        · exact ⟨[], by rw [Q1 _ _ hr, List.append_nil]⟩
      old := fun b hb => by
        rw [hq', if_neg (by omega)]
        cases h : ix q b with
        | some r => exact Q1 _ _ h
        | none =>
          cases h2 : ix q1 b with
          | none => rfl
          | some r =>
            rcases Q2 _ _ h2 with k | ⟨_, k1, k2⟩
            · rw [h] at k; cases k
            · omega
      len := by simp only [List.length_set]; omega
      psi := by simp only [List.length_set]; omega
      pend := fun r hr => by
        rw [hq']
        have h1 := Q1 _ _ hr
        split
        · rename_i e
          subst e
          rw [r1] at h1
          cases h1
          exact ⟨_, rfl, by simp; omega⟩
        · exact ⟨r, h1, by omega⟩
      nsl := by simp only [List.length_append, List.length_singleton]; omega }
theorem Chn.len {ns : List Trepair_node} {i : Int} {st : List Int} (h : Chn ns i st) : st.length ≤ (i + 1).toNat := by
  induction h with
  | root h => simp
  | op h ho hf hc ih =>
    have := ix_lo h
    simp only [List.length_append, List.length_singleton]
    omega
  | no h ho hf hc ih =>
    have := ix_lo h
    omega
theorem steps_loop {ns : List Trepair_node} (hN : ns.length ≤ 4000000000) {i : Int} {st : List Int} (h : Chn ns i st) : ∀ acc : List Int, acc.length + st.length ≤ 4000000000 → ∃ k, LoopN (repair_searcher_steps_w_l1 ns) k (acc, i) = some (acc ++ st.reverse) := by
  induction h with
  | root h =>
    intro acc _
    refine ⟨1, ?_⟩
    simp only [LoopN, repair_searcher_steps_w_l1]
    rw [if_neg (by omega)]
    simp
  | @op i n st h ho hf hc ih =>
    intro acc hl
    simp only [List.length_append, List.length_singleton] at hl
    obtain ⟨k, hk⟩ := ih (acc ++ [n.op]) (by simp; omega)
    refine ⟨k + 1, ?_⟩
    have ha : app 8 acc [n.op] = some (acc ++ [n.op]) := by rw [app, if_pos (by simp; omega)]
    have := ix_lo h
    simp only [LoopN, repair_searcher_steps_w_l1]
    rw [if_pos (by omega), h]
    simp only [Option.bind_some]
    rw [if_pos ho, ha]
    simp only [Option.bind_some]
    rw [hk]
    simp
  | @no i n st h ho hf hc ih =>
    intro acc hl
    obtain ⟨k, hk⟩ := ih acc hl
    refine ⟨k + 1, ?_⟩
    have := ix_lo h
    simp only [LoopN, repair_searcher_steps_w_l1]
    rw [if_pos (by omega), h]
    simp only [Option.bind_some]
    rw [if_neg (by omega)]
    simp only [Option.bind_some]
    exact hk
theorem steps_spec {t : TTask} {plan : List Int} {ns : List Trepair_node} {q : List (List Int)} {m : Mp'} (hN : ns.length ≤ 2100000000) {i : Int} {st : List Int} (h : Chn ns i st) (hi : i < ns.length) : repair_searcher_steps_w i t plan ns q m = some st := by
  have hl := h.len
  obtain ⟨k, hk⟩ := steps_loop (by omega) h [] (by simp; omega)
  unfold repair_searcher_steps_w
  rw [Loop_iff.2 ⟨k, hk⟩]
  simp
end Ab
end
section
namespace Ab
open Go
/-- What a handled node has left behind. -/
structure Hd (t : TTask) (plan : List Int) (m : Mp') (n : Trepair_node) : Prop where
  goal : n.fat = plan.length → ¬ ∀ x ∈ t.goal, x ∈ n.fs
  keep : ∀ op, ix plan n.fat = some op → can t n.fs op → Sat m (aft t n.fs op) (n.fat + 1) n.change
  skip : n.fat < plan.length → Sat m n.fs (n.fat + 1) (n.change + 1)
  ins : ∀ op : Int, 0 ≤ op → op < t.operators.length → can t n.fs op → Sat m (aft t n.fs op) n.fat (n.change + 1)
theorem Hd.mono {t : TTask} {plan : List Int} {c : Int} {m m' : Mp'} {ns ns' : List Trepair_node} {q q' : List (List Int)} {n : Trepair_node} (h : Hd t plan m n) (hs : Stp c m ns q m' ns' q') : Hd t plan m' n :=
  ⟨h.goal, fun op h1 h2 => hs.keep (h.keep op h1 h2), fun h1 => hs.keep (h.skip h1), fun op h0 h1 h2 => hs.keep (h.ins op h0 h1 h2)⟩
structure Rd (t : TTask) (plan : List Int) (c : Int) (m : Mp') (ns : List Trepair_node) (q : List (List Int)) : Prop where
  bs : Bs t plan c m ns q
  nb : ns.length + pot c m ≤ 2 * univ.length
  ql : c < q.length
theorem Sat.le {m : Mp'} {s : List Int} {a d d' : Int} (h : Sat m s a d) (hd : d ≤ d') : Sat m s a d' := by
  obtain ⟨v, h1, h2⟩ := h
  exact ⟨v, h1, by omega⟩
theorem take_next {plan : List Int} {a op : Int} (h : ix plan a = some op) : plan.take (a + 1).toNat = plan.take a.toNat ++ [op] := by
  obtain ⟨h0, h1, h2⟩ := ix_lo h
  rw [show (a + 1).toNat = a.toNat + 1 by omega, List.take_add_one, h2]; rfl
theorem way_keep {t : TTask} {plan st : List Int} (hp : PlanOk t plan) {n : Trepair_node} (h : Way t plan st n) {op : Int} (hop : ix plan n.fat = some op) (hc : can t n.fs op) (i : Int) : Way t plan (st ++ [op]) ⟨aft t n.fs op, n.fat + 1, i, op, n.change⟩ := by
  obtain ⟨h1, h2, h3⟩ := h
  refine ⟨fun x hx => ?_, ?_, ?_⟩
  · rcases List.mem_append.1 hx with hx | hx
    · exact h1 x hx
    · simp only [List.mem_singleton] at hx; subst hx; exact hp.2 _ (ix_mem hop)
  · rw [ends_append, h2]
    simp only [Option.bind_some, ends]
    rw [if_pos (dec_of hc)]
  · show Ed n.change.toNat (plan.take (n.fat + 1).toNat) (st ++ [op])
    rw [take_next hop]
    exact h3.keepR op
theorem way_skip {t : TTask} {plan st : List Int} {n : Trepair_node} (h : Way t plan st n) (hch : 0 ≤ n.change) {op : Int} (hop : ix plan n.fat = some op) (i : Int) : Way t plan st ⟨n.fs, n.fat + 1, i, -1, n.change + 1⟩ := by
  obtain ⟨h1, h2, h3⟩ := h
  refine ⟨h1, h2, ?_⟩
  show Ed (n.change + 1).toNat (plan.take (n.fat + 1).toNat) st
  rw [take_next hop, show (n.change + 1).toNat = n.change.toNat + 1 by omega]
  exact h3.delR op
theorem way_ins {t : TTask} {plan st : List Int} {n : Trepair_node} (h : Way t plan st n) (hch : 0 ≤ n.change) {op : Int} (h0 : 0 ≤ op) (hl : op < t.operators.length) (hc : can t n.fs op) (i : Int) : Way t plan (st ++ [op]) ⟨aft t n.fs op, n.fat, i, op, n.change + 1⟩ := by
  obtain ⟨h1, h2, h3⟩ := h
  refine ⟨fun x hx => ?_, ?_, ?_⟩
  · rcases List.mem_append.1 hx with hx | hx
    · exact h1 x hx
    · simp only [List.mem_singleton] at hx; subst hx; exact ⟨h0, hl⟩
  · rw [ends_append, h2]
    simp only [Option.bind_some, ends]
    rw [if_pos (dec_of hc)]
  · show Ed (n.change + 1).toNat (plan.take n.fat.toNat) (st ++ [op])
    rw [show (n.change + 1).toNat = n.change.toNat + 1 by omega]
    exact h3.insR op
theorem add_rd {t : TTask} (ht : TaskOk t) {plan : List Int} (hp : PlanOk t plan) {c : Int} (hc : 0 ≤ c) {m : Mp'} {ns : List Trepair_node} {q : List (List Int)} (h : Rd t plan c m ns q)
    {nv : Trepair_node} (hn : NodeOk t plan nv) (hch : nv.change = c ∨ nv.change = c + 1) (hW : ∃ st, Chn ns nv.ffrom st ∧ nv.ffrom < ns.length ∧ Way t plan (if 0 ≤ nv.op then st ++ [nv.op] else st) nv) :
    ∃ m' ns' q', repair_searcher_add_w2 nv t plan ns q m = some (m', ns', q') ∧ Rd t plan c m' ns' q' ∧ Stp c m ns q m' ns' q' ∧ Sat m' nv.fs nv.fat nv.change := by
  have := h.ql
  obtain ⟨m', ns', q', h1, h2, h3, h4⟩ := add_spec ht hp.1 hc h.bs h.nb hn hch (by omega) hW
  refine ⟨m', ns', q', h1, ⟨h2, ?_, ?_⟩, h3, h4⟩
  · have := h.nb; have := h3.nsl; omega
  · have := h3.len; omega
theorem Rd.small {t : TTask} {plan : List Int} {c : Int} {m : Mp'} {ns : List Trepair_node} {q : List (List Int)} (h : Rd t plan c m ns q) : c < 2100000000 ∧ ns.length ≤ 2100000000 := by
  have := h.nb; have := h.ql; have := h.bs.ql; have := univ_len
  omega
theorem expand_tail {t : TTask} (ht : TaskOk t) {plan : List Int} (hp : PlanOk t plan) {c : Int} (hc : 0 ≤ c) {m : Mp'} {ns : List Trepair_node} {q : List (List Int)} (h : Rd t plan c m ns q) {i : Int} {n : Trepair_node} (hi : ix ns i = some n) (hnc : n.change = c) :
    ∃ m' ns' q', repair_searcher_expand_w_r2 i t plan n m ns q = some (m', ns', q') ∧ Rd t plan c m' ns' q' ∧ Stp c m ns q m' ns' q' ∧ ∀ op : Int, 0 ≤ op → op < t.operators.length → can t n.fs op → Sat m' (aft t n.fs op) n.fat (n.change + 1) := by
  obtain ⟨hok, _, st, hch, hway⟩ := h.bs.node i n hi
  have hsm := h.small
  unfold repair_searcher_expand_w_r2
  obtain ⟨⟨m', ns', q'⟩, h1, h2, h3, h4⟩ := forR_inv (body := repair_searcher_expand_w_l1 i t plan n) (n := (t.operators.length : Int)) (s := (m, ns, q))
    (fun j s => Rd t plan c s.1 s.2.1 s.2.2 ∧ Stp c m ns q s.1 s.2.1 s.2.2 ∧ ∀ op : Int, 0 ≤ op → op < j → can t n.fs op → Sat s.1 (aft t n.fs op) n.fat (n.change + 1)) (by omega) ⟨h, .refl .., fun op g0 g1 => by omega⟩
    (fun j s j0 j1 hP => by
      obtain ⟨m1, ns1, q1⟩ := s
      obtain ⟨g1, g2, g3⟩ := hP
      simp only at g1 g2 g3
      unfold repair_searcher_expand_w_l1
      simp only [can_eq ht j0 j1 hok.set, next_eq ht j0 j1 hok.set, Option.bind_some]
      by_cases hcan : can t n.fs j
      · rw [if_pos (dec_of hcan), w64_of (by omega) (by omega)]
        have hs1 := g1.small
        obtain ⟨m2, ns2, q2, k1, k2, k3, k4⟩ := add_rd ht hp hc g1 (nv := ⟨aft t n.fs j, n.fat, i, j, n.change + 1⟩) ⟨setN_aft _ _ _, hok.at0, hok.at1, by simp only; omega⟩ (by simp only; omega)
          ⟨st, hch.mono g2.nst, by have := ix_lo (g2.nst i n hi); exact this.2.1, by simp only; rw [if_pos j0]; exact way_ins hway hok.ch0 j0 j1 hcan i⟩
        rw [k1]
        refine ⟨(m2, ns2, q2), rfl, k2, g2.trans k3, fun op o0 o1 ho => ?_⟩
        by_cases e : op = j
        · subst e; exact k4
        · exact k3.keep (g3 op o0 (by omega) ho)
      · rw [if_neg (by rw [dec_true]; exact hcan)]
        refine ⟨(m1, ns1, q1), rfl, g1, g2, fun op o0 o1 ho => ?_⟩
        by_cases e : op = j
        · subst e; exact absurd ho hcan
        · exact g3 op o0 (by omega) ho)
  rw [h1]
  exact ⟨m', ns', q', rfl, h2, h3, h4⟩
theorem expand_spec {t : TTask} (ht : TaskOk t) {plan : List Int} (hp : PlanOk t plan) {c : Int} (hc : 0 ≤ c) {m : Mp'} {ns : List Trepair_node} {q : List (List Int)} (h : Rd t plan c m ns q) {i : Int} {n : Trepair_node} (hi : ix ns i = some n) (hnc : n.change = c) (hg : n.fat = plan.length → ¬ ∀ x ∈ t.goal, x ∈ n.fs) :
    ∃ m' ns' q', repair_searcher_expand_w i t plan ns q m = some (m', ns', q') ∧ Rd t plan c m' ns' q' ∧ Stp c m ns q m' ns' q' ∧ Hd t plan m' n := by
  obtain ⟨hok, _, st, hch, hway⟩ := h.bs.node i n hi
  have hsm := h.small
  have h60 := hp.1
  have hat0 := hok.at0
  have hat1 := hok.at1
  have fin : ∀ {m1 : Mp'} {ns1 : List Trepair_node} {q1 : List (List Int)}, Rd t plan c m1 ns1 q1 → Stp c m ns q m1 ns1 q1 → (∀ op, ix plan n.fat = some op → can t n.fs op → Sat m1 (aft t n.fs op) (n.fat + 1) n.change) → (n.fat < plan.length → Sat m1 n.fs (n.fat + 1) (n.change + 1)) →
      ∃ m' ns' q', (Option.bind (strips_Successors_w t n.fs) fun a75 => Option.bind (repair_searcher_expand_w_r2 i t plan n m1 ns1 q1) fun ⟨c71, c72, c73⟩ => some (c71, c72, c73)) = some (m', ns', q') ∧ Rd t plan c m' ns' q' ∧ Stp c m ns q m' ns' q' ∧ Hd t plan m' n := fun {m1 ns1 q1} g1 g2 g3 g4 => by
    obtain ⟨m', ns', q', k1, k2, k3, k4⟩ := expand_tail ht hp hc g1 (g2.nst i n hi) hnc
    rw [strips_Successors_w]
    simp only [Option.bind_some, k1]
    exact ⟨m', ns', q', rfl, k2, g2.trans k3, hg, fun op o1 o2 => k3.keep (g3 op o1 o2), fun o => k3.keep (g4 o), k4⟩
  unfold repair_searcher_expand_w
  rw [hi]
  simp only [Option.bind_some]
  by_cases c1 : n.fat < (plan.length : Int)
  · rw [if_pos c1]
    obtain ⟨op, hop, _⟩ := ix_of (l := plan) hat0 c1
    have hv := hp.2 op (ix_mem hop)
    rw [w64_of (n := n.fat + 1) (by omega) (by omega), w64_of (n := n.change + 1) (by omega) (by omega)]
    simp only [hop, Option.bind_some, can_eq ht hv.1 hv.2 hok.set, next_eq ht hv.1 hv.2 hok.set]
    have skip : ∀ {m1 : Mp'} {ns1 : List Trepair_node} {q1 : List (List Int)}, Rd t plan c m1 ns1 q1 → Stp c m ns q m1 ns1 q1 → ∃ m' ns' q', repair_searcher_add_w2 ⟨n.fs, n.fat + 1, i, -1, n.change + 1⟩ t plan ns1 q1 m1 = some (m', ns', q') ∧ Rd t plan c m' ns' q' ∧ Stp c m1 ns1 q1 m' ns' q' ∧ Sat m' n.fs (n.fat + 1) (n.change + 1) := fun {m1 ns1 q1} g1 g2 =>
      add_rd ht hp hc g1 (nv := ⟨n.fs, n.fat + 1, i, -1, n.change + 1⟩) ⟨hok.set, by simp only; omega, by simp only; omega, by simp only; omega⟩ (by simp only; omega)
        ⟨st, hch.mono g2.nst, (ix_lo (g2.nst i n hi)).2.1, by simp only; rw [if_neg (by omega)]; exact way_skip hway hok.ch0 hop i⟩
    by_cases hcan : can t n.fs op
    · rw [if_pos (dec_of hcan)]
      obtain ⟨m1, ns1, q1, k1, k2, k3, k4⟩ := add_rd ht hp hc h (nv := ⟨aft t n.fs op, n.fat + 1, i, op, n.change⟩) ⟨setN_aft _ _ _, by simp only; omega, by simp only; omega, hok.ch0⟩ (by simp only; omega)
        ⟨st, hch, (ix_lo hi).2.1, by simp only; rw [if_pos hv.1]; exact way_keep hp hway hop hcan i⟩
      obtain ⟨m2, ns2, q2, l1, l2, l3, l4⟩ := skip k2 k3
      simp only [k1, l1, Option.bind_some]
      exact fin l2 (k3.trans l3) (fun op' o1 o2 => by rw [hop] at o1; cases o1; exact l3.keep k4) (fun _ => l4)
    · rw [if_neg (by rw [dec_true]; exact hcan)]
      obtain ⟨m2, ns2, q2, l1, l2, l3, l4⟩ := skip h (.refl ..)
      simp only [l1, Option.bind_some]
      exact fin l2 l3 (fun op' o1 o2 => by rw [hop] at o1; cases o1; exact absurd o2 hcan) (fun _ => l4)
  · rw [if_neg c1]
    simp only [Option.bind_some]
    exact fin h (.refl ..) (fun op' o1 _ => by have := ix_lo o1; omega) (fun o => absurd o c1)
/-- What is found is no farther than any plan: all that is cheaper has been handled. -/
theorem sat_ed {t : TTask} {plan : List Int} {c C : Int} {m : Mp'} {ns : List Trepair_node} {q : List (List Int)} (hB : Bs t plan c m ns q) (hall : ∀ i n, ix ns i = some n → n.change < C → Hd t plan m n)
    {k : Nat} {A B : List Int} (h : Ed k A B) : ∀ {s e : List Int} {a d : Int}, Sat m s a d → SetN s t.facts → 0 ≤ a → 0 ≤ d → (∃ R, plan.drop a.toNat = A ++ R) → a + A.length ≤ plan.length → (∀ x ∈ B, (0 : Int) ≤ x ∧ x < t.operators.length) → ends t s B = some e → d + k < C → Sat m e (a + A.length) (d + k) := by
  have node : ∀ {s : List Int} {a d : Int}, Sat m s a d → SetN s t.facts → 0 ≤ a → a ≤ plan.length → d < C → ∃ n, Hd t plan m n ∧ n.fs = s ∧ n.fat = a ∧ n.change ≤ d := fun {s a d} ⟨v, h1, h2⟩ hs h0 hl hd => by
    obtain ⟨i, n, g1, g2, g3, g4⟩ := hB.m2 s a v hs h0 hl h1
    exact ⟨n, hall i n g1 (by omega), g2, g3, by omega⟩
  induction h with
  | nil =>
    intro s e a d hS hs h0 hd _ _ _ he _
    simp only [ends, Option.some.injEq] at he
    subst he
    simpa using hS
  | @keep k x A B h ih =>
    intro s e a d hS hs h0 hd hR hl hv he hC
    obtain ⟨R, hR⟩ := hR
    simp only [List.length_cons] at hl ⊢
    obtain ⟨n, g1, rfl, rfl, g4⟩ := node hS hs h0 (by omega) (by omega)
    have hx : ix plan n.fat = some x := by
      rw [show n.fat = ((n.fat.toNat : Nat) : Int) by omega, ix_nat]
      have := congrArg (fun l => l[0]?) hR
      simpa using this
    simp only [ends] at he
    split at he
    · rename_i hc
      have hS2 := (g1.keep x hx (dec_true.1 hc)).le g4
      have := ih hS2 (setN_aft _ _ _) (by omega) hd ⟨R, by
        rw [show (n.fat + 1).toNat = n.fat.toNat + 1 by omega, ← List.drop_drop, hR]; rfl⟩ (by omega) (fun y hy => hv y (List.mem_cons_of_mem _ hy)) he hC
      rw [show n.fat + ((A.length + 1 : Nat) : Int) = n.fat + 1 + A.length by omega]
      exact this
    · cases he
  | @del k x A B h ih =>
    intro s e a d hS hs h0 hd hR hl hv he hC
    obtain ⟨R, hR⟩ := hR
    simp only [List.length_cons] at hl ⊢
    obtain ⟨n, g1, rfl, rfl, g4⟩ := node hS hs h0 (by omega) (by omega)
    have hS2 := (g1.skip (by omega)).le (d' := d + 1) (by omega)
    have := ih hS2 hs (by omega) (by omega) ⟨R, by
        rw [show (n.fat + 1).toNat = n.fat.toNat + 1 by omega, ← List.drop_drop, hR]; rfl⟩ (by omega) hv he (by omega)
    rw [show n.fat + ((A.length + 1 : Nat) : Int) = n.fat + 1 + A.length by omega, show d + ((k + 1 : Nat) : Int) = d + 1 + k by omega]
    exact this
  | @ins k y A B h ih =>
    intro s e a d hS hs h0 hd hR hl hv he hC
    obtain ⟨n, g1, rfl, rfl, g4⟩ := node hS hs h0 (by omega) (by omega)
    have hvy := hv y List.mem_cons_self
    simp only [ends] at he
    split at he
    · rename_i hc
      have hS2 := (g1.ins y hvy.1 hvy.2 (dec_true.1 hc)).le (d' := d + 1) (by omega)
      have := ih hS2 (setN_aft _ _ _) h0 (by omega) hR hl (fun y hy => hv y (List.mem_cons_of_mem _ hy)) he (by omega)
      rw [show d + ((k + 1 : Nat) : Int) = d + 1 + k by omega]
      exact this
    · cases he
theorem none_nearer {t : TTask} (hi : SetN t.init t.facts) {plan : List Int} {c C : Int} {m : Mp'} {ns : List Trepair_node} {q : List (List Int)} (hB : Bs t plan c m ns q) (hall : ∀ i n, ix ns i = some n → n.change < C → Hd t plan m n) (h0 : Sat m t.init 0 0)
    {st : List Int} (hv : ∀ x ∈ st, (0 : Int) ≤ x ∧ x < t.operators.length) (hw : works t t.init st) : C ≤ dm plan st := by
  obtain ⟨e, h1, h2⟩ := hw
  rcases Int.lt_or_le (dm plan st : Int) C with h | h
  · exfalso
    have hS := sat_ed hB hall (dm_ed plan st) h0 hi (Int.le_refl 0) (Int.le_refl 0) ⟨[], by simp⟩ (by omega) hv h1 (by omega)
    obtain ⟨v, g1, g2⟩ := hS
    obtain ⟨i, n, k1, k2, k3, k4⟩ := hB.m2 e _ v (ends_setN hi h1) (by omega) (by omega) g1
    refine (hall i n k1 (by omega)).goal (by omega) ?_
    rw [k2]; exact h2
  · exact h
/-- A plan that is found. -/
structure Found (t : TTask) (plan st : List Int) (d : Int) : Prop where
  ok : ∀ x ∈ st, (0 : Int) ≤ x ∧ x < t.operators.length
  sol : works t t.init st
  d0 : 0 ≤ d
  ed : Ed d.toNat plan st
  low : ∀ other, (∀ x ∈ other, (0 : Int) ≤ x ∧ x < t.operators.length) → works t t.init other → d ≤ dm plan other
def Res (t : TTask) (plan : List Int) (o : List Int × Int × Bool × TFault) : Prop :=
  ∃ st d, Found t plan st d ∧ ((st.length ≤ 60 ∧ o = (st, d, true, ⟨0, 0⟩)) ∨ (60 < st.length ∧ o = ([], 0, false, ⟨10, -5⟩)))
theorem Bs.next {t : TTask} {plan : List Int} {c : Int} {m : Mp'} {ns : List Trepair_node} {q : List (List Int)} (h : Bs t plan c m ns q) : Bs t plan (c + 1) m ns q :=
  { h with
    node := fun i n hi => by obtain ⟨h1, h2, h3⟩ := h.node i n hi; exact ⟨h1, by omega, h3⟩
    vl := fun p hp => by have := h.vl p hp; omega }
def allHd (t : TTask) (plan : List Int) (c : Int) (m : Mp') (ns : List Trepair_node) : Prop := ∀ i n, ix ns i = some n → n.change < c → Hd t plan m n
theorem allHd.step {t : TTask} {plan : List Int} {c : Int} {m m' : Mp'} {ns ns' : List Trepair_node} {q q' : List (List Int)} (h : allHd t plan c m ns) (hB : Bs t plan c m ns q) (hB' : Bs t plan c m' ns' q') (hs : Stp c m ns q m' ns' q') : allHd t plan c m' ns' := fun i n hi hl => by
  obtain ⟨row, p, g1, g2⟩ := hB'.qn i n hi
  rw [hs.old _ hl] at g1
  obtain ⟨n0, k1, k2⟩ := hB.qs _ _ g1 i (ix_mem g2)
  have := hs.nst i n0 k1
  rw [hi] at this
  cases this
  exact (h i n k1 hl).mono hs
theorem plan_inner {t : TTask} (ht : TaskOk t) {plan : List Int} (hp : PlanOk t plan) {c : Int} (hc : 0 ≤ c) {m : Mp'} {ns : List Trepair_node} {q : List (List Int)} (h : Rd t plan c m ns q) (hall : allHd t plan c m ns) (hsat : Sat m t.init 0 0) :
    ∃ o, Loop (repair_Plan_l2 t plan c) (m, ns, q, 0) = some o ∧ ((∃ m' ns' q', o = .inl (m', ns', q') ∧ Rd t plan c m' ns' q' ∧ allHd t plan (c + 1) m' ns' ∧ Sat m' t.init 0 0 ∧ q'.length + pot c m' ≤ q.length + pot c m) ∨ ∃ x, o = .inr x ∧ Res t plan x) := by
  have hsm := h.small
  refine Loop_inv (body := repair_Plan_l2 t plan c) (s := (m, ns, q, 0))
    (fun s => Rd t plan c s.1 s.2.1 s.2.2.1 ∧ allHd t plan c s.1 s.2.1 ∧ Sat s.1 t.init 0 0 ∧ s.2.2.1.length + pot c s.1 ≤ q.length + pot c m ∧ 0 ≤ s.2.2.2 ∧
      ∀ row, ix s.2.2.1 c = some row → s.2.2.2 ≤ row.length ∧ ∀ p i n, p < s.2.2.2 → ix row p = some i → ix s.2.1 i = some n → Hd t plan s.1 n)
    (fun o => (∃ m' ns' q', o = .inl (m', ns', q') ∧ Rd t plan c m' ns' q' ∧ allHd t plan (c + 1) m' ns' ∧ Sat m' t.init 0 0 ∧ q'.length + pot c m' ≤ q.length + pot c m) ∨ ∃ x, o = .inr x ∧ Res t plan x)
    (fun s => ((ix s.2.2.1 c).getD []).length + pot c s.1 - s.2.2.2.toNat) ⟨h, hall, hsat, Nat.le_refl _, Int.le_refl _, fun row _ => ⟨by simp only; omega, fun p i n hp' hi => by have := ix_lo hi; simp only at hp'; omega⟩⟩
    (fun s hP => ?_)
  obtain ⟨m1, ns1, q1, j⟩ := s
  obtain ⟨h1, h2, h3, h4, h5, h6⟩ := hP
  simp only at h1 h2 h3 h4 h5 h6
  have hs1 := h1.small
  obtain ⟨row, hrow, _⟩ := ix_of (l := q1) hc h1.ql
  obtain ⟨g1, g2⟩ := h6 row hrow
  have hrl := h1.bs.rl _ _ hrow
  unfold repair_Plan_l2
  simp only [hrow, Option.bind_some]
  by_cases cj : j < (row.length : Int)
  · rw [if_pos cj]
    obtain ⟨i, hi, _⟩ := ix_of (l := row) h5 cj
    obtain ⟨n, hn, hnc⟩ := h1.bs.qs _ _ hrow i (ix_mem hi)
    obtain ⟨hok, _, st, hch, hway⟩ := h1.bs.node i n hn
    simp only [hi, Option.bind_some, hn]
    have htest : (if n.fat = (plan.length : Int) then Option.bind (strips_Contains n.fs t.goal) fun a92 => some a92 else some false) = some (dec (n.fat = plan.length ∧ ∀ x ∈ t.goal, x ∈ n.fs)) := by
      by_cases e : n.fat = (plan.length : Int)
      · rw [if_pos e, contains_eq hok.set.1 ht.goal.1 (by have := hok.set.len; have := ht.n1; omega)]
        exact congrArg some (dec_congr ⟨fun g => ⟨e, g⟩, fun g => g.2⟩)
      · rw [if_neg e, dec_no (fun g => e g.1)]
    rw [htest]
    simp only [Option.bind_some]
    by_cases cg : n.fat = plan.length ∧ ∀ x ∈ t.goal, x ∈ n.fs
    · rw [if_pos (dec_of cg), steps_spec hs1.2 hch (ix_lo hn).2.1]
      simp only [Option.bind_some]
      have hF : Found t plan st c := {
        ok := hway.1
        sol := ⟨n.fs, hway.2.1, cg.2⟩
        d0 := hc
        ed := by
          have := hway.2.2
          rw [hnc, cg.1] at this
          simpa using this
        low := fun other ho hw => none_nearer ht.init h1.bs h2 h3 ho hw }
      right
      by_cases c60 : (60 : Int) < st.length
      · rw [if_pos c60]
        exact ⟨_, rfl, .inr ⟨_, rfl, st, c, hF, .inr ⟨by omega, rfl⟩⟩⟩
      · rw [if_neg c60]
        exact ⟨_, rfl, .inr ⟨_, rfl, st, c, hF, .inl ⟨by omega, rfl⟩⟩⟩
    · rw [if_neg (by rw [dec_true]; exact cg)]
      obtain ⟨m2, ns2, q2, k1, k2, k3, k4⟩ := expand_spec ht hp hc h1 hn hnc (fun e g => cg ⟨e, g⟩)
      rw [k1, w64_of (by omega) (by omega)]
      simp only [Option.bind_some]
      left
      obtain ⟨row2, r1, r2⟩ := k3.pend row hrow
      refine ⟨(m2, ns2, q2, j + 1), rfl, ⟨k2, h2.step h1.bs k2.bs k3, k3.keep h3, by have := k3.psi; simp only; omega, by simp only; omega, fun row' hr' => ?_⟩, ?_⟩
      · obtain ⟨e, he⟩ := k3.row c row hrow
        simp only at hr' ⊢
        rw [he] at hr'
        cases hr'
        refine ⟨by simp; omega, fun p i' n' hp' hi' hn' => ?_⟩
        have hp0 := (ix_lo hi').1
        obtain ⟨i2, hi2, _⟩ := ix_of (l := row) hp0 (by omega)
        have e2 : ix (row ++ e) p = ix row p := by
          rw [show p = ((p.toNat : Nat) : Int) by omega, ix_nat, ix_nat, List.getElem?_append_left (by omega)]
        rw [e2, hi2] at hi'
        cases hi'
        obtain ⟨n2, hn2, _⟩ := h1.bs.qs _ _ hrow i' (ix_mem hi2)
        have := k3.nst _ _ hn2
        rw [hn'] at this
        cases this
        by_cases ep : p = j
        · subst ep
          rw [hi] at hi2
          cases hi2
          rw [hn] at hn2
          cases hn2
          exact k4
        · exact (g2 p i' n' (by omega) hi2 hn2).mono k3
      · simp only [r1, hrow, Option.getD_some]
        omega
  · rw [if_neg cj]
    right
    refine ⟨_, rfl, .inl ⟨m1, ns1, q1, rfl, h1, fun i n hi hl => ?_, h3, h4⟩⟩
    by_cases e : n.change = c
    · obtain ⟨r, p, k1, k2⟩ := h1.bs.qn i n hi
      rw [e, hrow] at k1
      cases k1
      exact g2 p i n (by have := ix_lo k2; omega) k2 hi
    · exact h2 i n hi (by omega)
theorem plan_outer {t : TTask} (ht : TaskOk t) {plan : List Int} (hp : PlanOk t plan) {m : Mp'} {ns : List Trepair_node} {q : List (List Int)} (h : Rd t plan 0 m ns q) (hsat : Sat m t.init 0 0) :
    ∃ o, Loop (repair_Plan_l1 t plan) (m, ns, q, 0) = some o ∧ ((o = .inl () ∧ ∀ st, (∀ x ∈ st, (0 : Int) ≤ x ∧ x < t.operators.length) → ¬ works t t.init st) ∨ ∃ x, o = .inr x ∧ Res t plan x) := by
  refine Loop_inv (body := repair_Plan_l1 t plan) (s := (m, ns, q, 0))
    (fun s => 0 ≤ s.2.2.2 ∧ s.2.2.2 ≤ s.2.2.1.length ∧ Bs t plan s.2.2.2 s.1 s.2.1 s.2.2.1 ∧ s.2.1.length + pot s.2.2.2 s.1 ≤ 2 * univ.length ∧ allHd t plan s.2.2.2 s.1 s.2.1 ∧ Sat s.1 t.init 0 0)
    (fun o => (o = .inl () ∧ ∀ st, (∀ x ∈ st, (0 : Int) ≤ x ∧ x < t.operators.length) → ¬ works t t.init st) ∨ ∃ x, o = .inr x ∧ Res t plan x)
    (fun s => s.2.2.1.length + pot s.2.2.2 s.1 - s.2.2.2.toNat) ⟨Int.le_refl _, by simp only; omega, h.bs, h.nb, fun i n hi hl => by have := (h.bs.node i n hi).1.ch0; simp only at hl; omega, hsat⟩ (fun s hP => ?_)
  obtain ⟨m1, ns1, q1, c⟩ := s
  obtain ⟨h1, h2, h3, h4, h5, h6⟩ := hP
  simp only at h1 h2 h3 h4 h5 h6
  unfold repair_Plan_l1
  dsimp only
  by_cases cq : c < (q1.length : Int)
  · rw [if_pos cq]
    obtain ⟨o, g1, g2⟩ := plan_inner ht hp h1 ⟨h3, h4, cq⟩ h5 h6
    rw [g1]
    rcases g2 with ⟨m2, ns2, q2, rfl, k1, k2, k3, k4⟩ | ⟨x, rfl, hx⟩
    · left
      have := k1.small
      refine ⟨(m2, ns2, q2, c + 1), by simp only [Option.bind_some]; rw [w64_of (by omega) (by omega)], ⟨by simp only; omega, ?_, k1.bs.next, ?_, k2, k3⟩, ?_⟩
      · have := k1.ql; simp only; omega
      · have := k1.nb
        have := late_mono (c := c) (c' := c + 1) (by omega) m2
        simp only [pot] at *
        omega
      · have := late_mono (c := c) (c' := c + 1) (by omega) m2
        simp only [pot] at *
        omega
    · right
      exact ⟨_, rfl, .inr ⟨x, rfl, hx⟩⟩
  · rw [if_neg cq]
    right
    refine ⟨_, rfl, .inl ⟨rfl, fun st hv hw => ?_⟩⟩
    have hall : ∀ i n, ix ns1 i = some n → n.change < ((dm plan st : Nat) : Int) + 1 → Hd t plan m1 n := fun i n hi _ => h5 i n hi (by
      obtain ⟨r, p, k1, _⟩ := h3.qn i n hi
      have := ix_lo k1
      omega)
    have := none_nearer ht.init h3 hall h6 hv hw
    omega
end Ab
end
section
namespace Ab
open Go
/-- The states that are reached. -/
inductive Rt (t : TTask) : List Int → Prop
  | init : Rt t t.init
  | step {s : List Int} {op : Int} (h : Rt t s) (h0 : 0 ≤ op) (h1 : op < t.operators.length) (hc : can t s op) : Rt t (aft t s op)
theorem Rt.setN {t : TTask} (ht : TaskOk t) {s : List Int} (h : Rt t s) : SetN s t.facts := by
  cases h with
  | init => exact ht.init
  | step => exact setN_aft _ _ _
theorem Rt.ends {t : TTask} : ∀ {plan s e : List Int}, Rt t s → (∀ x ∈ plan, (0 : Int) ≤ x ∧ x < t.operators.length) → ends t s plan = some e → Rt t e
  | [], s, e, hs, _, h => by simp only [Ab.ends, Option.some.injEq] at h; subst h; exact hs
  | op :: r, s, e, hs, hv, h => by
    simp only [Ab.ends] at h
    split at h
    · rename_i hc
      have := hv op List.mem_cons_self
      exact Rt.ends (hs.step this.1 this.2 (dec_true.1 hc)) (fun x hx => hv x (List.mem_cons_of_mem _ hx)) h
    · cases h
def Cls (t : TTask) (l : List (List Int)) (s : List Int) : Prop := ∀ op : Int, 0 ≤ op → op < t.operators.length → can t s op → aft t s op ∈ l
theorem Rt.mem {t : TTask} {l : List (List Int)} (hi : t.init ∈ l) (hc : ∀ s ∈ l, Cls t l s) {s : List Int} (h : Rt t s) : s ∈ l := by
  induction h with
  | init => exact hi
  | step h h0 h1 hcan ih => exact hc _ ih _ h0 h1 hcan
theorem kone_eq {s : List Int} (hs : small s) (h1 : s.length ≤ 1000) : belief_Key [s] = some (keyK [s]) := by
  refine key_eq (by simp [hs]) ?_
  have := encS_len s
  simp only [encK, List.flatMap_cons, List.flatMap_nil, List.append_nil]
  omega
theorem kone_inj {t : TTask} (ht : TaskOk t) {s s' : List Int} (h : SetN s t.facts) (h' : SetN s' t.facts) (e : keyK [s] = keyK [s']) : s = s' := by
  have := keyK_inj (fun x hx => by simp at hx; subst hx; exact small_set ht h) (fun x hx => by simp at hx; subst hx; exact small_set ht h') e
  simpa using this
theorem containsAny_eq {l : List (List Int)} {f : List Int → Option Bool} {p : List Int → Prop} (h : ∀ x ∈ l, f x = some (dec (p x))) : slices_ContainsFunc_LLint l f = some (dec (∃ x ∈ l, p x)) := by
  unfold slices_ContainsFunc_LLint slices_IndexFunc_LLint
  rcases rngX_test (body := slices_IndexFunc_LLint_l1 l f) (n := (l.length : Int)) (fun j => if dec (∃ x, ix l j = some x ∧ p x) = true then some j else none) (by omega) (fun j h0 h1 _ => by
    obtain ⟨x, hx, _⟩ := ix_of (l := l) h0 h1
    unfold slices_IndexFunc_LLint_l1
    simp only [hx, Option.bind_some, h x (ix_mem hx)]
    by_cases e : p x
    · rw [ifP e, ifP ⟨x, rfl, e⟩]
    · rw [ifN e, ifN (by rintro ⟨z, hz, hp⟩; cases hz; exact e hp)]) with ⟨h1, h2⟩ | ⟨j, o, h0, h1, h2, h3, h4⟩
  · rw [h1]
    simp only [Option.bind_some]
    rw [dec_no]
    · rfl
    · rintro ⟨x, hx, hp⟩
      obtain ⟨i, i0, i1, hi⟩ := mem_ix hx
      have := h2 i i0 i1
      rw [ifP ⟨x, hi, hp⟩] at this
      cases this
  · rw [h4]
    split at h2
    · rename_i e
      cases h2
      simp only [Option.bind_some]
      obtain ⟨x, hx, hp⟩ := dec_true.1 e
      rw [dec_of ⟨x, ix_mem hx, hp⟩, decide_eq_true h0]
    · cases h2
theorem sure_one {s pre : List Int} (hs : Inc s) (hp : Inc pre) (hl : s.length ≤ 1000000) : belief_Sure [s] pre = some (dec (∀ x ∈ pre, x ∈ s)) := by
  unfold belief_Sure
  rw [containsAny_eq (p := fun y => ¬ ∀ x ∈ pre, x ∈ y) (fun x hx => by
    simp only [List.mem_singleton] at hx
    subst hx
    unfold belief_Sure_1
    rw [contains_eq hs hp hl]
    simp only [Option.bind_some, dec_not])]
  simp only [Option.bind_some, dec_not]
  refine congrArg some (dec_congr ⟨fun h => Classical.byContradiction fun g => h ⟨s, by simp, g⟩, fun h => ?_⟩)
  rintro ⟨x, hx, hn⟩
  simp only [List.mem_singleton] at hx
  subst hx
  exact hn h
theorem after_one {t : TTask} (ht : TaskOk t) {s : List Int} (hs : SetN s t.facts) {op : Int} (h0 : 0 ≤ op) (h1 : op < t.operators.length) : belief_After t [s] op = some [aft t s op] := by
  have e : forR 0 (([s] : List (List Int)).length : Int) (belief_After_l1 t [s] op) [] = some [aft t s op] := by
    show forN (belief_After_l1 t [s] op) 1 0 [] = _
    simp only [forN]
    have e0 : ix [s] 0 = some s := rfl
    have e1 : app 24 ([] : List (List Int)) [aft t s op] = some [aft t s op] := rfl
    unfold belief_After_l1
    simp only [e0, Option.bind_some, next_eq ht h0 h1 hs, e1]
  unfold belief_After
  rw [e]
  simp only [Option.bind_some]
  obtain ⟨r, r1, r2, r3, _⟩ := normal_eq (l := [aft t s op]) (by simp)
  rw [r1]
  simp only [Option.bind_some]
  rw [Ord.ext r2 (by simp) r3]
structure Bq (t : TTask) (l : List (List Int)) (m : Mp') (qu : List Tbelief_entry_int) : Prop where
  node : qu.map (·.node) = l.map (fun s => [s])
  nd : l.Nodup
  rt : ∀ s ∈ l, Rt t s
  map : ∀ s, SetN s t.facts → (0 < (mget m (keyK [s])).getD 0 ↔ s ∈ l)
  len : l.length ≤ 2000
theorem Bq.ql {t : TTask} {l : List (List Int)} {m : Mp'} {qu : List Tbelief_entry_int} (h : Bq t l m qu) : qu.length = l.length := by
  have := congrArg List.length h.node
  simpa using this
theorem Bq.at {t : TTask} {l : List (List Int)} {m : Mp'} {qu : List Tbelief_entry_int} (h : Bq t l m qu) {i : Int} {e : Tbelief_entry_int} (hi : ix qu i = some e) : ∃ s, ix l i = some s ∧ e.node = [s] := by
  obtain ⟨h0, h1, h2⟩ := ix_lo hi
  have hg := congrArg (fun l => l[i.toNat]?) h.node
  simp only [List.getElem?_map, h2, Option.map_some] at hg
  cases hs : l[i.toNat]? with
  | none => rw [hs] at hg; cases hg
  | some s =>
    rw [hs] at hg
    simp only [Option.map_some, Option.some.injEq] at hg
    refine ⟨s, ?_, hg⟩
    rw [show i = ((i.toNat : Nat) : Int) by omega, ix_nat]
    exact hs
def Many (t : TTask) : Prop := ∃ l : List (List Int), l.Nodup ∧ l.length = 2001 ∧ ∀ s ∈ l, Rt t s
theorem breadth_in {t : TTask} (ht : TaskOk t) {l : List (List Int)} {m : Mp'} {qu : List Tbelief_entry_int} (h : Bq t l m qu) {c : Int} {e : Tbelief_entry_int} {s : List Int} (hs : s ∈ l) (he : e.node = [s]) :
    (∃ l' m' qu', belief_Breadth_int_w_r4 t.facts t.init t.goal t.operators qu m c e = some (.inl (m', qu')) ∧ Bq t l' m' qu' ∧ (∃ ex, l' = l ++ ex) ∧ Cls t l' s) ∨ (∃ y, belief_Breadth_int_w_r4 t.facts t.init t.goal t.operators qu m c e = some (.inr y) ∧ Many t) := by
  have hsN := (h.rt s hs).setN ht
  have h24 := ht.n1
  unfold belief_Breadth_int_w_r4
  rcases rngX_inv (body := belief_Breadth_int_w_l3 t.facts t.init t.goal t.operators c e) (n := (t.operators.length : Int)) (s := (m, qu))
    (fun j st => ∃ l', Bq t l' st.1 st.2 ∧ (∃ ex, l' = l ++ ex) ∧ ∀ op : Int, 0 ≤ op → op < j → can t s op → aft t s op ∈ l')
    (fun o => ∃ y, o = .inr y ∧ Many t) (by omega) ⟨l, h, ⟨[], by simp⟩, fun op o0 o1 => by omega⟩
    (fun j st j0 j1 hP => by
      obtain ⟨m1, qu1⟩ := st
      obtain ⟨l1, g1, g2, g3⟩ := hP
      simp only at g1
      have hop := ht.at j0 j1
      have hnew := setN_aft t s j
      unfold belief_Breadth_int_w_l3
      simp only [ix_op j0 j1, Option.bind_some, he]
      rw [sure_one hsN.1 hop.1.1.1 (by have := hsN.len; omega)]
      simp only [Option.bind_some]
      by_cases hc : can t s j
      · rw [if_pos (dec_of (show ∀ x ∈ (opAt t j).pre, x ∈ s from hc))]
        have ea : belief_After (⟨t.facts, t.init, t.goal, t.operators⟩ : TTask) [s] j = some [aft t s j] := after_one ht hsN j0 j1
        rw [ea]
        simp only [Option.bind_some, kone_eq (small_set ht hnew) (by have := hnew.len; omega)]
        by_cases hm : aft t s j ∈ l1
        · rw [if_pos ((g1.map _ hnew).2 hm)]
          refine .inl ⟨_, rfl, l1, g1, g2, fun op o0 o1 oc => ?_⟩
          by_cases eo : op = j
          · subst eo; exact hm
          · exact g3 op o0 (by omega) oc
        · rw [if_neg (fun hx => hm ((g1.map _ hnew).1 hx))]
          have hrt : Rt t (aft t s j) := (h.rt s hs).step j0 j1 hc
          have hnd : (l1 ++ [aft t s j]).Nodup := by
            rw [List.nodup_append]
            refine ⟨g1.nd, by simp, fun a ha b hb eab => ?_⟩
            simp only [List.mem_singleton] at hb
            subst hb; subst eab; exact hm ha
          have hrs : ∀ y ∈ l1 ++ [aft t s j], Rt t y := fun y hy => by
            rcases List.mem_append.1 hy with hy | hy
            · exact g1.rt y hy
            · simp only [List.mem_singleton] at hy; subst hy; exact hrt
          have hql := g1.ql
          have hlen := g1.len
          by_cases hq : (qu1.length : Int) = 2000
          · rw [if_pos hq]
            exact .inr ⟨_, rfl, _, rfl, l1 ++ [aft t s j], hnd, by simp; omega, hrs⟩
          · rw [if_neg hq]
            have ha : app 40 qu1 [(⟨[aft t s j], c, j⟩ : Tbelief_entry_int)] = some (qu1 ++ [⟨[aft t s j], c, j⟩]) := by rw [app, if_pos (by simp; omega)]
            rw [ha]
            refine .inl ⟨_, rfl, l1 ++ [aft t s j], ⟨by simp [g1.node], hnd, hrs, fun y hy => ?_, by simp; omega⟩, ?_, fun op o0 o1 oc => ?_⟩
            · simp only
              rw [mget_mset]
              by_cases ek : keyK [y] = keyK [aft t s j]
              · rw [if_pos ek, kone_inj ht hy hnew ek]; simp
              · rw [if_neg ek, g1.map y hy, List.mem_append, List.mem_singleton]
                exact ⟨.inl, fun g => g.elim id fun g => absurd (by rw [g]) ek⟩
            · obtain ⟨ex, rfl⟩ := g2
              exact ⟨ex ++ [aft t s j], by simp⟩
            · by_cases eo : op = j
              · subst eo; simp
              · exact List.mem_append_left _ (g3 op o0 (by omega) oc)
      · rw [if_neg (show ¬ dec (∀ x ∈ (opAt t j).pre, x ∈ s) = true from fun g => hc (dec_true.1 g))]
        refine .inl ⟨_, rfl, l1, g1, g2, fun op o0 o1 oc => ?_⟩
        by_cases eo : op = j
        · subst eo; exact absurd oc hc
        · exact g3 op o0 (by omega) oc) with ⟨⟨m', qu'⟩, h1, l', h2, h3, h4⟩ | ⟨o, h1, y, rfl, h2⟩
  · left
    rw [h1]
    exact ⟨l', m', qu', rfl, h2, h3, h4⟩
  · right
    rw [h1]
    exact ⟨y, rfl, h2⟩
theorem breadth_spec {t : TTask} (ht : TaskOk t) : ∃ b, belief_Small_int_w [t.init] t.facts t.init t.goal t.operators = some b ∧ (b = false → Many t) ∧ (b = true → ∃ l : List (List Int), l.Nodup ∧ l.length ≤ 2000 ∧ ∀ s, s ∈ l ↔ Rt t s) := by
  have h24 := ht.n1
  unfold belief_Small_int_w belief_Breadth_int_w
  rw [kone_eq (small_set ht ht.init) (by have := ht.init.len; omega)]
  simp only [Option.bind_some]
  obtain ⟨o, h1, h2⟩ := Loop_inv (body := belief_Breadth_int_w_l1 t.facts t.init t.goal t.operators) (s := ([(⟨[t.init], -1, 0⟩ : Tbelief_entry_int)], mset ([] : List (ByteArray × Int)) (keyK [t.init]) 1, 0))
    (fun s => ∃ l, Bq t l s.2.1 s.1 ∧ t.init ∈ l ∧ 0 ≤ s.2.2 ∧ s.2.2 ≤ l.length ∧ ∀ (k : Int) (x : List Int), k < s.2.2 → ix l k = some x → Cls t l x)
    (fun o => (o = .inl () ∧ ∃ l : List (List Int), l.Nodup ∧ l.length ≤ 2000 ∧ ∀ s, s ∈ l ↔ Rt t s) ∨ (o = .inr ([], false, false) ∧ Many t))
    (fun s => 2001 - s.2.2.toNat) ⟨[t.init], ⟨rfl, by simp, fun s hs => by simp at hs; subst hs; exact .init, fun s hs => by
      simp only
      rw [mget_mset]
      by_cases ek : keyK [s] = keyK [t.init]
      · rw [if_pos ek, kone_inj ht hs ht.init ek]; simp
      · rw [if_neg ek]
        simp only [mget, Option.getD_none, List.mem_singleton]
        exact ⟨fun h => by omega, fun g => absurd (by rw [g]) ek⟩, by simp⟩, by simp, by simp only; omega, by simp only; omega, fun k x hk hx => by have := ix_lo hx; simp only at hk; omega⟩
    (fun s hP => by
      obtain ⟨qu, m, c⟩ := s
      obtain ⟨l, g1, g2, g3, g4, g5⟩ := hP
      simp only at g1 g3 g4 g5
      have hql := g1.ql
      have hlen := g1.len
      unfold belief_Breadth_int_w_l1
      dsimp only
      by_cases cc : c < (qu.length : Int)
      · rw [if_pos cc]
        obtain ⟨e, he, _⟩ := ix_of (l := qu) g3 cc
        obtain ⟨s, hs, hn⟩ := g1.at he
        simp only [he, Option.bind_some, belief_Small_int_1, belief_Next_1_w, belief_Successors_w]
        rw [if_neg (by simp)]
        rcases breadth_in ht g1 (c := c) (ix_mem hs) hn with ⟨l', m', qu', k1, k2, ⟨ex, rfl⟩, k4⟩ | ⟨⟨y1, y2⟩, k1, k2⟩
        · left
          rw [k1]
          refine ⟨(qu', m', c + 1), by simp only [Option.bind_some]; rw [w64_of (by omega) (by omega)], ⟨l ++ ex, k2, List.mem_append_left _ g2, by simp only; omega, by simp only [List.length_append]; omega, fun k x hk hx => ?_⟩, by simp only; omega⟩
          simp only at hk
          have hx0 := ix_lo hx
          have hx2 : ix l k = some x := by
            rw [show k = ((k.toNat : Nat) : Int) by omega, ix_nat] at hx ⊢
            rwa [List.getElem?_append_left (by omega)] at hx
          by_cases ek : k = c
          · subst ek
            rw [hs] at hx2; cases hx2
            exact k4
          · exact fun op o0 o1 oc => List.mem_append_left _ (g5 k x (by omega) hx2 op o0 o1 oc)
        · right
          rw [k1]
          exact ⟨_, rfl, .inr ⟨rfl, k2⟩⟩
      · rw [if_neg cc]
        right
        refine ⟨_, rfl, .inl ⟨rfl, l, g1.nd, hlen, fun s => ⟨g1.rt s, fun hs => hs.mem g2 fun x hx => ?_⟩⟩⟩
        obtain ⟨k, k0, k1, k2⟩ := mem_ix hx
        exact g5 k x (by omega) k2)
  rw [h1]
  rcases h2 with ⟨rfl, h2⟩ | ⟨rfl, h2⟩
  · exact ⟨true, rfl, by simp, fun _ => h2⟩
  · exact ⟨false, rfl, fun _ => h2, by simp⟩
end Ab
end
