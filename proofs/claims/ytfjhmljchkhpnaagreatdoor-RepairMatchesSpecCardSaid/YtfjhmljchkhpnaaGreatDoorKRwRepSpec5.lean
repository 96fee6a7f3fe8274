/-
  Texts that the proof stands on.
-/
import Derived.Test.YtfjhmljchkhpnaaGreatDoorKRwRepSpec4
set_option linter.all false
section
namespace Ab
open Go Go.Proofs
open Tryz
set_option maxHeartbeats 4000000
set_option linter.all false
attribute [local irreducible] AWP AOps thn inB Done d9 s5 Sub
theorem ab6 {t : d5} {plan : List Int} {r : (List Int) × Int × Bool × j6} (h : G9 t plan = some r) : d9 prog 5 [.agg (tT t), .c (row 1 intI plan)] (.tup [.c (row 1 intI r.1), .c (int r.2.1), .c (bool r.2.2.1), .agg [int r.2.2.2.code, int r.2.2.2.index]]) := by
 unfold d9
 refine FnOk.enter (rs := [.t 4, .t 5, .t 6, .cell 7 27 2]) func5 Z ntmps5 results5 Z ⟨trivial, trivial, trivial, rv _ Z, Y⟩ (by kernel_rfl) Z ?_
 unfold G9 at h
 refine AWP.g (.j (W.box Z Z Z Z Z Z (.q Z Z (.q Z Z (.q Z Z (W.alloc Z Z Z Z (.nil (b5 (.g (.g ?_))))))))))
 obtain ⟨a16, ha16, h⟩ := b8 h
 refine AWP.j (W.loadAgg Z Z Z Z Z Z Z (.e Z Z (.E Z Z Z Z (ad3 ha16) Z (W.alloc Z Z Z Z (W.storeAgg Z Z Z Z Z Z Z (.nil (b5 (.g (.j (W.loadAgg Z Z Z Z Z Z Z (W.build Z Z Z Z (.neqP Z Z Z Z Z Z Z (.nil (b5 (.ag Z h (fun hc3 h => ?_) (fun hc3 h => ?_))))))))))))))))
 ·refine AWP.g (.drawEI [4] mixed Z Z Z ?_)
  refine e8.consN Z Z (fun E => W.loadAgg Z Z Z Z Z Z Z .N) Z (.consN Z Z (fun E => AOps.q Z Z .N) Z (.consN Z Z (fun E => AOps.q Z Z .N) Z (.consN Z Z (fun E => AOps.q Z Z .N) Z ?_)))
  apply e8.consE (v := .undef); exact Z; exact Z; intro E
  refine W.storeAgg Z Z Z Z Z Z Z .N
  exact Z
  exact Z
  refine e8.done Z ?_ ?_
  ·refine b9.cons Z Z ?_ ?_
   refine b7.go Z Z (fun E => W.loadAgg Z Z Z Z Z Z Z .N) ?_
   refine b7.skip Z (b7.nil)
   refine b9.cons Z Z ?_ ?_
   refine b7.go Z Z (fun E => AOps.q Z Z .N) ?_
   refine b7.skip Z (b7.nil)
   refine b9.cons Z Z ?_ ?_
   refine b7.go Z Z (fun E => AOps.q Z Z .N) ?_
   refine b7.skip Z (b7.nil)
   refine b9.cons Z Z ?_ ?_
   refine b7.go Z Z (fun E => AOps.q Z Z .N) ?_
   refine b7.skip Z (b7.nil)
   refine b9.skip Z (b9.nil)
  dsimp only [i4]
  refine b5 (.nilrow 1 4 Z (.ret (d4 ?_)))
  obtain rfl := oi h
  exact Done.ret Z Z
 ·refine AWP.skip (b5 (.g (.g ?_)))
  obtain ⟨a25, ha25, a26, ha26, h⟩ := b2 h
  refine AWP.sub (s' := ⟨[(0, .agg (tT t)), (1, .c (row 1 intI plan)), (2, .c (.ptr 0 0 0)), (4, .c (.imm (.val nL))), (5, .c (int 0)), (6, .c (bool false)), (7, .c (.ptr 1 0 0)), (8, .c (.ptr 2 0 0)), (14, .agg (tT t)), (15, .c (row 1 intI plan)), (16, .agg [int a16.code, int a16.index]), (17, .agg [int a16.code, int a16.index]), (18, .agg [int 0, int 0]), (19, .c (bool (!((decide (a16.code = 0)) && (decide (a16.index = 0))))))], [.one (.cells 4 [(tT t)]), .one (.cells 2 [[int 0, int 0]]), .one (.cells 2 [[int a16.code, int a16.index]]), .dead, .dead]⟩) (Sub.cut ⟨Z, Z, Z, Z, Z, Z, Z, Z, Z, Z, Z, Z, Z, Z, Y⟩ Z ⟨.one Z, .one Z, .one Z, .dead, .dead, Y⟩ Z) (.drawTI [.c (.ptr 0 0 1), .c (row 1 intI t.init), .c (.own 3 0 ([t.init].length)), .agg (tT t), .c (.fn 42 [.ptr 4 0 0]), .c (bool a26), .c (bool (!a26))] [2, 4, 5] [([], [.one (.cells 4 [(tT t)]), .one (.cells 2 [[int 0, int 0]]), .one (.cells 2 [[int a16.code, int a16.index]]), .dead, .dead]), ([2], [.one (.cells 4 [(tT t)]), .one (.cells 2 [[int 0, int 0]]), .one (.cells 2 [[int a16.code, int a16.index]]), .one (vec 1 e7 [t.init]), .dead]), ([4], [.one (.cells 4 [(tT t)]), .one (.cells 2 [[int 0, int 0]]), .one (.cells 2 [[int a16.code, int a16.index]]), .dead, .one (.cells 4 [(tT t)])]), ([2, 4], [.one (.cells 4 [(tT t)]), .one (.cells 2 [[int 0, int 0]]), .one (.cells 2 [[int a16.code, int a16.index]]), .one (vec 1 e7 [t.init]), .one (.cells 4 [(tT t)])]), ([2, 4, 5], [.one (.cells 4 [(tT t)]), .one (.cells 2 [[int 0, int 0]]), .one (.cells 2 [[int a16.code, int a16.index]]), .dead, .one (.cells 4 [(tT t)])])] [.one (.cells 4 [(tT t)]), .one (.cells 2 [[int 0, int 0]]), .one (.cells 2 [[int a16.code, int a16.index]]), .dead, .one (.cells 4 [(tT t)])] mixed Z Z Z Z Z ?_ ?_)
  ·refine E7.cons ?_ ?_
   ·apply i5.go; exact Z; exact Z; exact Z; intro E hE; (refine W.fieldAddr Z Z Z Z ?_); exact AOps.nil ⟨Z, Z⟩
    apply i5.go; exact Z; exact Z; exact Z; intro E hE; (refine AOps.z Z Z Z Z Z Z ?_); exact AOps.nil ⟨Z, Z⟩
    apply i5.eff; exact Z; exact Z; exact Z; exact Z; intro E hE; (refine AOps.newAt 3 (.c (.own 3 0 ([t.init].length))) (vec 1 e7 [t.init]) (.inl Z) Z hE Z Z Z Z (.vec) (.vec) Z Z Z ⟨.one Z, .one Z, .one Z, .dead, .dead, Y⟩ (fun hh => by (refine S.lit (f := e7) (l := [t.init]) (ess := [[row 1 intI t.init]]) Z Z Z Z Z Z Z ⟨⟨.inl Z, Y⟩, Y⟩ Z Z Z ?_; exact hh)) ?_); exact AOps.nil ⟨Z, Z⟩
    apply i5.go; exact Z; exact Z; exact Z; intro E hE; (refine W.loadAgg Z Z Z Z Z Z Z ?_); exact AOps.nil ⟨Z, Z⟩
    apply i5.eff; exact Z; exact Z; exact Z; exact Z; intro E hE; (refine AOps.newAt 4 (.c (.fn 42 [.ptr 4 0 0])) (.cells 4 [(tT t)]) (.inl Z) Z hE Z Z Z Z (.one Z) (.one Z) Z Z Z ⟨.one Z, .one Z, .one Z, .dead, .dead, Y⟩ (fun hh => by (refine AOps.callF (r2 := .c (.fn 42 [.ptr 5 0 0])) (σ'' := [.one (.cells 4 [(tT t)]), .one (.cells 2 [[int 0, int 0]]), .one (.cells 2 [[int a16.code, int a16.index]]), .dead, .dead, .one (.cells 4 [(tT t)])]) Z Z Z (FnOk.lend [] (X1 ha25) Z Z Z Z Z Z (by exact trivial) Z (by exact trivial) Z Z (by exact ⟨(.old Z Z Z), (.old Z Z Z), (.old Z Z Z), .dead, .dead, (.new 0 Z Z (.one Z)), Y⟩)) ?_; exact hh)) ?_); exact AOps.nil ⟨Z, Z⟩
    refine i5.no Z (i5.no Z (i5.nil))
   refine E7.cons ?_ ?_
   ·refine i5.no Z (i5.no Z (i5.no Z ?_))
    apply i5.go; exact Z; exact Z; exact Z; intro E hE; (refine W.loadAgg Z Z Z Z Z Z Z ?_); exact AOps.nil ⟨Z, Z⟩
    apply i5.eff; exact Z; exact Z; exact Z; exact Z; intro E hE; (refine AOps.newAt 4 (.c (.fn 42 [.ptr 4 0 0])) (.cells 4 [(tT t)]) (.inl Z) Z hE Z Z Z Z (.one Z) (.one Z) Z Z Z ⟨.one Z, .one Z, .one Z, .vec, .dead, Y⟩ (fun hh => by (refine AOps.callF (r2 := .c (.fn 42 [.ptr 5 0 0])) (σ'' := [.one (.cells 4 [(tT t)]), .one (.cells 2 [[int 0, int 0]]), .one (.cells 2 [[int a16.code, int a16.index]]), .one (vec 1 e7 [t.init]), .dead, .one (.cells 4 [(tT t)])]) Z Z Z (FnOk.lend [] (X1 ha25) Z Z Z Z Z Z (by exact trivial) Z (by exact trivial) Z Z (by exact ⟨(.old Z Z Z), (.old Z Z Z), (.old Z Z Z), (.old Z Z Z), .dead, (.new 0 Z Z (.one Z)), Y⟩)) ?_; exact hh)) ?_); exact AOps.nil ⟨Z, Z⟩
    refine i5.no Z (i5.no Z (i5.nil))
   refine E7.cons ?_ ?_
   ·apply i5.go; exact Z; exact Z; exact Z; intro E hE; (refine W.fieldAddr Z Z Z Z ?_); exact AOps.nil ⟨Z, Z⟩
    apply i5.go; exact Z; exact Z; exact Z; intro E hE; (refine AOps.z Z Z Z Z Z Z ?_); exact AOps.nil ⟨Z, Z⟩
    apply i5.eff; exact Z; exact Z; exact Z; exact Z; intro E hE; (refine AOps.newAt 3 (.c (.own 3 0 ([t.init].length))) (vec 1 e7 [t.init]) (.inl Z) Z hE Z Z Z Z (.vec) (.vec) Z Z Z ⟨.one Z, .one Z, .one Z, .dead, .one Z, Y⟩ (fun hh => by (refine S.lit (f := e7) (l := [t.init]) (ess := [[row 1 intI t.init]]) Z Z Z Z Z Z Z ⟨⟨.inl Z, Y⟩, Y⟩ Z Z Z ?_; exact hh)) ?_); exact AOps.nil ⟨Z, Z⟩
    refine i5.no Z (i5.no Z (i5.no Z (i5.no Z (i5.nil))))
   refine E7.cons ?_ ?_
   ·refine i5.no Z (i5.no Z (i5.no Z (i5.no Z (i5.no Z ?_))))
    apply i5.eff; exact Z; exact Z; exact Z; exact Z; intro E hE; (refine AOps.callF (r2 := .c (bool a26)) (σ'' := [.one (.cells 4 [(tT t)]), .one (.cells 2 [[int 0, int 0]]), .one (.cells 2 [[int a16.code, int a16.index]]), .dead, .one (.cells 4 [(tT t)])]) Z Z Z (FnOk.lend [3, 4] (ab8 ha26) Z Z Z Z Z Z (by exact ⟨.vec, (.one Z), Y⟩) Z (by exact ⟨(.live Z .vec), (.live Z (.one Z)), Y⟩) Z Z (by exact ⟨(.old Z Z Z), (.old Z Z Z), (.old Z Z Z), .dead, (.new 1 Z Z (.one Z)), Y⟩)) ?_); exact AOps.nil ⟨Z, Z⟩
    refine i5.no Z (i5.nil)
   refine E7.cons ?_ ?_
   ·refine i5.no Z (i5.no Z (i5.no Z (i5.no Z (i5.no Z (i5.no Z ?_)))))
    apply i5.go; exact Z; exact Z; exact Z; intro E hE; (refine AOps.ab Z Z ?_); exact AOps.nil ⟨Z, Z⟩
    exact i5.nil
   exact E7.nil
  dsimp only [i4]
  refine b5 (.ag Z h (fun hc4 h => ?_) (fun hc4 h => ?_))
  ·refine AWP.g (.j (W.build Z Z Z Z (.q Z Z (.q Z Z (.q Z Z (W.storeAgg Z Z Z Z Z Z Z (.nil (b5 (.nilrow 1 4 Z (.ret (d4 ?_)))))))))))
   obtain rfl := oi h
   exact Done.ret Z Z
  ·refine AWP.skip (b5 (.g (.j (W.loadAgg Z Z Z Z Z Z Z (.e Z Z (W.makeMap Value.string vI Z Z Z (W.buildP Z Z Z Z (W.box Z Z Z Z Z Z (.q Z Z (.nil (b5 (.g (.virtB 5 d7 (b := 6) (o := 5) Z Z Z Z Z Z (.virtBM 1 intI (b := 6) (o := 6) Z Z Z Z Z Z Z Z ?_))))))))))))))
   obtain ⟨a38, ha38, h⟩ := b8 h
   refine AWP.j (.e Z Z (W.fieldAddr Z Z Z Z (.z Z Z Z Z Z Z (W.build Z Z Z Z (.callF (r2 := .tup []) (σ'' := [.one (.cells 4 [(tT t)]), .one (.cells 2 [[int 0, int 0]]), .one (.cells 2 [[int a16.code, int a16.index]]), .dead, .one (.cells 4 [(tT t)]), .one (mapB Value.string vI a38.1), .one (.cells 8 [[int t.facts, row 1 intI t.init, row 1 intI t.goal, row 4 d8 t.operators, row 1 intI plan, .own 9 0 a38.2.1.length, .own 10 0 a38.2.2.length, .map 5]]), .dead, .dead, .one (vec 5 d7 a38.2.1), mat (10, []) 1 intI a38.2.2]) Z Z Z (FnOk.lend [6, 7, 8, 5] (w9 ha38) Z Z Z Z Z Z (by exact ⟨(.one Z), .vec, (.mat Z), (.one Z), Y⟩) Z (by exact ⟨(.live Z (.one Z)), (.live Z .vec), (.live Z .mat), (.live Z (.one Z)), Y⟩) Z Z (by exact ⟨(.old Z Z Z), (.old Z Z Z), (.old Z Z Z), .dead, (.old Z Z Z), (.new 3 Z Z (.one Z)), (.new 0 Z Z (.one Z)), .dead, .dead, (.new 4 Z Z .vec), (.new 5 Z Z .mat), Y⟩)) (.nil (b5 (.g (.g (.j (.q Z Z (.nil (b5 (.U ?_))))))))))))))
   obtain ⟨oo, ho1, h⟩ := b8 h
   refine AWP.loopS ho1 (fun (c5, c6, c7, change8) => ⟨[(1, .c (row 1 intI plan)), (2, .c (.ptr 0 0 0)), (7, .c (.ptr 1 0 0)), (9, .c (.ptr 6 0 0)), (10, .c (int change8))], [.one (.cells 4 [(tT t)]), .one (.cells 2 [[int 0, int 0]]), .dead, .dead, .dead, .one (mapB Value.string vI c5), .one (.cells 8 [[int t.facts, row 1 intI t.init, row 1 intI t.goal, row 4 d8 t.operators, row 1 intI plan, .own 9 0 c6.length, .own 10 0 c7.length, .map 5]]), .dead, .dead, .one (vec 5 d7 c6), mat (10, []) 1 intI c7]⟩) (fun o e st => match o with | .inl _ => e = .exit 0 ∧ Sub [] st ⟨[(7, .c (.ptr 1 0 0))], [.dead, .one (.cells 2 [[int 0, int 0]])]⟩ | .inr x => e = .ret ∧ Done [.t 4, .t 5, .t 6, .cell 7 27 2] (fun t _ => t = .tup [.c (row 1 intI x.1), .c (int x.2.1), .c (bool x.2.2.1), .agg [int x.2.2.2.code, int x.2.2.2.index]]) .ret st) ?_ ?_ ?_
   ·try dsimp only
    exact Sub.cut ⟨Z, Z, Z, Z, Z, Y⟩ Z ⟨.one Z, .one Z, .dead, .dead, .dead, .one Z, .one Z, .dead, .dead, .vec, .mat Z, Y⟩ Z
   ·intro s o h
    obtain ⟨c5, c6, c7, change8⟩ := s
    unfold H4 at h
    try dsimp only at h ⊢
    refine AWP.g (.g (.j (.e Z Z (.e Z Z (.ai Z Z Z (W.fieldAddr Z Z Z Z (.z Z Z Z Z Z Z (S.lenM Z Z Z (fun hl44 => .F Z Z Z (.nil (b5 (.ite Z h (fun hc9 h => ?_) (fun hc9 h => ?_)))))))))))))
    ·refine AWP.skip (b5 (.g (.U (.g (.j (.q Z Z (.nil (b5 (.U ?_)))))))))
     obtain ⟨oo, ho2, h⟩ := b8 h
     refine AWP.loopS ho2 (fun (c10, c11, c12, j13) => ⟨[(1, .c (row 1 intI plan)), (2, .c (.ptr 0 0 0)), (7, .c (.ptr 1 0 0)), (9, .c (.ptr 6 0 0)), (10, .c (int change8)), (11, .c (int j13))], [.one (.cells 4 [(tT t)]), .one (.cells 2 [[int 0, int 0]]), .dead, .dead, .dead, .one (mapB Value.string vI c10), .one (.cells 8 [[int t.facts, row 1 intI t.init, row 1 intI t.goal, row 4 d8 t.operators, row 1 intI plan, .own 9 0 c11.length, .own 10 0 c12.length, .map 5]]), .dead, .dead, .one (vec 5 d7 c11), mat (10, []) 1 intI c12]⟩) (fun o e st => match o with | .inl (c14, c15, c16) => e = .exit 2 ∧ Sub [] st ⟨[(1, .c (row 1 intI plan)), (2, .c (.ptr 0 0 0)), (7, .c (.ptr 1 0 0)), (9, .c (.ptr 6 0 0)), (10, .c (int change8))], [.one (.cells 4 [(tT t)]), .one (.cells 2 [[int 0, int 0]]), .dead, .dead, .dead, .one (mapB Value.string vI c14), .one (.cells 8 [[int t.facts, row 1 intI t.init, row 1 intI t.goal, row 4 d8 t.operators, row 1 intI plan, .own 9 0 c15.length, .own 10 0 c16.length, .map 5]]), .dead, .dead, .one (vec 5 d7 c15), mat (10, []) 1 intI c16]⟩ | .inr x => e = .ret ∧ Done [.t 4, .t 5, .t 6, .cell 7 27 2] (fun t _ => t = .tup [.c (row 1 intI x.1), .c (int x.2.1), .c (bool x.2.2.1), .agg [int x.2.2.2.code, int x.2.2.2.index]]) .ret st) ?_ ?_ ?_
     ·try dsimp only
      exact Sub.env ⟨Z, Z, Z, Z, Z, Z, Y⟩
     ·intro s o h
      obtain ⟨c10, c11, c12, j13⟩ := s
      unfold H2 at h
      try dsimp only at h ⊢
      refine AWP.g (.g ?_)
      obtain ⟨a54, ha54, h⟩ := b8 h
      refine AWP.j (.e Z Z (.e Z Z (.ai Z Z Z (W.fieldAddr Z Z Z Z (.z Z Z Z Z Z Z (.e Z Z (S.idxH ha54 Z Z Z (by simp) Z Z (S.loadM ha54 Z Z Z Z (S.lenO Z (g8 Z ha54) Z (fun hl56 => .F Z Z Z (.nil (b5 (.ite Z h (fun hc17 h => ?_) (fun hc17 h => ?_))))))))))))))
      ·refine AWP.skip (b5 (.g (.U (.g ?_))))
       obtain ⟨a65, ha65, a68, ha68, h⟩ := b2 h
       refine AWP.j (.e Z Z (.ai Z Z Z (W.fieldAddr Z Z Z Z (.z Z Z Z Z Z Z (.e Z Z (S.idxH ha65 Z Z Z (by simp) Z Z (S.loadM ha65 Z Z Z Z (.e Z Z (S.idxO ha68 Z Z (g8 Z ha65) Z Z (S.loadO ha68 Z Z (g8 Z ha65) Z Z (.q Z Z (.nil (b5 (.g ?_))))))))))))))
       obtain ⟨t18, hx19, h⟩ := b8 h
       refine AWP.seqJ (⟨[(1, .c (row 1 intI plan)), (2, .c (.ptr 0 0 0)), (7, .c (.ptr 1 0 0)), (9, .c (.ptr 6 0 0)), (10, .c (int change8)), (11, .c (int j13)), (12, .c (int a68)), (93, .c (bool t18))], [.one (.cells 4 [(tT t)]), .one (.cells 2 [[int 0, int 0]]), .dead, .dead, .dead, .one (mapB Value.string vI c10), .one (.cells 8 [[int t.facts, row 1 intI t.init, row 1 intI t.goal, row 4 d8 t.operators, row 1 intI plan, .own 9 0 c11.length, .own 10 0 c12.length, .map 5]]), .dead, .dead, .one (vec 5 d7 c11), mat (10, []) 1 intI c12]⟩) ?_ ?_
       ·obtain ⟨a75, ha75, hx19⟩ := b8 hx19
        rcases bft (decide (a75.fat = (plan.length : Int))) with hb20 | hb20
        ·replace hx19 := x5 hb20 hx19
         obtain ⟨a87, ha87, a92, ha92, hx19⟩ := b2 hx19
         refine AWP.drawI mixed Z ?_
         refine f7.consF Z (fun E => AOps.e Z Z .N) Z (.consF Z (fun E => AOps.ai Z Z Z .N) Z (.consF Z (fun E => W.fieldAddr Z Z Z Z .N) Z (.consF Z (fun E => AOps.z Z Z Z Z Z Z .N) Z (.consF Z (fun E => AOps.e Z Z .N) Z (.consF Z (fun E => S.idxO ha75 Z Z Z Z Z .N) Z (.consF Z (fun E => W.fieldAddr Z Z Z Z .N) Z (.consF Z (fun E => S.loadO ha75 Z Z Z Z Z .N) Z (.consF Z (fun E => AOps.e Z Z .N) Z (.consF Z (fun E => S.len Z Z (fun hl79 => .nil ⟨Z, Z⟩)) Z (.consF Z (fun E => AOps.aa Z Z Z .N) Z (.consF Z (fun E => AOps.e Z Z .N) Z (.consF Z (fun E => AOps.u Z Z Z hb20 (.e Z Z .N)) Z (.consF Z (fun E => AOps.u Z Z Z hb20 (.ai Z Z Z .N)) Z (.consF Z (fun E => AOps.u Z Z Z hb20 (W.fieldAddr Z Z Z Z .N)) Z (.consF Z (fun E => AOps.u Z Z Z hb20 (.z Z Z Z Z Z Z .N)) Z (.consF Z (fun E => AOps.u Z Z Z hb20 (.e Z Z .N)) Z (.consF Z (fun E => AOps.u Z Z Z hb20 (S.idxO ha87 Z Z Z Z Z .N)) Z (.consF Z (fun E => AOps.u Z Z Z hb20 (W.fieldAddr Z Z Z Z .N)) Z (.consF Z (fun E => AOps.u Z Z Z hb20 (S.loadO ha87 Z Z Z Z Z .N)) Z (.consF Z (fun E => AOps.u Z Z Z hb20 (W.fieldAddr Z Z Z Z .N)) Z (.consF Z (fun E => AOps.u Z Z Z hb20 (.z Z Z Z Z Z Z .N)) Z (.consF Z (fun E => AOps.u Z Z Z hb20 (.E Z Z Z Z (K5 ha92) Z .N)) Z (.consF Z (fun E => AOps.J Z hb20 Z Z .N) Z ?_)))))))))))))))))))))))
         refine f7.done ?_
         dsimp only [i4]
         obtain rfl := oi hx19
         refine b5 (Sub.env ⟨Z, Z, Z, Z, Z, Z, Z, Z, Y⟩)
        ·replace hx19 := x4 hb20 hx19
         refine AWP.drawI mixed Z ?_
         refine f7.consF Z (fun E => AOps.e Z Z .N) Z (.consF Z (fun E => AOps.ai Z Z Z .N) Z (.consF Z (fun E => W.fieldAddr Z Z Z Z .N) Z (.consF Z (fun E => AOps.z Z Z Z Z Z Z .N) Z (.consF Z (fun E => AOps.e Z Z .N) Z (.consF Z (fun E => S.idxO ha75 Z Z Z Z Z .N) Z (.consF Z (fun E => W.fieldAddr Z Z Z Z .N) Z (.consF Z (fun E => S.loadO ha75 Z Z Z Z Z .N) Z (.consF Z (fun E => AOps.e Z Z .N) Z (.consF Z (fun E => S.len Z Z (fun hl79 => .nil ⟨Z, Z⟩)) Z (.consF Z (fun E => AOps.aa Z Z Z .N) Z (.consF Z (fun E => AOps.e Z Z .N) Z (.consF Z (fun E => AOps.v Z Z Z hb20 .N) Z (.consF Z (fun E => AOps.v Z Z Z hb20 .N) Z (.consF Z (fun E => AOps.v Z Z Z hb20 .N) Z (.consF Z (fun E => AOps.v Z Z Z hb20 .N) Z (.consF Z (fun E => AOps.v Z Z Z hb20 .N) Z (.consF Z (fun E => AOps.v Z Z Z hb20 .N) Z (.consF Z (fun E => AOps.v Z Z Z hb20 .N) Z (.consF Z (fun E => AOps.v Z Z Z hb20 .N) Z (.consF Z (fun E => AOps.v Z Z Z hb20 .N) Z (.consF Z (fun E => AOps.v Z Z Z hb20 .N) Z (.consF Z (fun E => AOps.v Z Z Z hb20 .N) Z (.consF Z (fun E => AOps.O Z hb20 Z Z .N) Z ?_)))))))))))))))))))))))
         refine f7.done ?_
         dsimp only [i4]
         obtain rfl := oi hx19
         refine b5 (Sub.env ⟨Z, Z, Z, Z, Z, Z, Z, Z, Y⟩)
       ·refine AWP.ag Z h (fun hc21 h => ?_) (fun hc21 h => ?_)
        ·refine AWP.g ?_
         obtain ⟨a96, ha96, h⟩ := b8 h
         refine AWP.j (.e Z Z (.e Z Z (.callF (r2 := .c (row 1 intI a96)) (σ'' := [.one (.cells 4 [(tT t)]), .one (.cells 2 [[int 0, int 0]]), .dead, .dead, .dead, .one (mapB Value.string vI c10), .one (.cells 8 [[int t.facts, row 1 intI t.init, row 1 intI t.goal, row 4 d8 t.operators, row 1 intI plan, .own 9 0 c11.length, .own 10 0 c12.length, .map 5]]), .dead, .dead, .one (vec 5 d7 c11), mat (10, []) 1 intI c12]) Z Z Z (FnOk.lend [6, 9, 10, 5] (U7 ha96) Z Z Z Z Z Z (by exact ⟨(.one Z), .vec, (.mat Z), (.one Z), Y⟩) Z (by exact ⟨(.live Z (.one Z)), (.live Z .vec), (.live Z .mat), (.live Z (.one Z)), Y⟩) Z Z (by exact ⟨(.old Z Z Z), (.old Z Z Z), .dead, .dead, .dead, (.new 3 Z Z (.one Z)), (.new 0 Z Z (.one Z)), .dead, .dead, (.new 1 Z Z .vec), (.new 2 Z Z .mat), Y⟩)) (.q Z Z (.nil (b5 (.g (.g (.j (.e Z Z (S.len Z Z (fun hl98 => .gtr Z Z Z (.nil (b5 (.ite Z h (fun hc22 h => ?_) (fun hc22 h => ?_))))))))))))))))
         ·refine AWP.g (.j (W.build Z Z Z Z (.q Z Z (.q Z Z (.q Z Z (W.storeAgg Z Z Z Z Z Z Z (.nil (b5 (.nilrow 1 4 Z (.ret (d4 (d4 (f8 (d4 ?_))))))))))))))
          obtain rfl := oi h
          refine d4 ⟨_, Z, Z, ?_⟩
          exact Done.ret Z Z
         ·refine AWP.skip (b5 (.g (.j (.e Z Z (.e Z Z (W.build Z Z Z Z (.q Z Z (.q Z Z (.q Z Z (W.storeAgg Z Z Z Z Z Z Z (.nil (b5 (.ret (d4 (f8 (d4 ?_))))))))))))))))
          obtain rfl := oi h
          refine d4 ⟨_, Z, Z, ?_⟩
          exact Done.ret Z Z
        ·refine AWP.skip (b5 ?_)
         obtain ⟨a106, ha106, h⟩ := b8 h
         refine AWP.j (.e Z Z (.e Z Z (.callF (r2 := .tup []) (σ'' := [.one (.cells 4 [(tT t)]), .one (.cells 2 [[int 0, int 0]]), .dead, .dead, .dead, .one (mapB Value.string vI a106.1), .one (.cells 8 [[int t.facts, row 1 intI t.init, row 1 intI t.goal, row 4 d8 t.operators, row 1 intI plan, .own 21 0 a106.2.1.length, .own 22 0 a106.2.2.length, .map 5]]), .dead, .dead, .dead, .dead, .dead, .dead, .dead, .dead, .dead, .dead, .dead, .dead, .dead, .dead, .one (vec 5 d7 a106.2.1), mat (22, []) 1 intI a106.2.2]) Z Z Z (FnOk.lend [6, 9, 10, 5] (T7 ha106) Z Z Z Z Z Z (by exact ⟨(.one Z), .vec, (.mat Z), (.one Z), Y⟩) Z (by exact ⟨(.live Z (.one Z)), (.live Z .vec), (.live Z .mat), (.live Z (.one Z)), Y⟩) Z Z (by exact ⟨(.old Z Z Z), (.old Z Z Z), .dead, .dead, .dead, (.new 3 Z Z (.one Z)), (.new 0 Z Z (.one Z)), .dead, .dead, .dead, .dead, .dead, .dead, .dead, .dead, .dead, .dead, .dead, .dead, .dead, .dead, (.new 14 Z Z .vec), (.new 15 Z Z .mat), Y⟩)) (.nil (e6 (b5 (.j (.e Z Z (S.add Z Z Z (.q Z Z (.nil ?_)))))))))))
         obtain rfl := oi h
         refine b5 ⟨_, Z, ?_⟩
         exact (Sub.move (env' := [(1, .c (row 1 intI plan)), (2, .c (.ptr 0 0 0)), (7, .c (.ptr 1 0 0)), (9, .c (.ptr 6 0 0)), (10, .c (int change8)), (11, .c (int (w64 (j13 + 1))))]) (σ' := [.one (.cells 4 [(tT t)]), .one (.cells 2 [[int 0, int 0]]), .dead, .dead, .dead, .one (mapB Value.string vI a106.1), .one (.cells 8 [[int t.facts, row 1 intI t.init, row 1 intI t.goal, row 4 d8 t.operators, row 1 intI plan, .own 9 0 a106.2.1.length, .own 22 0 a106.2.2.length, .map 5]]), .dead, .dead, .one (vec 5 d7 a106.2.1), .dead, .dead, .dead, .dead, .dead, .dead, .dead, .dead, .dead, .dead, .dead, .dead, mat (22, []) 1 intI a106.2.2]) 9 21 Z Z Z ⟨Z, Z, Z, Z, Z, Z, Y⟩ Z ⟨⟨Z, Z⟩, ⟨Z, Z⟩, trivial, trivial, trivial, ⟨Z, Z⟩, ⟨Z, Z⟩, trivial, trivial, ⟨Blk.im_ok _ _ _, j9 Z⟩, trivial, trivial, trivial, trivial, trivial, trivial, trivial, trivial, trivial, trivial, trivial, trivial, .mat Z Z Z, Y⟩).trans ((Sub.moveM (env' := [(1, .c (row 1 intI plan)), (2, .c (.ptr 0 0 0)), (7, .c (.ptr 1 0 0)), (9, .c (.ptr 6 0 0)), (10, .c (int change8)), (11, .c (int (w64 (j13 + 1))))]) (σ' := [.one (.cells 4 [(tT t)]), .one (.cells 2 [[int 0, int 0]]), .dead, .dead, .dead, .one (mapB Value.string vI a106.1), .one (.cells 8 [[int t.facts, row 1 intI t.init, row 1 intI t.goal, row 4 d8 t.operators, row 1 intI plan, .own 9 0 a106.2.1.length, .own 10 0 a106.2.2.length, .map 5]]), .dead, .dead, .one (vec 5 d7 a106.2.1), mat (10, []) 1 intI a106.2.2, .dead, .dead, .dead, .dead, .dead, .dead, .dead, .dead, .dead, .dead, .dead]) 10 22 Z Z Z ⟨Z, Z, Z, Z, Z, Z, Y⟩ Z ⟨(.one Z Z), (.one Z Z), .dead, .dead, .dead, (.one Z Z), (.one Z Z), .dead, .dead, (.vec Z), (.mat Z Z Z), .dead, .dead, .dead, .dead, .dead, .dead, .dead, .dead, .dead, .dead, .dead, Y⟩).trans (Sub.cut ⟨Z, Z, Z, Z, Z, Z, Y⟩ Z ⟨.one Z, .one Z, .dead, .dead, .dead, .one Z, .one Z, .dead, .dead, .vec, .mat Z, Y⟩ Z))
      ·refine AWP.exit (d6 ?_)
       obtain rfl := oi h
       refine d6 ⟨_, Z, Z, ?_⟩
       exact Sub.env ⟨Z, Z, Z, Z, Z, Y⟩
     ·intro e s hq
      rcases oo with ⟨c14, c15, c16⟩ | x
      ·try dsimp only at h hq
       obtain ⟨rfl, hs⟩ := hq
       refine ⟨_, hs, ?_⟩
       refine f9 (e6 (b5 (.j (.e Z Z (S.add Z Z Z (.q Z Z (.nil ?_)))))))
       obtain rfl := oi h
       refine b5 ⟨_, Z, ?_⟩
       exact Sub.env ⟨Z, Z, Z, Z, Z, Y⟩
      ·try dsimp only at h hq
       obtain ⟨rfl, hs⟩ := hq
       refine ⟨_, Sub.refl _ _, ?_⟩
       refine f8 (f8 (d4 ?_))
       obtain rfl := oi h
       refine d4 ⟨_, Z, Z, ?_⟩
       exact hs
    ·refine AWP.exit (d6 ?_)
     obtain rfl := oi h
     refine d6 ⟨_, Z, Z, ?_⟩
     exact Sub.cut ⟨Z, Y⟩ Z ⟨.dead, .one Z, Y⟩ Z
   ·intro e s hq
    rcases oo with u | x
    ·try dsimp only at h hq
     obtain ⟨rfl, hs⟩ := hq
     refine ⟨_, hs, ?_⟩
     refine f9 (b5 (.g (.j (W.build Z Z Z Z (.q Z Z (.q Z Z (.q Z Z (W.storeAgg Z Z Z Z Z Z Z (.nil (b5 (.nilrow 1 4 Z (.ret ?_))))))))))))
     obtain rfl := oi h
     exact Done.ret Z Z
    ·try dsimp only at h hq
     obtain ⟨rfl, hs⟩ := hq
     refine ⟨_, Sub.refl _ _, ?_⟩
     refine f8 (d4 ?_)
     obtain rfl := oi h
     exact hs
theorem N6 {nv : Int} {low : Int} {high : Int} {r : Bool} (h : Q8 nv low high = some r) : d9 prog 32 [.c (int nv), .c (int low), .c (int high)] (.c (bool r)) := by
 unfold d9
 refine FnOk.enter (rs := [.t 6]) func32 Z ntmps32 results32 Z ⟨trivial, Y⟩ (by kernel_rfl) Z ?_
 unfold Q8 at h
 refine AWP.g (.j (.q Z Z (.nil (b5 (.seqJ (⟨[(6, .c (bool ((decide (low ≤ nv)) && (decide (nv ≤ high)))))], []⟩) ?_ ?_)))))
 ·rcases bft (decide (low ≤ nv)) with hb1 | hb1
  ·refine AWP.j (.e Z Z (.e Z Z (.geq Z Z Z (.e Z Z (.u Z Z Z hb1 (.e Z Z (.u Z Z Z hb1 (.e Z Z (.u Z Z Z hb1 (.leq Z Z Z (.J Z hb1 Z Z (.q Z Z (.nil (b5 ?_))))))))))))))
   simp only [and_t hb1, or_t hb1, Bool.false_or, Bool.true_or, Bool.false_and, Bool.true_and]
   exact Sub.env ⟨Z, Y⟩
  ·refine AWP.j (.e Z Z (.e Z Z (.geq Z Z Z (.e Z Z (.v Z Z Z hb1 (.v Z Z Z hb1 (.v Z Z Z hb1 (.O Z hb1 Z Z (.q Z Z (.nil (b5 ?_)))))))))))
   simp only [and_f hb1, or_f hb1, Bool.false_or, Bool.true_or, Bool.false_and, Bool.true_and]
   exact Sub.env ⟨Z, Y⟩
 ·refine AWP.ret ?_
  obtain rfl := oi h
  exact Done.ret Z Z
theorem F3 {code : Int} {index : Int} {r : j6} (h : H6 code index = some r) : d9 prog 31 [.c (int code), .c (int index)] (.agg [int r.code, int r.index]) := by
 unfold d9
 refine FnOk.enter (rs := [.cell 4 27 2]) func31 Z ntmps31 results31 Z ⟨rv _ Z, Y⟩ (by kernel_rfl) Z ?_
 unfold H6 at h
 refine AWP.g (.j (W.alloc Z Z Z Z (.nil (b5 (.g (.j (.e Z Z (.e Z Z (W.build Z Z Z Z (W.storeAgg Z Z Z Z Z Z Z (.nil (b5 (.ret ?_)))))))))))))
 obtain rfl := oi h
 exact Done.ret Z Z
theorem o9 {l : List Int} {nv : Int} {r : Bool} (h : B9 l nv = some r) : d9 prog 48 [.c (row 1 intI l), .c (int nv)] (.c (bool r)) := by
 unfold d9
 refine FnOk.enter (rs := [.t 4]) func48 Z ntmps48 results48 Z ⟨trivial, Y⟩ (by kernel_rfl) Z ?_
 unfold B9 at h
 refine AWP.g (.j (.q Z Z (.nil (b5 (.g (.g (.j (.q Z Z (.nil (b5 (.U ?_)))))))))))
 obtain ⟨oo, ho1, h⟩ := b8 h
 refine AWP.rngS ho1 (fun iv3 _ => ⟨[(0, .c (row 1 intI l)), (1, .c (int nv)), (5, .c (int iv3))], []⟩) (fun o e st => match o with | .inl _ => e = .exit 0 ∧ Sub [] st ⟨[], []⟩ | .inr x => e = .ret ∧ Done [.t 4] (fun t _ => t = .c (bool x)) .ret st) ?_ ?_ ?_ ?_
 ·try dsimp only
  exact Sub.env ⟨Z, Z, Z, Y⟩
 ·intro iv3 s hloiv3 hltiv3 _
  try dsimp only
  refine AWP.g (.g (.j (.e Z Z (.e Z Z (S.len Z Z (fun hl8 => .F Z Z Z (.nil (b5 (.ad Z hltiv3 (.exit (d6 (d6 ⟨Z, ?_⟩))))))))))))
  exact Sub.env trivial
 ·intro iv3 s o hloiv3 hltiv3 h
  unfold P1 at h
  try dsimp only at h ⊢
  refine AWP.g (.g (.j (.e Z Z (.e Z Z (S.len Z Z (fun hl8 => .F Z Z Z (.nil (b5 (.ae Z hltiv3 (.skip (b5 (.g (.U ?_)))))))))))))
  obtain ⟨t4, hx5, h⟩ := b8 h
  refine AWP.seqJ (⟨[(0, .c (row 1 intI l)), (1, .c (int nv)), (5, .c (int iv3)), (35, .c (bool t4))], []⟩) ?_ ?_
  ·obtain ⟨a14, ha14, a18, ha18, hx5⟩ := b2 hx5
   rcases bft (!a18) with hb6 | hb6
   ·replace hx5 := A9 hb6 hx5
    refine AWP.drawI mixed Z ?_
    refine f7.consF Z (fun E => AOps.e Z Z .N) Z (.consF Z (fun E => AOps.e Z Z .N) Z (.consF Z (fun E => S.idx ha14 Z Z Z Z .N) Z (.consF Z (fun E => AOps.ac Z Z Z Z .N) Z (.consF Z (fun E => AOps.e Z Z .N) Z (.consF Z (fun E => S.sub Z Z Z .N) Z (.consF Z (fun E => AOps.E Z Z Z Z (N6 ha18) Z .N) Z (.consF Z (fun E => AOps.ab Z Z .N) Z (.consF Z (fun E => AOps.e Z Z .N) Z (.consF Z (fun E => AOps.v Z Z Z hb6 .N) Z (.consF Z (fun E => AOps.v Z Z Z hb6 .N) Z (.consF Z (fun E => AOps.v Z Z Z hb6 .N) Z (.consF Z (fun E => AOps.af Z Z Z .N) Z (.consF Z (fun E => AOps.af Z Z Z .N) Z (.consF Z (fun E => AOps.af Z Z Z .N) Z (.consF Z (fun E => AOps.af Z Z Z .N) Z (.consF Z (fun E => AOps.af Z Z Z .N) Z (.consF Z (fun E => AOps.af Z Z Z .N) Z (.consF Z (fun E => AOps.af Z Z Z .N) Z (.consF Z (fun E => AOps.af Z Z Z .N) Z (.consF Z (fun E => AOps.af Z Z Z .N) Z (.consF Z (fun E => AOps.af Z Z Z .N) Z (.consF Z (fun E => AOps.v Z Z Z hb6 .N) Z (.consF Z (fun E => AOps.J Z hb6 Z Z .N) Z ?_)))))))))))))))))))))))
    refine f7.done ?_
    dsimp only [i4]
    obtain rfl := oi hx5
    refine b5 (Sub.env ⟨Z, Z, Z, Z, Y⟩)
   ·replace hx5 := A7 hb6 hx5
    rcases bft (decide (0 < iv3)) with hb7 | hb7
    ·replace hx5 := x5 hb7 hx5
     obtain ⟨a26, ha26, a31, ha31, hx5⟩ := b2 hx5
     refine AWP.drawI mixed Z ?_
     refine f7.consF Z (fun E => AOps.e Z Z .N) Z (.consF Z (fun E => AOps.e Z Z .N) Z (.consF Z (fun E => S.idx ha14 Z Z Z Z .N) Z (.consF Z (fun E => AOps.ac Z Z Z Z .N) Z (.consF Z (fun E => AOps.e Z Z .N) Z (.consF Z (fun E => S.sub Z Z Z .N) Z (.consF Z (fun E => AOps.E Z Z Z Z (N6 ha18) Z .N) Z (.consF Z (fun E => AOps.ab Z Z .N) Z (.consF Z (fun E => AOps.e Z Z .N) Z (.consF Z (fun E => AOps.u Z Z Z hb6 (.e Z Z .N)) Z (.consF Z (fun E => AOps.u Z Z Z hb6 (.gtr Z Z Z .N)) Z (.consF Z (fun E => AOps.u Z Z Z hb6 (.e Z Z .N)) Z (.consF Z (fun E => AOps.u Z Z Z hb7 (.e Z Z .N)) Z (.consF Z (fun E => AOps.u Z Z Z hb7 (.e Z Z .N)) Z (.consF Z (fun E => AOps.u Z Z Z hb7 (S.idx ha26 Z Z Z Z .N)) Z (.consF Z (fun E => AOps.u Z Z Z hb7 (.ac Z Z Z Z .N)) Z (.consF Z (fun E => AOps.u Z Z Z hb7 (.e Z Z .N)) Z (.consF Z (fun E => AOps.u Z Z Z hb7 (.e Z Z .N)) Z (.consF Z (fun E => AOps.u Z Z Z hb7 (.sub' Z Z Z (by omega) .N)) Z (.consF Z (fun E => AOps.u Z Z Z hb7 (S.idx ha31 Z Z Z Z .N)) Z (.consF Z (fun E => AOps.u Z Z Z hb7 (.ac Z Z Z Z .N)) Z (.consF Z (fun E => AOps.u Z Z Z hb7 (.leq Z Z Z .N)) Z (.consF Z (fun E => AOps.u Z Z Z hb6 (.J Z hb7 Z Z .N)) Z (.consF Z (fun E => AOps.O Z hb6 Z Z .N) Z ?_)))))))))))))))))))))))
     refine f7.done ?_
     dsimp only [i4]
     obtain rfl := oi hx5
     refine b5 (Sub.env ⟨Z, Z, Z, Z, Y⟩)
    ·replace hx5 := x4 hb7 hx5
     refine AWP.drawI mixed Z ?_
     refine f7.consF Z (fun E => AOps.e Z Z .N) Z (.consF Z (fun E => AOps.e Z Z .N) Z (.consF Z (fun E => S.idx ha14 Z Z Z Z .N) Z (.consF Z (fun E => AOps.ac Z Z Z Z .N) Z (.consF Z (fun E => AOps.e Z Z .N) Z (.consF Z (fun E => S.sub Z Z Z .N) Z (.consF Z (fun E => AOps.E Z Z Z Z (N6 ha18) Z .N) Z (.consF Z (fun E => AOps.ab Z Z .N) Z (.consF Z (fun E => AOps.e Z Z .N) Z (.consF Z (fun E => AOps.u Z Z Z hb6 (.e Z Z .N)) Z (.consF Z (fun E => AOps.u Z Z Z hb6 (.gtr Z Z Z .N)) Z (.consF Z (fun E => AOps.u Z Z Z hb6 (.e Z Z .N)) Z (.consF Z (fun E => AOps.v Z Z Z hb7 .N) Z (.consF Z (fun E => AOps.v Z Z Z hb7 .N) Z (.consF Z (fun E => AOps.v Z Z Z hb7 .N) Z (.consF Z (fun E => AOps.v Z Z Z hb7 .N) Z (.consF Z (fun E => AOps.v Z Z Z hb7 .N) Z (.consF Z (fun E => AOps.v Z Z Z hb7 .N) Z (.consF Z (fun E => AOps.v Z Z Z hb7 .N) Z (.consF Z (fun E => AOps.v Z Z Z hb7 .N) Z (.consF Z (fun E => AOps.v Z Z Z hb7 .N) Z (.consF Z (fun E => AOps.v Z Z Z hb7 .N) Z (.consF Z (fun E => AOps.u Z Z Z hb6 (.O Z hb7 Z Z .N)) Z (.consF Z (fun E => AOps.O Z hb6 Z Z .N) Z ?_)))))))))))))))))))))))
     refine f7.done ?_
     dsimp only [i4]
     obtain rfl := oi hx5
     refine b5 (Sub.env ⟨Z, Z, Z, Z, Y⟩)
  ·refine AWP.ag Z h (fun hc8 h => ?_) (fun hc8 h => ?_)
   ·refine AWP.g (.j (.q Z Z (.nil (b5 (.ret (f8 (d4 ?_)))))))
    obtain rfl := oi h
    refine d4 ⟨_, Z, Z, ?_⟩
    exact Done.ret Z Z
   ·refine AWP.skip (e6 (b5 (.j (.e Z Z (.add Z Z Z (by omega) (.q Z Z (.nil ?_)))))))
    obtain rfl := oi h
    refine b5 ⟨_, Z, ?_⟩
    exact Sub.env ⟨Z, Z, Z, Y⟩
 ·intro e s hq
  rcases oo with u | x
  ·try dsimp only at h hq
   obtain ⟨rfl, hs⟩ := hq
   refine ⟨_, hs, ?_⟩
   refine f9 (b5 (.g (.j (.q Z Z (.nil (b5 (.ret ?_)))))))
   obtain rfl := oi h
   exact Done.ret Z Z
  ·try dsimp only at h hq
   obtain ⟨rfl, hs⟩ := hq
   refine ⟨_, Sub.refl _ _, ?_⟩
   refine f8 (d4 ?_)
   obtain rfl := oi h
   exact hs
theorem A0 {l : List Int} {nv : Int} {r : Bool} (h : G7 l nv = some r) : d9 prog 51 [.c (row 1 intI l), .c (int nv)] (.c (bool r)) := by
 unfold d9
 refine FnOk.enter (rs := [.t 4]) func51 Z ntmps51 results51 Z ⟨trivial, Y⟩ (by kernel_rfl) Z ?_
 unfold G7 at h
 refine AWP.g (.j (.q Z Z (.nil (b5 (.g (.g (.j (.q Z Z (.nil (b5 (.U ?_)))))))))))
 obtain ⟨oo, ho1, h⟩ := b8 h
 refine AWP.rngS ho1 (fun iv3 _ => ⟨[(0, .c (row 1 intI l)), (1, .c (int nv)), (5, .c (int iv3))], []⟩) (fun o e st => match o with | .inl _ => e = .exit 0 ∧ Sub [] st ⟨[], []⟩ | .inr x => e = .ret ∧ Done [.t 4] (fun t _ => t = .c (bool x)) .ret st) ?_ ?_ ?_ ?_
 ·try dsimp only
  exact Sub.env ⟨Z, Z, Z, Y⟩
 ·intro iv3 s hloiv3 hltiv3 _
  try dsimp only
  refine AWP.g (.g (.j (.e Z Z (.e Z Z (S.len Z Z (fun hl8 => .F Z Z Z (.nil (b5 (.ad Z hltiv3 (.exit (d6 (d6 ⟨Z, ?_⟩))))))))))))
  exact Sub.env trivial
 ·intro iv3 s o hloiv3 hltiv3 h
  unfold aa2 at h
  try dsimp only at h ⊢
  refine AWP.g (.g (.j (.e Z Z (.e Z Z (S.len Z Z (fun hl8 => .F Z Z Z (.nil (b5 (.ae Z hltiv3 (.skip (b5 (.g (.U (.g ?_))))))))))))))
  obtain ⟨a14, ha14, h⟩ := b8 h
  refine AWP.j (.e Z Z (.e Z Z (S.idx ha14 Z Z Z Z (.ac Z Z Z Z (.e Z Z (.aa Z Z Z (.nil (b5 (.ite Z h (fun hc4 h => ?_) (fun hc4 h => ?_))))))))))
  ·refine AWP.g (.j (.q Z Z (.nil (b5 (.ret (f8 (d4 ?_)))))))
   obtain rfl := oi h
   refine d4 ⟨_, Z, Z, ?_⟩
   exact Done.ret Z Z
  ·refine AWP.skip (e6 (b5 (.j (.e Z Z (.add Z Z Z (by omega) (.q Z Z (.nil ?_)))))))
   obtain rfl := oi h
   refine b5 ⟨_, Z, ?_⟩
   exact Sub.env ⟨Z, Z, Z, Y⟩
 ·intro e s hq
  rcases oo with u | x
  ·try dsimp only at h hq
   obtain ⟨rfl, hs⟩ := hq
   refine ⟨_, hs, ?_⟩
   refine f9 (b5 (.g (.j (.q Z Z (.nil (b5 (.ret ?_)))))))
   obtain rfl := oi h
   exact Done.ret Z Z
  ·try dsimp only at h hq
   obtain ⟨rfl, hs⟩ := hq
   refine ⟨_, Sub.refl _ _, ?_⟩
   refine f8 (d4 ?_)
   obtain rfl := oi h
   exact hs
theorem ag4 {av : List Int} {bv : List Int} {r : Bool} (h : I4 av bv = some r) : d9 prog 49 [.c (row 1 intI av), .c (row 1 intI bv)] (.c (bool r)) := by
 unfold d9
 refine FnOk.enter (rs := [.t 4]) func49 Z ntmps49 results49 Z ⟨trivial, Y⟩ (by kernel_rfl) Z ?_
 unfold I4 at h
 refine AWP.g (.j (.q Z Z (.nil (b5 (.g (.g (.j (.q Z Z (.nil (b5 (.U ?_)))))))))))
 obtain ⟨oo, ho1, h⟩ := b8 h
 refine AWP.rngS ho1 (fun iv3 _ => ⟨[(0, .c (row 1 intI av)), (1, .c (row 1 intI bv)), (5, .c (int iv3))], []⟩) (fun o e st => match o with | .inl _ => e = .exit 0 ∧ Sub [] st ⟨[], []⟩ | .inr x => e = .ret ∧ Done [.t 4] (fun t _ => t = .c (bool x)) .ret st) ?_ ?_ ?_ ?_
 ·try dsimp only
  exact Sub.env ⟨Z, Z, Z, Y⟩
 ·intro iv3 s hloiv3 hltiv3 _
  try dsimp only
  refine AWP.g (.g (.j (.e Z Z (.e Z Z (S.len Z Z (fun hl8 => .F Z Z Z (.nil (b5 (.ad Z hltiv3 (.exit (d6 (d6 ⟨Z, ?_⟩))))))))))))
  exact Sub.env trivial
 ·intro iv3 s o hloiv3 hltiv3 h
  unfold Q0 at h
  try dsimp only at h ⊢
  refine AWP.g (.g (.j (.e Z Z (.e Z Z (S.len Z Z (fun hl8 => .F Z Z Z (.nil (b5 (.ae Z hltiv3 (.skip (b5 (.g (.U (.g ?_))))))))))))))
  obtain ⟨a15, ha15, a17, ha17, h⟩ := b2 h
  refine AWP.j (.e Z Z (.e Z Z (.e Z Z (S.idx ha15 Z Z Z Z (.ac Z Z Z Z (.E Z Z Z Z (A0 ha17) Z (.nil (b5 (.ag Z h (fun hc4 h => ?_) (fun hc4 h => ?_))))))))))
  ·refine AWP.g (.j (.q Z Z (.nil (b5 (.ret (f8 (d4 ?_)))))))
   obtain rfl := oi h
   refine d4 ⟨_, Z, Z, ?_⟩
   exact Done.ret Z Z
  ·refine AWP.skip (e6 (b5 (.j (.e Z Z (.add Z Z Z (by omega) (.q Z Z (.nil ?_)))))))
   obtain rfl := oi h
   refine b5 ⟨_, Z, ?_⟩
   exact Sub.env ⟨Z, Z, Z, Y⟩
 ·intro e s hq
  rcases oo with u | x
  ·try dsimp only at h hq
   obtain ⟨rfl, hs⟩ := hq
   refine ⟨_, hs, ?_⟩
   refine f9 (b5 (.g (.j (.q Z Z (.nil (b5 (.ret ?_)))))))
   obtain rfl := oi h
   exact Done.ret Z Z
  ·try dsimp only at h hq
   obtain ⟨rfl, hs⟩ := hq
   refine ⟨_, Sub.refl _ _, ?_⟩
   refine f8 (d4 ?_)
   obtain rfl := oi h
   exact hs
theorem af4 {t : d5} {r : j6} (h : I0 t = some r) : d9 prog 22 [.agg (tT t)] (.agg [int r.code, int r.index]) := by
 unfold d9
 refine FnOk.enter (rs := [.cell 2 27 2]) func22 Z ntmps22 results22 Z ⟨rv _ Z, Y⟩ (by kernel_rfl) Z ?_
 unfold I0 at h
 refine AWP.g (.j (W.box Z Z Z Z Z Z (W.alloc Z Z Z Z (.nil (b5 (.g (.g ?_)))))))
 obtain ⟨a7, ha7, h⟩ := b8 h
 refine AWP.j (W.fieldAddr Z Z Z Z (.z Z Z Z Z Z Z (.E Z Z Z Z (N6 ha7) Z (.ab Z Z (.nil (b5 (.ag Z h (fun hc2 h => ?_) (fun hc2 h => ?_))))))))
 ·refine AWP.g ?_
  obtain ⟨a9, ha9, h⟩ := b8 h
  refine AWP.j (.E Z Z Z Z (F3 ha9) Z (W.storeAgg Z Z Z Z Z Z Z (.nil (b5 (.ret (d4 ?_))))))
  obtain rfl := oi h
  exact Done.ret Z Z
 ·refine AWP.skip (b5 (.g (.g ?_)))
  obtain ⟨a14, ha14, h⟩ := b8 h
  refine AWP.j (W.fieldAddr Z Z Z Z (.z Z Z Z Z Z Z (W.fieldAddr Z Z Z Z (.z Z Z Z Z Z Z (.E Z Z Z Z (o9 ha14) Z (.ab Z Z (.nil (b5 (.ag Z h (fun hc3 h => ?_) (fun hc3 h => ?_))))))))))
  ·refine AWP.g ?_
   obtain ⟨a16, ha16, h⟩ := b8 h
   refine AWP.j (.E Z Z Z Z (F3 ha16) Z (W.storeAgg Z Z Z Z Z Z Z (.nil (b5 (.ret (d4 ?_))))))
   obtain rfl := oi h
   exact Done.ret Z Z
  ·refine AWP.skip (b5 (.g (.g ?_)))
   obtain ⟨a21, ha21, h⟩ := b8 h
   refine AWP.j (W.fieldAddr Z Z Z Z (.z Z Z Z Z Z Z (W.fieldAddr Z Z Z Z (.z Z Z Z Z Z Z (.E Z Z Z Z (o9 ha21) Z (.ab Z Z (.nil (b5 (.ag Z h (fun hc4 h => ?_) (fun hc4 h => ?_))))))))))
   ·refine AWP.g ?_
    obtain ⟨a23, ha23, h⟩ := b8 h
    refine AWP.j (.E Z Z Z Z (F3 ha23) Z (W.storeAgg Z Z Z Z Z Z Z (.nil (b5 (.ret (d4 ?_))))))
    obtain rfl := oi h
    exact Done.ret Z Z
   ·refine AWP.skip (b5 (.g (.g (.j (W.fieldAddr Z Z Z Z (.z Z Z Z Z Z Z (S.len Z Z (fun hl26 => .gtr Z Z Z (.nil (b5 (.ite Z h (fun hc5 h => ?_) (fun hc5 h => ?_))))))))))))
    ·refine AWP.g ?_
     obtain ⟨a28, ha28, h⟩ := b8 h
     refine AWP.j (.E Z Z Z Z (F3 ha28) Z (W.storeAgg Z Z Z Z Z Z Z (.nil (b5 (.ret (d4 ?_))))))
     obtain rfl := oi h
     exact Done.ret Z Z
    ·refine AWP.skip (b5 (.g (.g (.j (.q Z Z (.nil (b5 (.U ?_))))))))
     obtain ⟨oo, ho1, h⟩ := b8 h
     refine AWP.rngS ho1 (fun iv6 _ => ⟨[(1, .c (.ptr 0 0 0)), (2, .c (.ptr 1 0 0)), (3, .c (int iv6))], [.one (.cells 4 [(tT t)]), .one (.cells 2 [[int 0, int 0]])]⟩) (fun o e st => match o with | .inl _ => e = .exit 0 ∧ Sub [] st ⟨[(2, .c (.ptr 1 0 0))], [.one (.cells 4 [(tT t)]), .one (.cells 2 [[int 0, int 0]])]⟩ | .inr x => e = .ret ∧ Done [.cell 2 27 2] (fun t _ => t = .agg [int x.code, int x.index]) .ret st) ?_ ?_ ?_ ?_
     ·try dsimp only
      exact Sub.env ⟨Z, Z, Z, Y⟩
     ·intro iv6 s hloiv6 hltiv6 _
      try dsimp only
      refine AWP.g (.g (.j (.e Z Z (W.fieldAddr Z Z Z Z (.z Z Z Z Z Z Z (S.len Z Z (fun hl32 => .F Z Z Z (.nil (b5 (.ad Z hltiv6 (.exit (d6 (d6 ⟨Z, ?_⟩)))))))))))))
      exact Sub.env ⟨Z, Y⟩
     ·intro iv6 s o hloiv6 hltiv6 h
      unfold y5 at h
      try dsimp only at h ⊢
      refine AWP.g (.g (.j (.e Z Z (W.fieldAddr Z Z Z Z (.z Z Z Z Z Z Z (S.len Z Z (fun hl32 => .F Z Z Z (.nil (b5 (.ae Z hltiv6 (.skip (b5 (.g (.U (.g ?_)))))))))))))))
      obtain ⟨a39, ha39, h⟩ := b8 h
      refine AWP.j (W.fieldAddr Z Z Z Z (.z Z Z Z Z Z Z (.e Z Z (S.idx ha39 Z Z Z Z (W.loadIAgg Z Z Z Z Z (W.alloc Z Z Z Z (W.storeAgg Z Z Z Z Z Z Z (.nil (b5 (.g ?_))))))))))
      obtain ⟨t7, hx8, h⟩ := b8 h
      refine AWP.seqJ (⟨[(1, .c (.ptr 0 0 0)), (2, .c (.ptr 1 0 0)), (3, .c (int iv6)), (4, .c (.ptr 2 0 0)), (70, .c (bool t7))], [.one (.cells 4 [(tT t)]), .one (.cells 2 [[int 0, int 0]]), .one (.cells 4 [[row 1 intI a39.pre, row 1 intI a39.add, row 1 intI a39.del, int a39.cost]])]⟩) ?_ ?_
      ·obtain ⟨a45, ha45, hx8⟩ := b8 hx8
       rcases bft (!a45) with hb9 | hb9
       ·replace hx8 := A9 hb9 hx8
        refine AWP.j (W.fieldAddr Z Z Z Z (.z Z Z Z Z Z Z (W.fieldAddr Z Z Z Z (.z Z Z Z Z Z Z (.E Z Z Z Z (o9 ha45) Z (.ab Z Z (.e Z Z (.v Z Z Z hb9 (.v Z Z Z hb9 (.v Z Z Z hb9 (.v Z Z Z hb9 (.v Z Z Z hb9 (.v Z Z Z hb9 (.J Z hb9 Z Z (.e Z Z (.v Z Z Z Z (.v Z Z Z Z (.v Z Z Z Z (.v Z Z Z Z (.v Z Z Z Z (.v Z Z Z Z (.J Z Z Z Z (.e Z Z (.v Z Z Z Z (.v Z Z Z Z (.v Z Z Z Z (.v Z Z Z Z (.v Z Z Z Z (.v Z Z Z Z (.J Z Z Z Z (.nil ?_)))))))))))))))))))))))))))))))
        obtain rfl := oi hx8
        refine b5 (Sub.env ⟨Z, Z, Z, Z, Z, Y⟩)
       ·replace hx8 := A7 hb9 hx8
        obtain ⟨a52, ha52, hx8⟩ := b8 hx8
        rcases bft (!a52) with hb10 | hb10
        ·replace hx8 := A9 hb10 hx8
         refine AWP.j (W.fieldAddr Z Z Z Z (.z Z Z Z Z Z Z (W.fieldAddr Z Z Z Z (.z Z Z Z Z Z Z (.E Z Z Z Z (o9 ha45) Z (.ab Z Z (.e Z Z (.u Z Z Z hb9 (W.fieldAddr Z Z Z Z (.u Z Z Z hb9 (.z Z Z Z Z Z Z (.u Z Z Z hb9 (W.fieldAddr Z Z Z Z (.u Z Z Z hb9 (.z Z Z Z Z Z Z (.u Z Z Z hb9 (.E Z Z Z Z (o9 ha52) Z (.u Z Z Z hb9 (.ab Z Z (.O Z hb9 Z Z (.e Z Z (.v Z Z Z hb10 (.v Z Z Z hb10 (.v Z Z Z hb10 (.v Z Z Z hb10 (.v Z Z Z hb10 (.v Z Z Z hb10 (.J Z hb10 Z Z (.e Z Z (.v Z Z Z Z (.v Z Z Z Z (.v Z Z Z Z (.v Z Z Z Z (.v Z Z Z Z (.v Z Z Z Z (.J Z Z Z Z (.nil ?_)))))))))))))))))))))))))))))))))))))
         obtain rfl := oi hx8
         refine b5 (Sub.env ⟨Z, Z, Z, Z, Z, Y⟩)
        ·replace hx8 := A7 hb10 hx8
         obtain ⟨a60, ha60, hx8⟩ := b8 hx8
         rcases bft (!a60) with hb11 | hb11
         ·replace hx8 := A9 hb11 hx8
          refine AWP.j (W.fieldAddr Z Z Z Z (.z Z Z Z Z Z Z (W.fieldAddr Z Z Z Z (.z Z Z Z Z Z Z (.E Z Z Z Z (o9 ha45) Z (.ab Z Z (.e Z Z (.u Z Z Z hb9 (W.fieldAddr Z Z Z Z (.u Z Z Z hb9 (.z Z Z Z Z Z Z (.u Z Z Z hb9 (W.fieldAddr Z Z Z Z (.u Z Z Z hb9 (.z Z Z Z Z Z Z (.u Z Z Z hb9 (.E Z Z Z Z (o9 ha52) Z (.u Z Z Z hb9 (.ab Z Z (.O Z hb9 Z Z (.e Z Z (.u Z Z Z hb10 (W.fieldAddr Z Z Z Z (.u Z Z Z hb10 (.z Z Z Z Z Z Z (.u Z Z Z hb10 (W.fieldAddr Z Z Z Z (.u Z Z Z hb10 (.z Z Z Z Z Z Z (.u Z Z Z hb10 (.E Z Z Z Z (o9 ha60) Z (.u Z Z Z hb10 (.ab Z Z (.O Z hb10 Z Z (.e Z Z (.v Z Z Z hb11 (.v Z Z Z hb11 (.v Z Z Z hb11 (.v Z Z Z hb11 (.v Z Z Z hb11 (.v Z Z Z hb11 (.J Z hb11 Z Z (.nil ?_)))))))))))))))))))))))))))))))))))))))))))
          obtain rfl := oi hx8
          refine b5 (Sub.env ⟨Z, Z, Z, Z, Z, Y⟩)
         ·replace hx8 := A7 hb11 hx8
          obtain ⟨a68, ha68, hx8⟩ := b8 hx8
          refine AWP.j (W.fieldAddr Z Z Z Z (.z Z Z Z Z Z Z (W.fieldAddr Z Z Z Z (.z Z Z Z Z Z Z (.E Z Z Z Z (o9 ha45) Z (.ab Z Z (.e Z Z (.u Z Z Z hb9 (W.fieldAddr Z Z Z Z (.u Z Z Z hb9 (.z Z Z Z Z Z Z (.u Z Z Z hb9 (W.fieldAddr Z Z Z Z (.u Z Z Z hb9 (.z Z Z Z Z Z Z (.u Z Z Z hb9 (.E Z Z Z Z (o9 ha52) Z (.u Z Z Z hb9 (.ab Z Z (.O Z hb9 Z Z (.e Z Z (.u Z Z Z hb10 (W.fieldAddr Z Z Z Z (.u Z Z Z hb10 (.z Z Z Z Z Z Z (.u Z Z Z hb10 (W.fieldAddr Z Z Z Z (.u Z Z Z hb10 (.z Z Z Z Z Z Z (.u Z Z Z hb10 (.E Z Z Z Z (o9 ha60) Z (.u Z Z Z hb10 (.ab Z Z (.O Z hb10 Z Z (.e Z Z (.u Z Z Z hb11 (W.fieldAddr Z Z Z Z (.u Z Z Z hb11 (.z Z Z Z Z Z Z (.u Z Z Z hb11 (W.fieldAddr Z Z Z Z (.u Z Z Z hb11 (.z Z Z Z Z Z Z (.u Z Z Z hb11 (.E Z Z Z Z (ag4 ha68) Z (.u Z Z Z hb11 (.ab Z Z (.O Z hb11 Z Z (.nil ?_)))))))))))))))))))))))))))))))))))))))))))))))))
          obtain rfl := oi hx8
          refine b5 (Sub.env ⟨Z, Z, Z, Z, Z, Y⟩)
      ·refine AWP.ag Z h (fun hc12 h => ?_) (fun hc12 h => ?_)
       ·refine AWP.g ?_
        obtain ⟨a72, ha72, h⟩ := b8 h
        refine AWP.j (.e Z Z (.E Z Z Z Z (F3 ha72) Z (W.storeAgg Z Z Z Z Z Z Z (.nil (b5 (.ret (d4 (f8 (d4 ?_)))))))))
        obtain rfl := oi h
        refine d4 ⟨_, Z, Z, ?_⟩
        exact Done.ret Z Z
       ·refine AWP.skip (b5 (.g ?_))
        obtain ⟨a75, ha75, h⟩ := b8 h
        refine AWP.j (W.fieldAddr Z Z Z Z (.z Z Z Z Z Z Z (.E Z Z Z Z (N6 ha75) Z (.ab Z Z (.nil (b5 (.ag Z h (fun hc13 h => ?_) (fun hc13 h => ?_))))))))
        ·refine AWP.g ?_
         obtain ⟨a78, ha78, h⟩ := b8 h
         refine AWP.j (.e Z Z (.E Z Z Z Z (F3 ha78) Z (W.storeAgg Z Z Z Z Z Z Z (.nil (b5 (.ret (f8 (d4 ?_))))))))
         obtain rfl := oi h
         refine d4 ⟨_, Z, Z, ?_⟩
         exact Done.ret Z Z
        ·refine AWP.skip (e6 (b5 (.j (.e Z Z (.add Z Z Z (by omega) (.q Z Z (.nil ?_)))))))
         obtain rfl := oi h
         refine b5 ⟨_, Z, ?_⟩
         exact Sub.cut ⟨Z, Z, Z, Y⟩ Z ⟨.one Z, .one Z, Y⟩ Z
     ·intro e s hq
      rcases oo with u | x
      ·try dsimp only at h hq
       obtain ⟨rfl, hs⟩ := hq
       refine ⟨_, hs, ?_⟩
       refine f9 (b5 (.g (.j (W.build Z Z Z Z (W.storeAgg Z Z Z Z Z Z Z (.nil (b5 (.ret ?_))))))))
       obtain rfl := oi h
       exact Done.ret Z Z
      ·try dsimp only at h hq
       obtain ⟨rfl, hs⟩ := hq
       refine ⟨_, Sub.refl _ _, ?_⟩
       refine f8 (d4 ?_)
       obtain rfl := oi h
       exact hs
theorem B2 {operators : Int} {plan : List Int} {r : j6} (h : v6 operators plan = some r) : d9 prog 10 [.c (int operators), .c (row 1 intI plan)] (.agg [int r.code, int r.index]) := by
 unfold d9
 refine FnOk.enter (rs := [.cell 4 27 2]) func10 Z ntmps10 results10 Z ⟨rv _ Z, Y⟩ (by kernel_rfl) Z ?_
 unfold v6 at h
 refine AWP.g (.j (W.alloc Z Z Z Z (.nil (b5 (.g (.g (.j (.e Z Z (S.len Z Z (fun hl7 => .gtr Z Z Z (.nil (b5 (.ite Z h (fun hc3 h => ?_) (fun hc3 h => ?_))))))))))))))
 ·refine AWP.g ?_
  obtain ⟨a9, ha9, h⟩ := b8 h
  refine AWP.j (.E Z Z Z Z (F3 ha9) Z (W.storeAgg Z Z Z Z Z Z Z (.nil (b5 (.ret (d4 ?_))))))
  obtain rfl := oi h
  exact Done.ret Z Z
 ·refine AWP.skip (b5 (.g (.g (.j (.q Z Z (.nil (b5 (.U ?_))))))))
  obtain ⟨oo, ho1, h⟩ := b8 h
  refine AWP.rngS ho1 (fun iv4 _ => ⟨[(0, .c (int operators)), (1, .c (row 1 intI plan)), (4, .c (.ptr 0 0 0)), (5, .c (int iv4))], [.one (.cells 2 [[int 0, int 0]])]⟩) (fun o e st => match o with | .inl _ => e = .exit 0 ∧ Sub [] st ⟨[(4, .c (.ptr 0 0 0))], [.one (.cells 2 [[int 0, int 0]])]⟩ | .inr x => e = .ret ∧ Done [.cell 4 27 2] (fun t _ => t = .agg [int x.code, int x.index]) .ret st) ?_ ?_ ?_ ?_
  ·try dsimp only
   exact Sub.env ⟨Z, Z, Z, Z, Y⟩
  ·intro iv4 s hloiv4 hltiv4 _
   try dsimp only
   refine AWP.g (.g (.j (.e Z Z (.e Z Z (S.len Z Z (fun hl12 => .F Z Z Z (.nil (b5 (.ad Z hltiv4 (.exit (d6 (d6 ⟨Z, ?_⟩))))))))))))
   exact Sub.env ⟨Z, Y⟩
  ·intro iv4 s o hloiv4 hltiv4 h
   unfold E5 at h
   try dsimp only at h ⊢
   refine AWP.g (.g (.j (.e Z Z (.e Z Z (S.len Z Z (fun hl12 => .F Z Z Z (.nil (b5 (.ae Z hltiv4 (.skip (b5 (.g (.U (.g ?_))))))))))))))
   obtain ⟨a18, ha18, a22, ha22, h⟩ := b2 h
   refine AWP.j (.e Z Z (.e Z Z (S.idx ha18 Z Z Z Z (.ac Z Z Z Z (.e Z Z (S.sub Z Z Z (.E Z Z Z Z (N6 ha22) Z (.ab Z Z (.nil (b5 (.ag Z h (fun hc5 h => ?_) (fun hc5 h => ?_))))))))))))
   ·refine AWP.g ?_
    obtain ⟨a24, ha24, h⟩ := b8 h
    refine AWP.j (.E Z Z Z Z (F3 ha24) Z (W.storeAgg Z Z Z Z Z Z Z (.nil (b5 (.ret (f8 (d4 ?_)))))))
    obtain rfl := oi h
    refine d4 ⟨_, Z, Z, ?_⟩
    exact Done.ret Z Z
   ·refine AWP.skip (e6 (b5 (.j (.e Z Z (.add Z Z Z (by omega) (.q Z Z (.nil ?_)))))))
    obtain rfl := oi h
    refine b5 ⟨_, Z, ?_⟩
    exact Sub.env ⟨Z, Z, Z, Z, Y⟩
  ·intro e s hq
   rcases oo with u | x
   ·try dsimp only at h hq
    obtain ⟨rfl, hs⟩ := hq
    refine ⟨_, hs, ?_⟩
    refine f9 (b5 (.g (.j (W.build Z Z Z Z (W.storeAgg Z Z Z Z Z Z Z (.nil (b5 (.ret ?_))))))))
    obtain rfl := oi h
    exact Done.ret Z Z
   ·try dsimp only at h hq
    obtain ⟨rfl, hs⟩ := hq
    refine ⟨_, Sub.refl _ _, ?_⟩
    refine f8 (d4 ?_)
    obtain rfl := oi h
    exact hs
theorem af3 {t : d5} {plan : List Int} {r : j6} (h : C6 t plan = some r) : d9 prog 6 [.agg (tT t), .c (row 1 intI plan)] (.agg [int r.code, int r.index]) := by
 unfold d9
 refine FnOk.enter (rs := [.cell 4 27 2]) func6 Z ntmps6 results6 Z ⟨rv _ Z, Y⟩ (by kernel_rfl) Z ?_
 unfold C6 at h
 refine AWP.g (.j (W.box Z Z Z Z Z Z (W.alloc Z Z Z Z (.nil (b5 (.g ?_))))))
 obtain ⟨a7, ha7, h⟩ := b8 h
 refine AWP.j (W.loadAgg Z Z Z Z Z Z Z (.E Z Z Z Z (af4 ha7) Z (W.alloc Z Z Z Z (W.storeAgg Z Z Z Z Z Z Z (.nil (b5 ?_))))))
 obtain ⟨⟨c3, c4⟩, hx5, h⟩ := b8 h
 refine AWP.seqJ (⟨[(4, .c (.ptr 1 0 0)), (5, .c (.ptr 2 0 0))], [.dead, .one (.cells 2 [[int 0, int 0]]), .one (.cells 2 [[int c3, int c4]])]⟩) ?_ ?_
 ·refine AWP.g (.j (W.fieldAddr Z Z Z Z (.z Z Z Z Z Z Z (.aa Z Z Z (.nil (b5 (.ite Z hx5 (fun hc6 hx5 => ?_) (fun hc6 hx5 => ?_))))))))
  ·obtain ⟨a15, ha15, hx5⟩ := b8 hx5
   refine AWP.j (W.fieldAddr Z Z Z Z (.z Z Z Z Z Z Z (S.len Z Z (fun hl13 => .e Z Z (.E Z Z Z Z (B2 ha15) Z (W.storeAgg Z Z Z Z Z Z Z (.nil ?_)))))))
   obtain ⟨ej0, ej1⟩ := o2 hx5
   subst ej0 ej1
   refine b5 (Sub.cut ⟨Z, Z, Y⟩ Z ⟨.dead, .one Z, .one Z, Y⟩ Z)
  ·refine AWP.skip ?_
   obtain ⟨ej0, ej1⟩ := o2 hx5
   subst ej0 ej1
   refine b5 (Sub.cut ⟨Z, Z, Y⟩ Z ⟨.dead, .one Z, .one Z, Y⟩ Z)
 ·try dsimp only at h
  refine AWP.g (.j (W.loadAgg Z Z Z Z Z Z Z (W.storeAgg Z Z Z Z Z Z Z (.nil (b5 (.ret ?_))))))
  obtain rfl := oi h
  exact Done.ret Z Z
theorem af2 {av : List Int} {bv : List Int} {r : Int × j6} (h : E6 av bv = some r) : d9 prog 23 [.c (row 1 intI av), .c (row 1 intI bv)] (.tup [.c (int r.1), .agg [int r.2.code, int r.2.index]]) := by
 unfold d9
 refine FnOk.enter (rs := [.t 4, .cell 5 27 2]) func23 Z ntmps23 results23 Z ⟨trivial, rv _ Z, Y⟩ (by kernel_rfl) Z ?_
 unfold E6 at h
 refine AWP.g (.j (.q Z Z (W.alloc Z Z Z Z (.nil (b5 (.g (.seqJ (⟨[(0, .c (row 1 intI av)), (1, .c (row 1 intI bv)), (5, .c (.ptr 0 0 0)), (21, .c (bool ((decide (60 < (av.length : Int))) || (decide (60 < (bv.length : Int))))))], [.one (.cells 2 [[int 0, int 0]])]⟩) ?_ ?_)))))))
 ·rcases bft (decide (60 < (av.length : Int))) with hb1 | hb1
  ·refine AWP.j (.e Z Z (S.len Z Z (fun hl15 => .gtr Z Z Z (.e Z Z (.v Z Z Z hb1 (.v Z Z Z hb1 (.v Z Z Z hb1 (.J Z hb1 Z Z (.nil (b5 ?_))))))))))
   simp only [and_t hb1, or_t hb1, Bool.false_or, Bool.true_or, Bool.false_and, Bool.true_and]
   exact Sub.env ⟨Z, Z, Z, Z, Y⟩
  ·refine AWP.j (.e Z Z (S.len Z Z (fun hl15 => .gtr Z Z Z (.e Z Z (.u Z Z Z hb1 (.e Z Z ?_))))))
   refine AOps.u Z Z Z hb1 ?_; refine S.len Z Z (fun hl19 => ?_)
   refine AOps.u Z Z Z hb1 (.gtr Z Z Z (.O Z hb1 Z Z (.nil (b5 ?_))))
   simp only [and_f hb1, or_f hb1, Bool.false_or, Bool.true_or, Bool.false_and, Bool.true_and]
   exact Sub.env ⟨Z, Z, Z, Z, Y⟩
 ·refine AWP.ag Z h (fun hc3 h => ?_) (fun hc3 h => ?_)
  ·refine AWP.g (.j (W.build Z Z Z Z (.q Z Z (W.storeAgg Z Z Z Z Z Z Z (.nil (b5 (.ret (d4 ?_))))))))
   obtain rfl := oi h
   exact Done.ret Z Z
  ·refine AWP.skip (b5 (.g ?_))
   obtain ⟨a26, ha26, h⟩ := b8 h
   refine AWP.j (.e Z Z (S.len Z Z (fun hl24 => S.add Z Z Z (S.make (f := intI) ha26 (.val .nil) Z Z Z Z Z Z (.q Z Z (.nil (b5 (.g (.g (.j (.e Z Z (S.lenO Z Z Z (fun hl28 => .e Z Z (.nil (b5 (.U ?_))))))))))))))))
   obtain ⟨c4, ho1, h⟩ := b8 h
   refine AWP.forS ho1 (fun t5 c4 => ⟨[(0, .c (row 1 intI av)), (1, .c (row 1 intI bv)), (5, .c (.ptr 0 0 0)), (6, .c (.own 1 0 c4.length)), (28, .c (int (a26.length : Int))), (29, .c (int t5))], [.one (.cells 2 [[int 0, int 0]]), .one (vec 1 intI c4)]⟩) (fun c4 e st => e = .exit 0 ∧ Sub [] st ⟨[(0, .c (row 1 intI av)), (1, .c (row 1 intI bv)), (5, .c (.ptr 0 0 0)), (6, .c (.own 1 0 c4.length))], [.one (.cells 2 [[int 0, int 0]]), .one (vec 1 intI c4)]⟩) ?_ ?_ ?_ ?_
   ·try dsimp only
    exact Sub.env ⟨Z, Z, Z, Z, Z, Z, Y⟩
   ·intro t5 c4 hlot5 hltt5 _
    try dsimp only
    refine AWP.g (.j (.F Z Z Z (.nil (b5 (.g (.ad Z hltt5 (.exit (d6 (d6 ⟨Z, ?_⟩)))))))))
    exact Sub.env ⟨Z, Z, Z, Z, Y⟩
   ·intro t5 c4 o hlot5 hltt5 h
    unfold E0 at h
    try dsimp only at h ⊢
    refine AWP.g (.j (.F Z Z Z (.nil (b5 (.g (.ae Z hltt5 (.skip (b5 (.g (.U (.g (.j (.e Z Z (.q Z Z (.nil (b5 ?_))))))))))))))))
    obtain ⟨a35, ha35, h⟩ := b8 h
    refine AWP.j (.e Z Z (.e Z Z (.e Z Z (S.idxO ha35 Z Z Z Z Z (S.storeO1 (f := intI) (a' := t5) (J9 ha35) (fun _ => ⟨_, Z⟩) Z Z Z Z Z ?_)))))
    refine AOps.nil (e6 (b5 (.j (.add Z Z Z (by omega) (.e Z Z (.nil ?_))))))
    obtain rfl := oi h
    refine b5 (Sub.env ⟨Z, Z, Z, (o8 (by first | rfl | simp only [List.length_set])), Z, Z, Y⟩)
   ·intro e s hq
    obtain ⟨rfl, hs⟩ := hq
    refine ⟨_, hs, ?_⟩
    refine f9 (b5 (.g (.g (.j (.e Z Z (S.len Z Z (fun hl38 => .e Z Z (.nil (b5 (.U ?_))))))))))
    obtain ⟨c6, ho2, h⟩ := b8 h
    refine AWP.forS ho2 (fun t7 c6 => ⟨[(1, .c (row 1 intI bv)), (5, .c (.ptr 0 0 0)), (6, .c (.own 1 0 c6.length)), (37, .c (row 1 intI av)), (38, .c (int (av.length : Int))), (39, .c (int t7))], [.one (.cells 2 [[int 0, int 0]]), .one (vec 1 intI c6)]⟩) (fun c6 e st => e = .exit 2 ∧ Sub [] st ⟨[(1, .c (row 1 intI bv)), (5, .c (.ptr 0 0 0)), (6, .c (.own 1 0 c6.length))], [.one (.cells 2 [[int 0, int 0]]), .one (vec 1 intI c6)]⟩) ?_ ?_ ?_ ?_
    ·try dsimp only
     exact Sub.env ⟨Z, Z, Z, Z, Z, Z, Y⟩
    ·intro t7 c6 hlot7 hltt7 _
     try dsimp only
     refine AWP.g (.j (.F Z Z Z (.nil (b5 (.g (.ad Z hltt7 (.exit (d6 (d6 ⟨Z, ?_⟩)))))))))
     exact Sub.env ⟨Z, Z, Z, Y⟩
    ·intro t7 c6 o hlot7 hltt7 h
     unfold B6 at h
     try dsimp only at h ⊢
     refine AWP.g (.j (.F Z Z Z (.nil (b5 (.g (.ae Z hltt7 (.skip (b5 (.g (.U (.g ?_)))))))))))
     obtain ⟨a41, ha41, h⟩ := b8 h
     refine AWP.j (S.idx ha41 Z Z Z Z (.ac Z Z Z Z (.q Z Z (.nil (b5 (.g ?_))))))
     obtain ⟨a44, ha44, h⟩ := b8 h
     refine AWP.j (.e Z Z (S.idxO ha44 Z Z Z Z Z (S.loadO ha44 Z Z Z Z Z (.q Z Z (.nil (b5 (.g ?_)))))))
     obtain ⟨a47, ha47, a50, ha50, h⟩ := b2 h
     refine AWP.j (.e Z Z (S.idxO ha47 Z Z Z Z Z (S.loadO ha47 Z Z Z Z Z (S.add Z Z Z (S.idxO ha50 Z Z Z Z Z (S.storeO1 (f := intI) (a' := w64 (a47 + 1)) (J9 ha50) (fun _ => ⟨_, Z⟩) Z Z Z Z Z ?_))))))
     refine AOps.nil (b5 (.g (.j (.e Z Z (S.len Z Z (fun hl52 => .e Z Z (.nil (b5 (.U ?_)))))))))
     obtain ⟨⟨c8, diagonal9⟩, ho3, h⟩ := b8 h
     try dsimp only at h
     refine AWP.forS ho3 (fun t10 (c8, diagonal9) => ⟨[(1, .c (row 1 intI bv)), (5, .c (.ptr 0 0 0)), (6, .c (.own 1 0 c8.length)), (9, .c (int a41)), (10, .c (int diagonal9)), (37, .c (row 1 intI av)), (38, .c (int (av.length : Int))), (39, .c (int t7)), (51, .c (row 1 intI bv)), (52, .c (int (bv.length : Int))), (53, .c (int t10))], [.one (.cells 2 [[int 0, int 0]]), .one (vec 1 intI c8)]⟩) (fun (c8, diagonal9) e st => e = .exit 4 ∧ Sub [] st ⟨[(1, .c (row 1 intI bv)), (5, .c (.ptr 0 0 0)), (6, .c (.own 1 0 c8.length)), (37, .c (row 1 intI av)), (38, .c (int (av.length : Int))), (39, .c (int t7))], [.one (.cells 2 [[int 0, int 0]]), .one (vec 1 intI c8)]⟩) ?_ ?_ ?_ ?_
     ·try dsimp only
      exact Sub.env ⟨Z, Z, (o8 (by first | rfl | simp only [List.length_set])), Z, Z, Z, Z, Z, Z, Z, Z, Y⟩
     ·intro t10 s hlot10 hltt10 _
      obtain ⟨c8, diagonal9⟩ := s
      try dsimp only
      refine AWP.g (.j (.F Z Z Z (.nil (b5 (.g (.ad Z hltt10 (.exit (d6 (d6 ⟨Z, ?_⟩)))))))))
      exact Sub.env ⟨Z, Z, Z, Z, Z, Z, Y⟩
     ·intro t10 s o hlot10 hltt10 h
      obtain ⟨c8, diagonal9⟩ := s
      unfold F6 at h
      try dsimp only at h ⊢
      refine AWP.g (.j (.F Z Z Z (.nil (b5 (.g (.ae Z hltt10 (.skip (b5 (.g (.U (.g ?_)))))))))))
      obtain ⟨a56, ha56, h⟩ := b8 h
      refine AWP.j (.e Z Z (S.idx ha56 Z Z Z Z (.ac Z Z Z Z (.q Z Z (.q Z Z (.nil (b5 (.g ?_))))))))
      obtain ⟨a60, ha60, a65, ha65, h⟩ := b2 h
      refine AWP.drawI mixed Z ?_
      refine f7.consF Z (fun E => AOps.e Z Z .N) Z (.consF Z (fun E => AOps.e Z Z .N) Z (.consF Z (fun E => S.idxO ha60 Z Z Z Z Z .N) Z (.consF Z (fun E => S.loadO ha60 Z Z Z Z Z .N) Z (.consF Z (fun E => AOps.e Z Z .N) Z (.consF Z (fun E => AOps.e Z Z .N) Z (.consF Z (fun E => AOps.add Z Z Z (by omega) .N) Z (.consF Z (fun E => S.idxO ha65 Z Z Z Z Z .N) Z (.consF Z (fun E => S.loadO ha65 Z Z Z Z Z .N) Z (.consF Z (fun E => AOps.min2 Z Z Z .N) Z (.consF Z (fun E => S.add Z Z Z .N) Z (.consF Z (fun E => AOps.q Z Z .N) Z ?_)))))))))))
      refine f7.done ?_
      dsimp only [i4]
      refine b5 ?_
      obtain ⟨nv11, hx12, h⟩ := b8 h
      refine AWP.seqJ (⟨[(1, .c (row 1 intI bv)), (5, .c (.ptr 0 0 0)), (6, .c (.own 1 0 c8.length)), (9, .c (int a41)), (11, .c (int t10)), (13, .c (int nv11)), (37, .c (row 1 intI av)), (38, .c (int (av.length : Int))), (39, .c (int t7)), (51, .c (row 1 intI bv)), (52, .c (int (bv.length : Int))), (53, .c (int t10))], [.one (.cells 2 [[int 0, int 0]]), .one (vec 1 intI c8)]⟩) ?_ ?_
      ·refine AWP.g (.j (.e Z Z (.e Z Z (.aa Z Z Z (.nil (b5 (.ite Z hx12 (fun hc13 hx12 => ?_) (fun hc13 hx12 => ?_))))))))
       ·refine AWP.j (.e Z Z (.e Z Z (.min2 Z Z Z (.q Z Z (.nil ?_)))))
        obtain rfl := oi hx12
        refine b5 (Sub.env ⟨Z, Z, Z, Z, Z, Z, Z, Z, Z, Z, Z, Z, Y⟩)
       ·refine AWP.skip ?_
        obtain rfl := oi hx12
        refine b5 (Sub.env ⟨Z, Z, Z, Z, Z, Z, Z, Z, Z, Z, Z, Z, Y⟩)
      ·obtain ⟨a81, ha81, a84, ha84, h⟩ := b2 h
       refine AWP.j (.e Z Z (.e Z Z (.add Z Z Z (by omega) (.e Z Z (.e Z Z (.add Z Z Z (by omega) (S.idxO ha81 Z Z Z Z Z (S.loadO ha81 Z Z Z Z Z (.e Z Z (.q Z Z (S.idxO ha84 Z Z Z Z Z (S.storeO1 (f := intI) (a' := nv11) (J9 ha84) (fun _ => ⟨_, Z⟩) Z Z Z Z Z ?_))))))))))))
       refine AOps.nil (e6 (b5 (.j (.add Z Z Z (by omega) (.e Z Z (.nil ?_))))))
       obtain rfl := oi h
       refine b5 (Sub.env ⟨Z, Z, (o8 (by first | rfl | simp only [List.length_set])), Z, Z, Z, Z, Z, Z, Z, Z, Y⟩)
     ·intro e s hq
      obtain ⟨rfl, hs⟩ := hq
      refine ⟨_, hs, ?_⟩
      refine f9 (e6 (b5 (.j (.add Z Z Z (by omega) (.e Z Z (.nil ?_))))))
      obtain rfl := oi h
      refine b5 (Sub.env ⟨Z, Z, Z, Z, Z, Z, Y⟩)
    ·intro e s hq
     obtain ⟨rfl, hs⟩ := hq
     refine ⟨_, hs, ?_⟩
     refine f9 (b5 (.g ?_))
     obtain ⟨a90, ha90, h⟩ := b8 h
     refine AWP.j (.e Z Z (.e Z Z (S.len Z Z (fun hl89 => S.idxO ha90 Z Z Z Z Z (S.loadO ha90 Z Z Z Z Z (W.build Z Z Z Z (.q Z Z (W.storeAgg Z Z Z Z Z Z Z (.nil (b5 (.ret ?_)))))))))))
     obtain rfl := oi h
     exact Done.ret Z Z
theorem law8_step_ok {r : d5} (h : Y5 = some r) : d9 prog 24 [] (.agg (tT r)) := by
 unfold d9
 refine FnOk.enter (rs := [.cell 0 25 4]) func24 Z ntmps24 results24 Z ⟨rv _ Z, Y⟩ (by kernel_rfl) Z ?_
 unfold Y5 at h
 refine AWP.g (.j (W.alloc Z Z Z Z (.nil (b5 (.g (.j (S.lit (f := intI) (l := [0]) (ess := [[int 0]]) Z Z Z Z Z Z Z ⟨⟨.inl Z, Y⟩, Y⟩ Z Z Z (S.lit (f := intI) (l := [1]) (ess := [[int 1]]) Z Z Z Z Z Z Z ⟨⟨.inl Z, Y⟩, Y⟩ Z Z Z (S.lit (f := intI) (l := [0]) (ess := [[int 0]]) Z Z Z Z Z Z Z ⟨⟨.inl Z, Y⟩, Y⟩ Z Z Z (S.lit (f := intI) (l := [1]) (ess := [[int 1]]) Z Z Z Z Z Z Z ⟨⟨.inl Z, Y⟩, Y⟩ Z Z Z (S.lit (f := intI) (l := [0]) (ess := [[int 0]]) Z Z Z Z Z Z Z ⟨⟨.inl Z, Y⟩, Y⟩ Z Z Z (W.build Z Z Z Z (S.lit (f := intI) (l := [1]) (ess := [[int 1]]) Z Z Z Z Z Z Z ⟨⟨.inl Z, Y⟩, Y⟩ Z Z Z (W.build Z Z Z Z ?_))))))))))))))
 refine AOps.frzV (id := 3) (l := [0]) (env2 := [(0, .c (.ptr 0 0 0)), (1, .c (.own 1 0 ([0].length))), (2, .c (.own 2 0 ([1].length))), (6, .agg [row 1 intI [0], .own 4 0 ([1].length), .own 5 0 ([0].length), int 1]), (8, .agg [.imm (.val nL), .own 6 0 ([1].length), .imm (.val nL), int 3])]) (σ2 := [.one (.cells 4 [[int 0, .imm (.val nL), .imm (.val nL), .imm (.val nL)]]), .one (vec 1 intI [0]), .one (vec 1 intI [1]), .dead, .one (vec 1 intI [1]), .one (vec 1 intI [0]), .one (vec 1 intI [1])]) Z Z (by exact ⟨⟨_, Z, .inl ⟨Z, Z⟩⟩, ⟨_, Z, .inl ⟨Z, Z⟩⟩, ⟨_, Z, .inl ⟨Z, Z⟩⟩, ⟨_, Z, ⟨.inr ⟨_, Z, Z, Z⟩, .inl ⟨Z, Z⟩, .inl ⟨Z, Z⟩, .inl ⟨Z, Z⟩, Y⟩⟩, ⟨_, Z, ⟨.inl ⟨Z, Z⟩, .inl ⟨Z, Z⟩, .inl ⟨Z, Z⟩, .inl ⟨Z, Z⟩, Y⟩⟩, Y⟩) Z (by exact ⟨⟨Z, .inl ⟨Z, Z⟩, .inl ⟨Z, Z⟩, .inl ⟨Z, Z⟩, .inl ⟨Z, Z⟩, Y⟩, FrzB.vec, FrzB.vec, trivial, FrzB.vec, FrzB.vec, FrzB.vec, Y⟩) ?_; refine AOps.frzV (id := 4) (l := [1]) (env2 := [(0, .c (.ptr 0 0 0)), (1, .c (.own 1 0 ([0].length))), (2, .c (.own 2 0 ([1].length))), (6, .agg [row 1 intI [0], row 1 intI [1], .own 5 0 ([0].length), int 1]), (8, .agg [.imm (.val nL), .own 6 0 ([1].length), .imm (.val nL), int 3])]) (σ2 := [.one (.cells 4 [[int 0, .imm (.val nL), .imm (.val nL), .imm (.val nL)]]), .one (vec 1 intI [0]), .one (vec 1 intI [1]), .dead, .dead, .one (vec 1 intI [0]), .one (vec 1 intI [1])]) Z Z (by exact ⟨⟨_, Z, .inl ⟨Z, Z⟩⟩, ⟨_, Z, .inl ⟨Z, Z⟩⟩, ⟨_, Z, .inl ⟨Z, Z⟩⟩, ⟨_, Z, ⟨.inl ⟨Z, Z⟩, .inr ⟨_, Z, Z, Z⟩, .inl ⟨Z, Z⟩, .inl ⟨Z, Z⟩, Y⟩⟩, ⟨_, Z, ⟨.inl ⟨Z, Z⟩, .inl ⟨Z, Z⟩, .inl ⟨Z, Z⟩, .inl ⟨Z, Z⟩, Y⟩⟩, Y⟩) Z (by exact ⟨⟨Z, .inl ⟨Z, Z⟩, .inl ⟨Z, Z⟩, .inl ⟨Z, Z⟩, .inl ⟨Z, Z⟩, Y⟩, FrzB.vec, FrzB.vec, trivial, trivial, FrzB.vec, FrzB.vec, Y⟩) ?_; refine AOps.frzV (id := 5) (l := [0]) (env2 := [(0, .c (.ptr 0 0 0)), (1, .c (.own 1 0 ([0].length))), (2, .c (.own 2 0 ([1].length))), (6, .agg [row 1 intI [0], row 1 intI [1], row 1 intI [0], int 1]), (8, .agg [.imm (.val nL), .own 6 0 ([1].length), .imm (.val nL), int 3])]) (σ2 := [.one (.cells 4 [[int 0, .imm (.val nL), .imm (.val nL), .imm (.val nL)]]), .one (vec 1 intI [0]), .one (vec 1 intI [1]), .dead, .dead, .dead, .one (vec 1 intI [1])]) Z Z (by exact ⟨⟨_, Z, .inl ⟨Z, Z⟩⟩, ⟨_, Z, .inl ⟨Z, Z⟩⟩, ⟨_, Z, .inl ⟨Z, Z⟩⟩, ⟨_, Z, ⟨.inl ⟨Z, Z⟩, .inl ⟨Z, Z⟩, .inr ⟨_, Z, Z, Z⟩, .inl ⟨Z, Z⟩, Y⟩⟩, ⟨_, Z, ⟨.inl ⟨Z, Z⟩, .inl ⟨Z, Z⟩, .inl ⟨Z, Z⟩, .inl ⟨Z, Z⟩, Y⟩⟩, Y⟩) Z (by exact ⟨⟨Z, .inl ⟨Z, Z⟩, .inl ⟨Z, Z⟩, .inl ⟨Z, Z⟩, .inl ⟨Z, Z⟩, Y⟩, FrzB.vec, FrzB.vec, trivial, trivial, trivial, FrzB.vec, Y⟩) ?_; refine AOps.frzV (id := 6) (l := [1]) (env2 := [(0, .c (.ptr 0 0 0)), (1, .c (.own 1 0 ([0].length))), (2, .c (.own 2 0 ([1].length))), (6, .agg [row 1 intI [0], row 1 intI [1], row 1 intI [0], int 1]), (8, .agg [.imm (.val nL), row 1 intI [1], .imm (.val nL), int 3])]) (σ2 := [.one (.cells 4 [[int 0, .imm (.val nL), .imm (.val nL), .imm (.val nL)]]), .one (vec 1 intI [0]), .one (vec 1 intI [1]), .dead, .dead, .dead, .dead]) Z Z (by exact ⟨⟨_, Z, .inl ⟨Z, Z⟩⟩, ⟨_, Z, .inl ⟨Z, Z⟩⟩, ⟨_, Z, .inl ⟨Z, Z⟩⟩, ⟨_, Z, ⟨.inl ⟨Z, Z⟩, .inl ⟨Z, Z⟩, .inl ⟨Z, Z⟩, .inl ⟨Z, Z⟩, Y⟩⟩, ⟨_, Z, ⟨.inl ⟨Z, Z⟩, .inr ⟨_, Z, Z, Z⟩, .inl ⟨Z, Z⟩, .inl ⟨Z, Z⟩, Y⟩⟩, Y⟩) Z (by exact ⟨⟨Z, .inl ⟨Z, Z⟩, .inl ⟨Z, Z⟩, .inl ⟨Z, Z⟩, .inl ⟨Z, Z⟩, Y⟩, FrzB.vec, FrzB.vec, trivial, trivial, trivial, trivial, Y⟩) ?_; refine S.lit (f := d8) (l := [(⟨[0], [1], [0], 1⟩ : g7), (⟨[], [1], [], 3⟩ : g7)]) (ess := [[row 1 intI [0], row 1 intI [1], row 1 intI [0], int 1], [.imm (.val nL), row 1 intI [1], .imm (.val nL), int 3]]) Z Z Z Z Z Z Z ⟨⟨.inl Z, .inl Z, .inl Z, .inl Z, Y⟩, ⟨.inr ⟨Z, _, Z⟩, .inl Z, .inr ⟨Z, _, Z⟩, .inl Z, Y⟩, Y⟩ Z Z Z ?_
 refine W.build Z Z Z Z (W.storeAgg Z Z Z Z Z Z Z (.nil (b5 (.frzV (id := 1) (l := [0]) (env2 := [(0, .c (.ptr 0 0 0))]) (σ2 := [.one (.cells 4 [[int 2, row 1 intI [0], .own 2 0 ([1].length), .own 7 0 (([(⟨[0], [1], [0], 1⟩ : g7), (⟨[], [1], [], 3⟩ : g7)]).length)]]), .dead, .one (vec 1 intI [1]), .dead, .dead, .dead, .dead, .one (vec 4 d8 ([(⟨[0], [1], [0], 1⟩ : g7), (⟨[], [1], [], 3⟩ : g7)]))]) Z Z (by exact ⟨⟨_, Z, .inl ⟨Z, Z⟩⟩, Y⟩) Z (by exact ⟨⟨Z, .inl ⟨Z, Z⟩, .inr ⟨_, Z, Z, Z⟩, .inl ⟨Z, Z⟩, .inl ⟨Z, Z⟩, Y⟩, trivial, FrzB.vec, trivial, trivial, trivial, trivial, FrzB.vec, Y⟩) (.frzV (id := 2) (l := [1]) (env2 := [(0, .c (.ptr 0 0 0))]) (σ2 := [.one (.cells 4 [[int 2, row 1 intI [0], row 1 intI [1], .own 7 0 (([(⟨[0], [1], [0], 1⟩ : g7), (⟨[], [1], [], 3⟩ : g7)]).length)]]), .dead, .dead, .dead, .dead, .dead, .dead, .one (vec 4 d8 ([(⟨[0], [1], [0], 1⟩ : g7), (⟨[], [1], [], 3⟩ : g7)]))]) Z Z (by exact ⟨⟨_, Z, .inl ⟨Z, Z⟩⟩, Y⟩) Z (by exact ⟨⟨Z, .inl ⟨Z, Z⟩, .inl ⟨Z, Z⟩, .inr ⟨_, Z, Z, Z⟩, .inl ⟨Z, Z⟩, Y⟩, trivial, trivial, trivial, trivial, trivial, trivial, FrzB.vec, Y⟩) (.frzV (id := 7) (l := [(⟨[0], [1], [0], 1⟩ : g7), (⟨[], [1], [], 3⟩ : g7)]) (env2 := [(0, .c (.ptr 0 0 0))]) (σ2 := [.one (.cells 4 [[int 2, row 1 intI [0], row 1 intI [1], row 4 d8 ([(⟨[0], [1], [0], 1⟩ : g7), (⟨[], [1], [], 3⟩ : g7)])]]), .dead, .dead, .dead, .dead, .dead, .dead, .dead]) Z Z (by exact ⟨⟨_, Z, .inl ⟨Z, Z⟩⟩, Y⟩) Z (by exact ⟨⟨Z, .inl ⟨Z, Z⟩, .inl ⟨Z, Z⟩, .inl ⟨Z, Z⟩, .inr ⟨_, Z, Z, Z⟩, Y⟩, trivial, trivial, trivial, trivial, trivial, trivial, trivial, Y⟩) (.ret ?_)))))))
 obtain rfl := oi h
 exact Done.ret Z Z
theorem af9 {av : List Int} {bv : List Int} {r : Bool} (h : I9 av bv = some r) : d9 prog 25 [.c (row 1 intI av), .c (row 1 intI bv)] (.c (bool r)) := by
 unfold d9
 refine FnOk.enter (rs := [.t 4]) func25 Z ntmps25 results25 Z ⟨trivial, Y⟩ (by kernel_rfl) Z ?_
 unfold I9 at h
 refine AWP.g (.j (.q Z Z (.nil (b5 (.g (.g (.j (.e Z Z (S.len Z Z (fun hl7 => .e Z Z (S.len Z Z (fun hl9 => .neq Z Z Z (.nil (b5 (.iteN Z h (fun hc3 h => ?_) (fun hc3 h => ?_))))))))))))))))
 ·refine AWP.g (.j (.q Z Z (.nil (b5 (.ret (d4 ?_))))))
  obtain rfl := oi h
  exact Done.ret Z Z
 ·refine AWP.skip (b5 (.g (.g (.j (.q Z Z (.nil (b5 (.U ?_))))))))
  obtain ⟨oo, ho1, h⟩ := b8 h
  refine AWP.rngS ho1 (fun iv4 _ => ⟨[(0, .c (row 1 intI av)), (1, .c (row 1 intI bv)), (5, .c (int iv4))], []⟩) (fun o e st => match o with | .inl _ => e = .exit 0 ∧ Sub [] st ⟨[], []⟩ | .inr x => e = .ret ∧ Done [.t 4] (fun t _ => t = .c (bool x)) .ret st) ?_ ?_ ?_ ?_
  ·try dsimp only
   exact Sub.env ⟨Z, Z, Z, Y⟩
  ·intro iv4 s hloiv4 hltiv4 _
   try dsimp only
   refine AWP.g (.g (.j (.e Z Z (.e Z Z (S.len Z Z (fun hl13 => .F Z Z Z (.nil (b5 (.ad Z hltiv4 (.exit (d6 (d6 ⟨Z, ?_⟩))))))))))))
   exact Sub.env trivial
  ·intro iv4 s o hloiv4 hltiv4 h
   unfold I3 at h
   try dsimp only at h ⊢
   refine AWP.g (.g (.j (.e Z Z (.e Z Z (S.len Z Z (fun hl13 => .F Z Z Z (.nil (b5 (.ae Z hltiv4 (.skip (b5 (.g (.U (.g ?_))))))))))))))
   obtain ⟨a19, ha19, a23, ha23, h⟩ := b2 h
   refine AWP.drawI mixed Z ?_
   refine f7.consF Z (fun E => AOps.e Z Z .N) Z (.consF Z (fun E => AOps.e Z Z .N) Z (.consF Z (fun E => S.idx ha19 Z Z Z Z .N) Z (.consF Z (fun E => AOps.ac Z Z Z Z .N) Z (.consF Z (fun E => AOps.e Z Z .N) Z (.consF Z (fun E => AOps.e Z Z .N) Z (.consF Z (fun E => S.idx ha23 Z Z Z Z .N) Z (.consF Z (fun E => AOps.ac Z Z Z Z .N) Z (.consF Z (fun E => AOps.neq Z Z Z .N) Z ?_))))))))
   refine f7.done ?_
   dsimp only [i4]
   refine b5 (.iteN Z h (fun hc5 h => ?_) (fun hc5 h => ?_))
   ·refine AWP.g (.j (.q Z Z (.nil (b5 (.ret (f8 (d4 ?_)))))))
    obtain rfl := oi h
    refine d4 ⟨_, Z, Z, ?_⟩
    exact Done.ret Z Z
   ·refine AWP.skip (e6 (b5 (.j (.e Z Z (.add Z Z Z (by omega) (.q Z Z (.nil ?_)))))))
    obtain rfl := oi h
    refine b5 ⟨_, Z, ?_⟩
    exact Sub.env ⟨Z, Z, Z, Y⟩
  ·intro e s hq
   rcases oo with u | x
   ·try dsimp only at h hq
    obtain ⟨rfl, hs⟩ := hq
    refine ⟨_, hs, ?_⟩
    refine f9 (b5 (.g (.j (.q Z Z (.nil (b5 (.ret ?_)))))))
    obtain rfl := oi h
    exact Done.ret Z Z
   ·try dsimp only at h hq
    obtain ⟨rfl, hs⟩ := hq
    refine ⟨_, Sub.refl _ _, ?_⟩
    refine f8 (d4 ?_)
    obtain rfl := oi h
    exact hs
theorem K3 {r : Bool} (h : B5 = some r) : d9 prog 7 [] (.c (bool r)) := by
 unfold d9
 refine FnOk.enter (rs := [.t 0]) func7 Z ntmps7 results7 Z ⟨trivial, Y⟩ (by kernel_rfl) Z ?_
 unfold B5 at h
 refine AWP.g (.j (.q Z Z (.nil (b5 (.g ?_)))))
 obtain ⟨a10, ha10, h⟩ := b8 h
 refine AWP.j (S.lit (f := intI) (l := [1, 2]) (ess := [[int 1], [int 2]]) Z Z Z Z Z Z Z ⟨⟨.inl Z, Y⟩, ⟨.inl Z, Y⟩, Y⟩ Z Z Z (S.lit (f := intI) (l := [2, 3]) (ess := [[int 2], [int 3]]) Z Z Z Z Z Z Z ⟨⟨.inl Z, Y⟩, ⟨.inl Z, Y⟩, Y⟩ Z Z Z (.callL Z Z (.cons (.c (.own Z Z)) (.cons (.c (.own Z Z)) .nil)) Z (af2 ha10) Z (.e Z Z (.ah Z Z Z (.ah Z Z Z (W.alloc Z Z Z Z (.q Z Z (W.storeAgg Z Z Z Z Z Z Z (.nil (b5 (.g ?_))))))))))))
 obtain ⟨a14, ha14, a16, ha16, h⟩ := b2 h
 refine AWP.j (.E Z Z Z Z (law8_step_ok ha14) Z (S.lit (f := intI) (l := [1]) (ess := [[int 1]]) Z Z Z Z Z Z Z ⟨⟨.inl Z, Y⟩, Y⟩ Z Z Z (.frzV (id := 3) (l := [1]) (env2 := [(1, .c (int a10.1)), (2, .c (.ptr 2 0 0)), (14, .agg (tT a14)), (15, .c (row 1 intI [1]))]) (σ2 := [.one (vec 1 intI [1, 2]), .one (vec 1 intI [2, 3]), .one (.cells 2 [[int a10.2.code, int a10.2.index]]), .dead]) Z Z (by exact ⟨⟨_, Z, .inl ⟨Z, Z⟩⟩, ⟨_, Z, .inl ⟨Z, Z⟩⟩, ⟨_, Z, ⟨.inl ⟨Z, Z⟩, .inl ⟨Z, Z⟩, .inl ⟨Z, Z⟩, .inl ⟨Z, Z⟩, Y⟩⟩, ⟨_, Z, .inr ⟨_, Z, Z, Z⟩⟩, Y⟩) Z (by exact ⟨FrzB.vec, FrzB.vec, ⟨Z, .inl ⟨Z, Z⟩, .inl ⟨Z, Z⟩, Y⟩, trivial, Y⟩) (.E Z Z Z Z (ab6 ha16) Z (.e Z Z (.ah Z Z Z (.ah Z Z Z (.ah Z Z Z (.ah Z Z Z (W.alloc Z Z Z Z (.q Z Z (.q Z Z (.q Z Z (W.storeAgg Z Z Z Z Z Z Z (.nil (b5 ?_))))))))))))))))
 obtain ⟨t1, hx2, h⟩ := b8 h
 refine AWP.seqJ (⟨[(0, .c (bool t1))], []⟩) ?_ ?_
 ·rcases bft (decide (a10.2.code = 0)) with hb3 | hb3
  ·replace hx2 := x5 hb3 hx2
   rcases bft (decide (a16.2.2.2.code = 0)) with hb4 | hb4
   ·replace hx2 := x5 hb4 hx2
    rcases bft (decide (a10.1 = 2)) with hb5 | hb5
    ·replace hx2 := x5 hb5 hx2
     rcases bft (a16.2.2.1) with hb6 | hb6
     ·replace hx2 := A9 hb6 hx2
      rcases bft (decide (a16.2.1 = 0)) with hb7 | hb7
      ·replace hx2 := x5 hb7 hx2
       obtain ⟨a43, ha43, hx2⟩ := b8 hx2
       refine AWP.j (W.fieldAddr Z Z Z Z (.z Z Z Z Z Z Z (.aa Z Z Z (.e Z Z (.u Z Z Z hb3 (W.fieldAddr Z Z Z Z (.u Z Z Z hb3 (.z Z Z Z Z Z Z (.u Z Z Z hb3 (.aa Z Z Z (.J Z hb3 Z Z (.e Z Z (.u Z Z Z hb4 (.e Z Z (.u Z Z Z hb4 (.aa Z Z Z (.J Z hb4 Z Z (.e Z Z (.u Z Z Z hb5 (.e Z Z (.J Z hb5 Z Z (.e Z Z (.u Z Z Z hb6 (.e Z Z (.u Z Z Z hb6 (.aa Z Z Z (.J Z hb6 Z Z (.e Z Z (.u Z Z Z hb7 (.e Z Z (.u Z Z Z hb7 (S.lit (f := intI) (l := [1]) (ess := [[int 1]]) Z Z Z Z Z Z Z ⟨⟨.inl Z, Y⟩, Y⟩ Z Z Z (.u Z Z Z hb7 (.callL Z Z (.cons (.c .imm) (.cons (.c (.own Z Z)) .nil)) Z (af9 ha43) Z (.J Z hb7 Z Z (.q Z Z (.nil ?_)))))))))))))))))))))))))))))))))))))
       obtain rfl := oi hx2
       refine b5 (Sub.cut ⟨Z, Y⟩ Z trivial Z)
      ·replace hx2 := x4 hb7 hx2
       refine AWP.j (W.fieldAddr Z Z Z Z (.z Z Z Z Z Z Z (.aa Z Z Z (.e Z Z (.u Z Z Z hb3 (W.fieldAddr Z Z Z Z (.u Z Z Z hb3 (.z Z Z Z Z Z Z (.u Z Z Z hb3 (.aa Z Z Z (.J Z hb3 Z Z (.e Z Z (.u Z Z Z hb4 (.e Z Z (.u Z Z Z hb4 (.aa Z Z Z (.J Z hb4 Z Z (.e Z Z (.u Z Z Z hb5 (.e Z Z (.J Z hb5 Z Z (.e Z Z (.u Z Z Z hb6 (.e Z Z (.u Z Z Z hb6 (.aa Z Z Z (.J Z hb6 Z Z (.e Z Z (.v Z Z Z hb7 (.v Z Z Z hb7 (.v Z Z Z hb7 (.O Z hb7 Z Z (.q Z Z (.nil ?_))))))))))))))))))))))))))))))))))
       obtain rfl := oi hx2
       refine b5 (Sub.cut ⟨Z, Y⟩ Z trivial Z)
     ·replace hx2 := A7 hb6 hx2
      refine AWP.j (W.fieldAddr Z Z Z Z (.z Z Z Z Z Z Z (.aa Z Z Z (.e Z Z (.u Z Z Z hb3 (W.fieldAddr Z Z Z Z (.u Z Z Z hb3 (.z Z Z Z Z Z Z (.u Z Z Z hb3 (.aa Z Z Z (.J Z hb3 Z Z (.e Z Z (.u Z Z Z hb4 (.e Z Z (.u Z Z Z hb4 (.aa Z Z Z (.J Z hb4 Z Z (.e Z Z (.u Z Z Z hb5 (.e Z Z (.J Z hb5 Z Z (.e Z Z (.v Z Z Z hb6 (.v Z Z Z hb6 (.O Z hb6 Z Z (.e Z Z (.v Z Z Z Z (.v Z Z Z Z (.v Z Z Z Z (.O Z Z Z Z (.q Z Z (.nil ?_))))))))))))))))))))))))))))))))
      obtain rfl := oi hx2
      refine b5 (Sub.cut ⟨Z, Y⟩ Z trivial Z)
    ·replace hx2 := x4 hb5 hx2
     refine AWP.j (W.fieldAddr Z Z Z Z (.z Z Z Z Z Z Z (.aa Z Z Z (.e Z Z (.u Z Z Z hb3 (W.fieldAddr Z Z Z Z (.u Z Z Z hb3 (.z Z Z Z Z Z Z (.u Z Z Z hb3 (.aa Z Z Z (.J Z hb3 Z Z (.e Z Z (.u Z Z Z hb4 (.e Z Z (.u Z Z Z hb4 (.aa Z Z Z (.J Z hb4 Z Z (.e Z Z (.v Z Z Z hb5 (.O Z hb5 Z Z (.e Z Z (.v Z Z Z Z (.v Z Z Z Z (.O Z Z Z Z (.e Z Z (.v Z Z Z Z (.v Z Z Z Z (.v Z Z Z Z (.O Z Z Z Z (.q Z Z (.nil ?_)))))))))))))))))))))))))))))))
     obtain rfl := oi hx2
     refine b5 (Sub.cut ⟨Z, Y⟩ Z trivial Z)
   ·replace hx2 := x4 hb4 hx2
    refine AWP.j (W.fieldAddr Z Z Z Z (.z Z Z Z Z Z Z (.aa Z Z Z (.e Z Z (.u Z Z Z hb3 (W.fieldAddr Z Z Z Z (.u Z Z Z hb3 (.z Z Z Z Z Z Z (.u Z Z Z hb3 (.aa Z Z Z (.J Z hb3 Z Z (.e Z Z (.v Z Z Z hb4 (.v Z Z Z hb4 (.O Z hb4 Z Z (.e Z Z (.v Z Z Z Z (.O Z Z Z Z (.e Z Z (.v Z Z Z Z (.v Z Z Z Z (.O Z Z Z Z (.e Z Z (.v Z Z Z Z (.v Z Z Z Z (.v Z Z Z Z (.O Z Z Z Z (.q Z Z (.nil ?_)))))))))))))))))))))))))))))
    obtain rfl := oi hx2
    refine b5 (Sub.cut ⟨Z, Y⟩ Z trivial Z)
  ·replace hx2 := x4 hb3 hx2
   refine AWP.j (W.fieldAddr Z Z Z Z (.z Z Z Z Z Z Z (.aa Z Z Z (.e Z Z (.v Z Z Z hb3 (.v Z Z Z hb3 (.v Z Z Z hb3 (.O Z hb3 Z Z (.e Z Z (.v Z Z Z Z (.v Z Z Z Z (.O Z Z Z Z (.e Z Z (.v Z Z Z Z (.O Z Z Z Z (.e Z Z (.v Z Z Z Z (.v Z Z Z Z (.O Z Z Z Z (.e Z Z (.v Z Z Z Z (.v Z Z Z Z (.v Z Z Z Z (.O Z Z Z Z (.q Z Z (.nil ?_))))))))))))))))))))))))))
   obtain rfl := oi hx2
   refine b5 (Sub.cut ⟨Z, Y⟩ Z trivial Z)
 ·refine AWP.ret ?_
  obtain rfl := oi h
  exact Done.ret Z Z
theorem X8 {sv : List Int} {r : Int} (h : K8 sv = some r) : d9 prog 50 [.c (row 1 intI sv)] (.c (int r)) := by
 unfold d9
 refine FnOk.enter (rs := [.t 2]) func50 Z ntmps50 results50 Z ⟨trivial, Y⟩ (by kernel_rfl) Z ?_
 unfold K8 at h
 refine AWP.g (.j (.q Z Z (.nil (b5 (.g (.j (.q Z Z (.nil (b5 (.g (.g (.j (.q Z Z (.nil (b5 (.U ?_))))))))))))))))
 obtain ⟨w2, ho1, h⟩ := b8 h
 refine AWP.forS ho1 (fun iv3 w2 => ⟨[(0, .c (row 1 intI sv)), (3, .c (int w2)), (4, .c (int iv3))], []⟩) (fun w2 e st => e = .exit 0 ∧ Sub [] st ⟨[(3, .c (int w2))], []⟩) ?_ ?_ ?_ ?_
 ·try dsimp only
  exact Sub.env ⟨Z, Z, Z, Y⟩
 ·intro iv3 w2 hloiv3 hltiv3 _
  try dsimp only
  refine AWP.g (.g (.j (.e Z Z (.e Z Z (S.len Z Z (fun hl7 => .F Z Z Z (.nil (b5 (.ad Z hltiv3 (.exit (d6 (d6 ⟨Z, ?_⟩))))))))))))
  exact Sub.env ⟨Z, Y⟩
 ·intro iv3 w2 o hloiv3 hltiv3 h
  unfold R8 at h
  try dsimp only at h ⊢
  refine AWP.g (.g (.j (.e Z Z (.e Z Z (S.len Z Z (fun hl7 => .F Z Z Z (.nil (b5 (.ae Z hltiv3 (.skip (b5 (.g (.U ?_)))))))))))))
  obtain ⟨a14, ha14, u17, hu17, h⟩ := b2 h
  refine AWP.j (.e Z Z (.e Z Z (.e Z Z (S.idx ha14 Z Z Z Z (.ac Z Z Z Z (.convInt Z Z (S.shl hu17 Z Z Z (S.add Z Z Z (.q Z Z (.nil (e6 (b5 (.j (.e Z Z (.add Z Z Z (by omega) (.q Z Z (.nil ?_)))))))))))))))))
  obtain rfl := oi h
  refine b5 (Sub.env ⟨Z, Z, Z, Y⟩)
 ·intro e s hq
  obtain ⟨rfl, hs⟩ := hq
  refine ⟨_, hs, ?_⟩
  refine f9 (b5 (.g (.j (.e Z Z (.q Z Z (.nil (b5 (.ret ?_))))))))
  obtain rfl := oi h
  exact Done.ret Z Z
theorem S4 {part : List Int} {l : List Int} {r : Bool} (h : G6 part l = some r) : d9 prog 27 [.c (row 1 intI part), .c (row 1 intI l)] (.c (bool r)) := by
 unfold d9
 refine FnOk.enter (rs := [.t 4]) func27 Z ntmps27 results27 Z ⟨trivial, Y⟩ (by kernel_rfl) Z ?_
 unfold G6 at h
 refine AWP.g (.j (.q Z Z (.nil (b5 (.g (.g (.j (.q Z Z (.nil (b5 (.U ?_)))))))))))
 obtain ⟨oo, ho1, h⟩ := b8 h
 refine AWP.rngS ho1 (fun iv3 _ => ⟨[(0, .c (row 1 intI part)), (1, .c (row 1 intI l)), (5, .c (int iv3))], []⟩) (fun o e st => match o with | .inl _ => e = .exit 0 ∧ Sub [] st ⟨[], []⟩ | .inr x => e = .ret ∧ Done [.t 4] (fun t _ => t = .c (bool x)) .ret st) ?_ ?_ ?_ ?_
 ·try dsimp only
  exact Sub.env ⟨Z, Z, Z, Y⟩
 ·intro iv3 s hloiv3 hltiv3 _
  try dsimp only
  refine AWP.g (.g (.j (.e Z Z (.e Z Z (S.len Z Z (fun hl8 => .F Z Z Z (.nil (b5 (.ad Z hltiv3 (.exit (d6 (d6 ⟨Z, ?_⟩))))))))))))
  exact Sub.env trivial
 ·intro iv3 s o hloiv3 hltiv3 h
  unfold S8 at h
  try dsimp only at h ⊢
  refine AWP.g (.g (.j (.e Z Z (.e Z Z (S.len Z Z (fun hl8 => .F Z Z Z (.nil (b5 (.ae Z hltiv3 (.skip (b5 (.g (.U (.g ?_))))))))))))))
  obtain ⟨a15, ha15, a17, ha17, h⟩ := b2 h
  refine AWP.j (.e Z Z (.e Z Z (.e Z Z (S.idx ha15 Z Z Z Z (.ac Z Z Z Z (.E Z Z Z Z (A0 ha17) Z (.ab Z Z (.nil (b5 (.ag Z h (fun hc4 h => ?_) (fun hc4 h => ?_)))))))))))
  ·refine AWP.g (.j (.q Z Z (.nil (b5 (.ret (f8 (d4 ?_)))))))
   obtain rfl := oi h
   refine d4 ⟨_, Z, Z, ?_⟩
   exact Done.ret Z Z
  ·refine AWP.skip (e6 (b5 (.j (.e Z Z (.add Z Z Z (by omega) (.q Z Z (.nil ?_)))))))
   obtain rfl := oi h
   refine b5 ⟨_, Z, ?_⟩
   exact Sub.env ⟨Z, Z, Z, Y⟩
 ·intro e s hq
  rcases oo with u | x
  ·try dsimp only at h hq
   obtain ⟨rfl, hs⟩ := hq
   refine ⟨_, hs, ?_⟩
   refine f9 (b5 (.g (.j (.q Z Z (.nil (b5 (.ret ?_)))))))
   obtain rfl := oi h
   exact Done.ret Z Z
  ·try dsimp only at h hq
   obtain ⟨rfl, hs⟩ := hq
   refine ⟨_, Sub.refl _ _, ?_⟩
   refine f8 (d4 ?_)
   obtain rfl := oi h
   exact hs
theorem J8 {t : d5} {sv : List Int} {op : Int} {r : Bool} (h : B3 t sv op = some r) : d9 prog 28 [.agg (tT t), .c (row 1 intI sv), .c (int op)] (.c (bool r)) := by
 unfold d9
 refine FnOk.enter (rs := [.t 6]) func28 Z ntmps28 results28 Z ⟨trivial, Y⟩ (by kernel_rfl) Z ?_
 unfold B3 at h
 refine AWP.g (.j (W.box Z Z Z Z Z Z (.q Z Z (.nil (b5 (.g ?_))))))
 obtain ⟨a10, ha10, a14, ha14, h⟩ := b2 h
 refine AWP.j (W.fieldAddr Z Z Z Z (.z Z Z Z Z Z Z (.e Z Z (S.idx ha10 Z Z Z Z (W.fieldAddrI Z Z Z Z (.ac Z Z Z Z (.e Z Z (.E Z Z Z Z (S4 ha14) Z (.q Z Z (.nil (b5 (.ret ?_))))))))))))
 obtain rfl := oi h
 exact Done.ret Z Z
theorem P0 {t : d5} {sv : List Int} {op : Int} {r : (List Int)} (h : G2 t sv op = some r) : s5 prog 30 [.agg (tT t), .c (row 1 intI sv), .c (int op)] 1 (List.map intI r) := by
 unfold s5
 refine FnOk.enter (rs := [.t 6]) func30 Z ntmps30 results30 Z ⟨trivial, Y⟩ (by kernel_rfl) Z ?_
 unfold G2 at h
 refine AWP.g (.j (W.box Z Z Z Z Z Z (.q Z Z (.nil (b5 (.g (.j (.q Z Z (.nil (b5 (.g (.g (.j (.q Z Z (.nil (b5 (.U (.virtV 1 intI 7 Z Z Z ?_))))))))))))))))))
 obtain ⟨hnp5, h⟩ := ite_none h
 obtain ⟨c4, ho1, h⟩ := b8 h
 refine AWP.forS ho1 (fun p5 c4 => ⟨[(1, .c (row 1 intI sv)), (2, .c (int op)), (3, .c (.ptr 0 0 0)), (7, .c (.own 1 0 c4.length)), (8, .c (int p5))], [.one (.cells 4 [(tT t)]), .one (vec 1 intI c4)]⟩) (fun c4 e st => e = .exit 0 ∧ Sub [] st ⟨[(7, .c (.own 1 0 c4.length))], [.one (.cells 4 [(tT t)]), .one (vec 1 intI c4)]⟩) ?_ ?_ ?_ ?_
 ·try dsimp only
  exact Sub.env ⟨Z, Z, Z, (o8 (by first | rfl | simp only [List.length_set])), Z, Y⟩
 ·intro p5 c4 hlop5 hltp5 _
  try dsimp only
  refine AWP.g (.g (.j (.e Z Z (W.fieldAddr Z Z Z Z (.z Z Z Z Z Z Z (.F Z Z Z (.nil (b5 (.ad Z hltp5 (.exit (d6 (d6 ⟨Z, ?_⟩))))))))))))
  exact Sub.env ⟨Z, Y⟩
 ·intro p5 c4 o hlop5 hltp5 h
  unfold V0 at h
  try dsimp only at h ⊢
  refine AWP.g (.g (.j (.e Z Z (W.fieldAddr Z Z Z Z (.z Z Z Z Z Z Z (.F Z Z Z (.nil (b5 (.ae Z hltp5 (.skip (b5 ?_)))))))))))
  obtain ⟨c6, hx7, h⟩ := b8 h
  refine AWP.seqJ (⟨[(1, .c (row 1 intI sv)), (2, .c (int op)), (3, .c (.ptr 0 0 0)), (7, .c (.own 3 0 c6.length)), (8, .c (int p5))], [.one (.cells 4 [(tT t)]), .dead, .dead, .one (vec 1 intI c6)]⟩) ?_ ?_
  ·refine AWP.U ?_
   obtain ⟨t8, hx9, hx7⟩ := b8 hx7
   refine AWP.seqJ (⟨[(1, .c (row 1 intI sv)), (2, .c (int op)), (3, .c (.ptr 0 0 0)), (7, .c (.own 1 0 c4.length)), (8, .c (int p5)), (38, .c (bool t8))], [.one (.cells 4 [(tT t)]), .one (vec 1 intI c4)]⟩) ?_ ?_
   ·obtain ⟨a18, ha18, a22, ha22, hx9⟩ := b2 hx9
    rcases bft (a22) with hb10 | hb10
    ·replace hx9 := A9 hb10 hx9
     refine AWP.j (W.fieldAddr Z Z Z Z (.z Z Z Z Z Z Z (.e Z Z (S.idx ha18 Z Z Z Z (W.fieldAddrI Z Z Z Z (.ac Z Z Z Z (.e Z Z (.E Z Z Z Z (A0 ha22) Z (.e Z Z (.v Z Z Z hb10 (.v Z Z Z hb10 (.v Z Z Z hb10 (.v Z Z Z hb10 (.af Z Z Z (.af Z Z Z (.af Z Z Z (.af Z Z Z (.af Z Z Z (.af Z Z Z (.af Z Z Z (.af Z Z Z (.af Z Z Z (.v Z Z Z hb10 (.J Z hb10 Z Z (.nil ?_)))))))))))))))))))))))))
     obtain rfl := oi hx9
     refine b5 (Sub.env ⟨Z, Z, Z, Z, Z, Z, Y⟩)
    ·replace hx9 := A7 hb10 hx9
     obtain ⟨a26, ha26, hx9⟩ := b8 hx9
     rcases bft (a26) with hb11 | hb11
     ·replace hx9 := A9 hb11 hx9
      obtain ⟨a31, ha31, a35, ha35, hx9⟩ := b2 hx9
      refine AWP.j (W.fieldAddr Z Z Z Z (.z Z Z Z Z Z Z (.e Z Z (S.idx ha18 Z Z Z Z (W.fieldAddrI Z Z Z Z (.ac Z Z Z Z (.e Z Z (.E Z Z Z Z (A0 ha22) Z (.e Z Z (.u Z Z Z hb10 (.e Z Z (.u Z Z Z hb10 (.e Z Z (.u Z Z Z hb10 (.E Z Z Z Z (A0 ha26) Z (.u Z Z Z hb10 (.e Z Z (.u Z Z Z hb11 (W.fieldAddr Z Z Z Z (.u Z Z Z hb11 (.z Z Z Z Z Z Z (.u Z Z Z hb11 (.e Z Z (.u Z Z Z hb11 (S.idx ha31 Z Z Z Z (.u Z Z Z hb11 (W.fieldAddrI Z Z Z Z (.u Z Z Z hb11 (.ac Z Z Z Z (.u Z Z Z hb11 (.e Z Z (.u Z Z Z hb11 (.E Z Z Z Z (A0 ha35) Z (.u Z Z Z hb11 (.ab Z Z (.u Z Z Z hb10 (.J Z hb11 Z Z (.O Z hb10 Z Z (.nil ?_)))))))))))))))))))))))))))))))))))))))
      obtain rfl := oi hx9
      refine b5 (Sub.env ⟨Z, Z, Z, Z, Z, Z, Y⟩)
     ·replace hx9 := A7 hb11 hx9
      refine AWP.j (W.fieldAddr Z Z Z Z (.z Z Z Z Z Z Z (.e Z Z (S.idx ha18 Z Z Z Z (W.fieldAddrI Z Z Z Z (.ac Z Z Z Z (.e Z Z (.E Z Z Z Z (A0 ha22) Z (.e Z Z (.u Z Z Z hb10 (.e Z Z (.u Z Z Z hb10 (.e Z Z (.u Z Z Z hb10 (.E Z Z Z Z (A0 ha26) Z (.u Z Z Z hb10 (.e Z Z (.v Z Z Z hb11 (.v Z Z Z hb11 (.v Z Z Z hb11 (.v Z Z Z hb11 (.v Z Z Z hb11 (.v Z Z Z hb11 (.v Z Z Z hb11 (.v Z Z Z hb11 (.v Z Z Z hb11 (.u Z Z Z hb10 (.O Z hb11 Z Z (.O Z hb10 Z Z (.nil ?_))))))))))))))))))))))))))))))
      obtain rfl := oi hx9
      refine b5 (Sub.env ⟨Z, Z, Z, Z, Z, Z, Y⟩)
   ·refine AWP.ag Z hx7 (fun hc12 hx7 => ?_) (fun hc12 hx7 => ?_)
    ·obtain ⟨a42, ha42, hx7⟩ := b8 hx7
     refine AWP.j (.e Z Z (.e Z Z (S.lit (f := intI) (l := [p5]) (ess := [[int p5]]) Z Z Z Z Z Z Z ⟨⟨.inl Z, Y⟩, Y⟩ Z Z Z (S.append (f := intI) ha42 Z Z Z Z Z Z (.own Z Z) Z Z Z Z (.q Z Z (.nil (e6 ?_)))))))
     obtain rfl := oi hx7
     refine b5 (Sub.cut ⟨Z, Z, Z, Z, Z, Y⟩ Z ⟨.one Z, .dead, .dead, .vec, Y⟩ Z)
    ·refine AWP.skip (e6 ?_)
     obtain rfl := oi hx7
     refine b5 ((Sub.move (env' := [(1, .c (row 1 intI sv)), (2, .c (int op)), (3, .c (.ptr 0 0 0)), (7, .c (.own 3 0 c4.length)), (8, .c (int p5))]) (σ' := [.one (.cells 4 [(tT t)]), .dead, .dead, .one (vec 1 intI c4)]) 3 1 Z Z Z ⟨Z, Z, Z, Z, Z, Y⟩ Z ⟨⟨Z, Z⟩, trivial, trivial, ⟨Blk.im_ok _ _ _, j9 Z⟩, Y⟩).trans (Sub.env ⟨Z, Z, Z, Z, Z, Y⟩))
  ·refine AWP.j (.e Z Z (.add Z Z Z (by omega) (.q Z Z (.nil ?_))))
   obtain rfl := oi h
   refine b5 ((Sub.move (env' := [(1, .c (row 1 intI sv)), (2, .c (int op)), (3, .c (.ptr 0 0 0)), (7, .c (.own 1 0 c6.length)), (8, .c (int (p5 + 1)))]) (σ' := [.one (.cells 4 [(tT t)]), .one (vec 1 intI c6), .dead]) 1 3 Z Z Z ⟨Z, Z, Z, Z, Z, Y⟩ Z ⟨⟨Z, Z⟩, ⟨Blk.im_ok _ _ _, j9 Z⟩, trivial, Y⟩).trans (Sub.cut ⟨Z, Z, Z, Z, Z, Y⟩ Z ⟨.one Z, .vec, Y⟩ Z))
 ·intro e s hq
  obtain ⟨rfl, hs⟩ := hq
  refine ⟨_, hs, ?_⟩
  refine f9 (b5 (.g (.j (.e Z Z (.q Z Z (.nil (b5 (.ret ?_))))))))
  obtain rfl := oi h
  exact Done.ret Z (Fresh.mk Z Z)
theorem ad4 {t : d5} {sv : List Int} {r : (List (List Int)) × Bool} (h : I2 t sv = some r) : d9 prog 26 [.agg (tT t), .c (row 1 intI sv)] (.tup [.c (row 1 e7 r.1), .c (bool r.2)]) := by
 unfold d9
 refine FnOk.enter (rs := [.t 4, .t 5]) func26 Z ntmps26 results26 Z ⟨trivial, trivial, Y⟩ (by kernel_rfl) Z ?_
 unfold I2 at h
 refine AWP.g (.j (W.box Z Z Z Z Z Z (.q Z Z (.q Z Z (.nil (b5 (.g (.j (.e Z Z (S.lit (f := e7) (l := [sv]) (ess := [[row 1 intI sv]]) Z Z Z Z Z Z Z ⟨⟨.inl Z, Y⟩, Y⟩ Z Z Z (.q Z Z (.nil (b5 (.g ?_))))))))))))))
 obtain ⟨a14, ha14, h⟩ := b8 h
 refine AWP.j (.e Z Z (.E Z Z Z Z (X8 ha14) Z (S.lit (f := intI) (l := [a14]) (ess := [[int a14]]) Z Z Z Z Z Z Z ⟨⟨.inl Z, Y⟩, Y⟩ Z Z Z (.q Z Z (.nil (b5 (.g (.g (.j (.q Z Z (.nil (b5 (.U ?_)))))))))))))
 obtain ⟨oo, ho1, h⟩ := b8 h
 refine AWP.loopS ho1 (fun (c3, c4, iv5) => ⟨[(2, .c (.ptr 0 0 0)), (6, .c (.own 1 0 c3.length)), (7, .c (.own 2 0 c4.length)), (8, .c (int iv5))], [.one (.cells 4 [(tT t)]), .one (vec 1 e7 c3), .one (vec 1 intI c4)]⟩) (fun o e st => match o with | .inl c6 => e = .exit 0 ∧ Sub [] st ⟨[(6, .c (.own 1 0 c6.length))], [.dead, .one (vec 1 e7 c6)]⟩ | .inr x => e = .ret ∧ Done [.t 4, .t 5] (fun t _ => t = .tup [.c (row 1 e7 x.1), .c (bool x.2)]) .ret st) ?_ ?_ ?_
 ·try dsimp only
  exact Sub.env ⟨Z, Z, Z, Z, Y⟩
 ·intro s o h
  obtain ⟨c3, c4, iv5⟩ := s
  unfold D4 at h
  try dsimp only at h ⊢
  refine AWP.g (.g (.j (.e Z Z (.e Z Z (S.lenO Z Z Z (fun hl18 => .F Z Z Z (.nil (b5 (.ite Z h (fun hc7 h => ?_) (fun hc7 h => ?_))))))))))
  ·refine AWP.skip (b5 (.g (.U (.g (.j (.q Z Z (.nil (b5 (.U ?_)))))))))
   obtain ⟨oo, ho2, h⟩ := b8 h
   refine AWP.rngS ho2 (fun op10 (c8, c9) => ⟨[(2, .c (.ptr 0 0 0)), (6, .c (.own 1 0 c8.length)), (7, .c (.own 2 0 c9.length)), (8, .c (int iv5)), (9, .c (int op10))], [.one (.cells 4 [(tT t)]), .one (vec 1 e7 c8), .one (vec 1 intI c9)]⟩) (fun o e st => match o with | .inl (c8, c9) => e = .exit 2 ∧ Sub [] st ⟨[(2, .c (.ptr 0 0 0)), (6, .c (.own 1 0 c8.length)), (7, .c (.own 2 0 c9.length)), (8, .c (int iv5))], [.one (.cells 4 [(tT t)]), .one (vec 1 e7 c8), .one (vec 1 intI c9)]⟩ | .inr x => e = .ret ∧ Done [.t 4, .t 5] (fun t _ => t = .tup [.c (row 1 e7 x.1), .c (bool x.2)]) .ret st) ?_ ?_ ?_ ?_
   ·try dsimp only
    exact Sub.env ⟨Z, Z, Z, Z, Z, Y⟩
   ·intro op10 s hloop10 hltop10 _
    obtain ⟨c8, c9⟩ := s
    try dsimp only
    refine AWP.g (.g (.j (.e Z Z (W.fieldAddr Z Z Z Z (.z Z Z Z Z Z Z (S.len Z Z (fun hl25 => .F Z Z Z (.nil (b5 (.ad Z hltop10 (.exit (d6 (d6 ⟨Z, ?_⟩)))))))))))))
    exact Sub.env ⟨Z, Z, Z, Z, Y⟩
   ·intro op10 s o hloop10 hltop10 h
    obtain ⟨c8, c9⟩ := s
    unfold v8 at h
    try dsimp only at h ⊢
    refine AWP.g (.g (.j (.e Z Z (W.fieldAddr Z Z Z Z (.z Z Z Z Z Z Z (S.len Z Z (fun hl25 => .F Z Z Z (.nil (b5 (.ae Z hltop10 (.skip (b5 (.seqF (z7) o (fun (c11, c12) => ⟨[(2, .c (.ptr 0 0 0)), (6, .c (.own 1 0 c11.length)), (7, .c (.own 2 0 c12.length)), (8, .c (int iv5)), (9, .c (int op10))], [.one (.cells 4 [(tT t)]), .one (vec 1 e7 c11), .one (vec 1 intI c12)]⟩) (fun x h => ?_) ?_)))))))))))))
    ·obtain ⟨c11, c12⟩ := x
     unfold z7 at h
     try dsimp only at h ⊢
     refine AWP.j (.e Z Z (.add Z Z Z (by omega) (.q Z Z (.nil ?_))))
     obtain rfl := oi h
     refine b5 ⟨_, Z, ?_⟩
     exact Sub.env ⟨Z, Z, Z, Z, Z, Y⟩
    ·refine AWP.U (.g (.g ?_))
     obtain ⟨a32, ha32, a35, ha35, h⟩ := b2 h
     refine AWP.drawI mixed Z ?_
     refine f7.consF Z (fun E => W.loadAgg Z Z Z Z Z Z Z .N) Z (.consF Z (fun E => AOps.e Z Z .N) Z (.consF Z (fun E => AOps.e Z Z .N) Z (.consF Z (fun E => S.idxO ha32 Z Z Z Z Z .N) Z (.consF Z (fun E => S.loadO ha32 Z Z Z Z Z .N) Z (.consF Z (fun E => AOps.e Z Z .N) Z (.consF Z (fun E => AOps.E Z Z Z Z (J8 ha35) Z .N) Z (.consF Z (fun E => AOps.ab Z Z .N) Z ?_)))))))
     refine f7.done ?_
     dsimp only [i4]
     refine b5 (.ag Z h (fun hc13 h => ?_) (fun hc13 h => ?_))
     ·refine AWP.exit (d6 (f9 (b5 ⟨_, h, ?_⟩)))
      exact Sub.env ⟨Z, Z, Z, Z, Z, Y⟩
     ·refine AWP.skip (b5 (.g ?_))
      obtain ⟨a40, ha40, a43, ha43, h⟩ := b2 h
      refine AWP.drawEI [6] mixed Z Z Z ?_
      refine e8.consN Z Z (fun E => W.loadAgg Z Z Z Z Z Z Z .N) Z (.consN Z Z (fun E => AOps.e Z Z .N) Z (.consN Z Z (fun E => AOps.e Z Z .N) Z (.consN Z Z (fun E => S.idxO ha40 Z Z Z Z Z .N) Z (.consN Z Z (fun E => S.loadO ha40 Z Z Z Z Z .N) Z (.consN Z Z (fun E => AOps.e Z Z .N) Z ?_)))))
      apply e8.consE; exact Z; exact Z; intro E
      refine S.fresh Z Z Z Z (P0 ha43) Z Z .N
      exact Z
      exact Z
      refine e8.consN Z Z (fun E => AOps.q Z Z .N) Z ?_
      refine e8.done Z ?_ ?_
      ·refine b9.cons Z Z ?_ ?_
       refine b7.go Z Z (fun E => W.loadAgg Z Z Z Z Z Z Z .N) ?_
       refine b7.skip Z (b7.nil)
       refine b9.cons Z Z ?_ ?_
       refine b7.go Z Z (fun E => AOps.e Z Z .N) ?_
       refine b7.skip Z (b7.nil)
       refine b9.cons Z Z ?_ ?_
       refine b7.go Z Z (fun E => AOps.e Z Z .N) ?_
       refine b7.skip Z (b7.nil)
       refine b9.cons Z Z ?_ ?_
       refine b7.go Z Z (fun E => S.idxO ha40 Z Z Z Z Z .N) ?_
       refine b7.skip Z (b7.nil)
       refine b9.cons Z Z ?_ ?_
       refine b7.go Z Z (fun E => S.loadO ha40 Z Z Z Z Z .N) ?_
       refine b7.skip Z (b7.nil)
       refine b9.cons Z Z ?_ ?_
       refine b7.go Z Z (fun E => AOps.e Z Z .N) ?_
       refine b7.skip Z (b7.nil)
       refine b9.skip Z ?_
       refine b9.cons Z Z ?_ ?_
       refine b7.skip Z ?_
       refine b7.go Z Z (fun E => AOps.q Z Z .N) ?_
       exact b7.nil
       exact b9.nil
      dsimp only [i4]
      refine b5 (.g (.g ?_))
      obtain ⟨a46, ha46, a47, ha47, h⟩ := b2 h
      refine AWP.j (.e Z Z (.e Z Z (.callL Z Z (.cons (.c (.own Z Z)) .nil) Z (X8 ha46) Z (.callL Z Z (.cons (.c (.own Z Z)) (.cons (.c .imm) .nil)) Z (A0 ha47) Z (.nil (b5 (.ag Z h (fun hc14 h => ?_) (fun hc14 h => ?_))))))))
      ·refine AWP.exit (d6 (f9 (b5 ⟨_, h, ?_⟩)))
       exact Sub.cut ⟨Z, Z, Z, Z, Z, Y⟩ Z ⟨.one Z, .vec, .vec, Y⟩ Z
      ·refine AWP.skip (b5 (.g (.g (.j (.e Z Z (S.lenO Z Z Z (fun hl49 => .aa Z Z Z (.nil (b5 (.ite Z h (fun hc15 h => ?_) (fun hc15 h => ?_)))))))))))
       ·refine AWP.g (.j (.q Z Z (.q Z Z (.nil (b5 (.nilrow 1 4 Z (.ret (d4 (f8 (d4 ?_))))))))))
        obtain rfl := oi h
        refine d4 ⟨_, Z, Z, ?_⟩
        exact Done.ret Z Z
       ·refine AWP.skip (b5 (.g ?_))
        obtain ⟨a54, ha54, h⟩ := b8 h
        refine AWP.j (.e Z Z (.e Z Z (.frzV (id := 3) (l := a43) (env2 := [(2, .c (.ptr 0 0 0)), (7, .c (.own 2 0 c9.length)), (8, .c (int iv5)), (9, .c (int op10)), (10, .c (row 1 intI a43)), (51, .c (.own 1 0 c8.length)), (52, .c (row 1 intI a43))]) (σ2 := [.one (.cells 4 [(tT t)]), .one (vec 1 e7 c8), .one (vec 1 intI c9), .dead]) Z Z (by exact ⟨⟨_, Z, .inl ⟨Z, Z⟩⟩, ⟨_, Z, .inl ⟨Z, Z⟩⟩, ⟨_, Z, .inl ⟨Z, Z⟩⟩, ⟨_, Z, .inl ⟨Z, Z⟩⟩, ⟨_, Z, .inr ⟨_, Z, Z, Z⟩⟩, ⟨_, Z, .inl ⟨Z, Z⟩⟩, ⟨_, Z, .inr ⟨_, Z, Z, Z⟩⟩, Y⟩) Z (by exact ⟨⟨Z, .inl ⟨Z, Z⟩, .inl ⟨Z, Z⟩, .inl ⟨Z, Z⟩, .inl ⟨Z, Z⟩, Y⟩, FrzB.vec, FrzB.vec, trivial, Y⟩) (S.lit (f := e7) (l := [a43]) (ess := [[row 1 intI a43]]) Z Z Z Z Z Z Z ⟨⟨.inl Z, Y⟩, Y⟩ Z Z Z (S.append (f := e7) ha54 Z Z Z Z Z Z (.own Z Z) Z Z Z Z (.q Z Z (.nil (b5 (.e (env' := [(2, .c (.ptr 0 0 0)), (6, .c (.own 1 0 a54.length)), (7, .c (.own 2 0 c9.length)), (8, .c (int iv5)), (9, .c (int op10)), (10, .c (row 1 intI a43))]) (σ' := [.one (.cells 4 [(tT t)]), .one (vec 1 e7 a54), .one (vec 1 intI c9), .dead, .one (vec 1 e7 [a43])]) 1 5 Z Z Z ⟨Z, Z, Z, Z, Z, Z, Y⟩ Z ⟨⟨Z, Z⟩, ⟨Blk.im_ok _ _ _, j9 Z⟩, ⟨Blk.im_ok _ _ _, j9 Z⟩, trivial, ⟨Blk.im_ok _ _ _, j9 Z⟩, Y⟩ ?_)))))))))
        obtain ⟨a57, ha57, a59, ha59, h⟩ := b2 h
        refine AWP.j (.e Z Z (.e Z Z (.E Z Z Z Z (X8 ha57) Z (S.lit (f := intI) (l := [a57]) (ess := [[int a57]]) Z Z Z Z Z Z Z ⟨⟨.inl Z, Y⟩, Y⟩ Z Z Z (S.append (f := intI) ha59 Z Z Z Z Z Z (.own Z Z) Z Z Z Z (.q Z Z (.nil (e6 (b5 ⟨_, h, ?_⟩)))))))))
        exact (Sub.move (env' := [(2, .c (.ptr 0 0 0)), (6, .c (.own 1 0 a54.length)), (7, .c (.own 2 0 a59.length)), (8, .c (int iv5)), (9, .c (int op10))]) (σ' := [.one (.cells 4 [(tT t)]), .one (vec 1 e7 a54), .one (vec 1 intI a59), .dead, .one (vec 1 e7 [a43]), .one (vec 1 intI [a57])]) 2 6 Z Z Z ⟨Z, Z, Z, Z, Z, Y⟩ Z ⟨⟨Z, Z⟩, ⟨Blk.im_ok _ _ _, j9 Z⟩, ⟨Blk.im_ok _ _ _, j9 Z⟩, trivial, ⟨Blk.im_ok _ _ _, j9 Z⟩, ⟨Blk.im_ok _ _ _, j9 Z⟩, Y⟩).trans (Sub.cut ⟨Z, Z, Z, Z, Z, Y⟩ Z ⟨.one Z, .vec, .vec, Y⟩ Z)
   ·intro e s hq
    rcases oo with ⟨c8, c9⟩ | x
    ·try dsimp only at h hq
     obtain ⟨rfl, hs⟩ := hq
     refine ⟨_, hs, ?_⟩
     refine f9 (e6 (b5 (.j (.e Z Z (S.add Z Z Z (.q Z Z (.nil ?_)))))))
     obtain rfl := oi h
     refine b5 ⟨_, Z, ?_⟩
     exact Sub.env ⟨Z, Z, Z, Z, Y⟩
    ·try dsimp only at h hq
     obtain ⟨rfl, hs⟩ := hq
     refine ⟨_, Sub.refl _ _, ?_⟩
     refine f8 (f8 (d4 ?_))
     obtain rfl := oi h
     refine d4 ⟨_, Z, Z, ?_⟩
     exact hs
  ·refine AWP.exit (d6 ?_)
   obtain rfl := oi h
   refine d6 ⟨_, Z, Z, ?_⟩
   exact Sub.cut ⟨Z, Y⟩ Z ⟨.dead, .vec, Y⟩ Z
 ·intro e s hq
  rcases oo with c6 | x
  ·try dsimp only at h hq
   obtain ⟨rfl, hs⟩ := hq
   refine ⟨_, hs, ?_⟩
   refine f9 (b5 (.g (.j (.e Z Z (.q Z Z (.q Z Z (.nil (b5 (.frzV (id := 1) (l := c6) (env2 := [(4, .c (row 1 e7 c6)), (5, .c (bool true))]) (σ2 := [.dead, .dead]) Z Z (by exact ⟨⟨_, Z, .inr ⟨_, Z, Z, Z⟩⟩, ⟨_, Z, .inl ⟨Z, Z⟩⟩, Y⟩) Z (by exact ⟨trivial, trivial, Y⟩) (.ret ?_))))))))))
   obtain rfl := oi h
   exact Done.ret Z Z
  ·try dsimp only at h hq
   obtain ⟨rfl, hs⟩ := hq
   refine ⟨_, Sub.refl _ _, ?_⟩
   refine f8 (d4 ?_)
   obtain rfl := oi h
   exact hs
theorem ref1_Reached_ok {t : d5} {r : (List (List Int)) × Bool} (h : M4 t = some r) : d9 prog 8 [.agg (tT t)] (.tup [.c (row 1 e7 r.1), .c (bool r.2)]) := by
 unfold d9
 refine FnOk.enter (rs := [.t 2, .t 3]) func8 Z ntmps8 results8 Z ⟨trivial, trivial, Y⟩ (by kernel_rfl) Z ?_
 unfold M4 at h
 refine AWP.g (.j (W.box Z Z Z Z Z Z (.q Z Z (.q Z Z (.nil (b5 (.g ?_)))))))
 obtain ⟨a7, ha7, h⟩ := b8 h
 refine AWP.j (W.loadAgg Z Z Z Z Z Z Z (W.fieldAddr Z Z Z Z (.z Z Z Z Z Z Z (.E Z Z Z Z (ad4 ha7) Z (.ah Z Z Z (.ah Z Z Z (.q Z Z (.q Z Z (.nil (b5 (.ret ?_)))))))))))
 obtain rfl := oi h
 exact Done.ret Z Z
theorem ref1_Ints_ok {av : List Int} {bv : List Int} {r : Bool} (h : T6 av bv = some r) : d9 prog 52 [.c (row 1 intI av), .c (row 1 intI bv)] (.c (bool r)) := by
 unfold d9
 refine FnOk.enter (rs := [.t 4]) func52 Z ntmps52 results52 Z ⟨trivial, Y⟩ (by kernel_rfl) Z ?_
 unfold T6 at h
 refine AWP.g (.j (.q Z Z (.nil (b5 (.g (.g (.j (.e Z Z (S.len Z Z (fun hl7 => .e Z Z (S.len Z Z (fun hl9 => .neq Z Z Z (.nil (b5 (.iteN Z h (fun hc3 h => ?_) (fun hc3 h => ?_))))))))))))))))
 ·refine AWP.g (.j (.q Z Z (.nil (b5 (.ret (d4 ?_))))))
  obtain rfl := oi h
  exact Done.ret Z Z
 ·refine AWP.skip (b5 (.g (.g (.j (.q Z Z (.nil (b5 (.U ?_))))))))
  obtain ⟨oo, ho1, h⟩ := b8 h
  refine AWP.rngS ho1 (fun iv4 _ => ⟨[(0, .c (row 1 intI av)), (1, .c (row 1 intI bv)), (5, .c (int iv4))], []⟩) (fun o e st => match o with | .inl _ => e = .exit 0 ∧ Sub [] st ⟨[], []⟩ | .inr x => e = .ret ∧ Done [.t 4] (fun t _ => t = .c (bool x)) .ret st) ?_ ?_ ?_ ?_
  ·try dsimp only
   exact Sub.env ⟨Z, Z, Z, Y⟩
  ·intro iv4 s hloiv4 hltiv4 _
   try dsimp only
   refine AWP.g (.g (.j (.e Z Z (.e Z Z (S.len Z Z (fun hl13 => .F Z Z Z (.nil (b5 (.ad Z hltiv4 (.exit (d6 (d6 ⟨Z, ?_⟩))))))))))))
   exact Sub.env trivial
  ·intro iv4 s o hloiv4 hltiv4 h
   unfold X2 at h
   try dsimp only at h ⊢
   refine AWP.g (.g (.j (.e Z Z (.e Z Z (S.len Z Z (fun hl13 => .F Z Z Z (.nil (b5 (.ae Z hltiv4 (.skip (b5 (.g (.U (.g ?_))))))))))))))
   obtain ⟨a19, ha19, a23, ha23, h⟩ := b2 h
   refine AWP.drawI mixed Z ?_
   refine f7.consF Z (fun E => AOps.e Z Z .N) Z (.consF Z (fun E => AOps.e Z Z .N) Z (.consF Z (fun E => S.idx ha19 Z Z Z Z .N) Z (.consF Z (fun E => AOps.ac Z Z Z Z .N) Z (.consF Z (fun E => AOps.e Z Z .N) Z (.consF Z (fun E => AOps.e Z Z .N) Z (.consF Z (fun E => S.idx ha23 Z Z Z Z .N) Z (.consF Z (fun E => AOps.ac Z Z Z Z .N) Z (.consF Z (fun E => AOps.neq Z Z Z .N) Z ?_))))))))
   refine f7.done ?_
   dsimp only [i4]
   refine b5 (.iteN Z h (fun hc5 h => ?_) (fun hc5 h => ?_))
   ·refine AWP.g (.j (.q Z Z (.nil (b5 (.ret (f8 (d4 ?_)))))))
    obtain rfl := oi h
    refine d4 ⟨_, Z, Z, ?_⟩
    exact Done.ret Z Z
   ·refine AWP.skip (e6 (b5 (.j (.e Z Z (.add Z Z Z (by omega) (.q Z Z (.nil ?_)))))))
    obtain rfl := oi h
    refine b5 ⟨_, Z, ?_⟩
    exact Sub.env ⟨Z, Z, Z, Y⟩
  ·intro e s hq
   rcases oo with u | x
   ·try dsimp only at h hq
    obtain ⟨rfl, hs⟩ := hq
    refine ⟨_, hs, ?_⟩
    refine f9 (b5 (.g (.j (.q Z Z (.nil (b5 (.ret ?_)))))))
    obtain rfl := oi h
    exact Done.ret Z Z
   ·try dsimp only at h hq
    obtain ⟨rfl, hs⟩ := hq
    refine ⟨_, Sub.refl _ _, ?_⟩
    refine f8 (d4 ?_)
    obtain rfl := oi h
    exact hs
theorem I7 {l : List (List Int)} {sv : List Int} {r : Int} (h : G1 l sv = some r) : d9 prog 29 [.c (row 1 e7 l), .c (row 1 intI sv)] (.c (int r)) := by
 unfold d9
 refine FnOk.enter (rs := [.t 4]) func29 Z ntmps29 results29 Z ⟨trivial, Y⟩ (by kernel_rfl) Z ?_
 unfold G1 at h
 refine AWP.g (.j (.q Z Z (.nil (b5 (.g (.g (.j (.q Z Z (.nil (b5 (.U ?_)))))))))))
 obtain ⟨oo, ho1, h⟩ := b8 h
 refine AWP.rngS ho1 (fun iv3 _ => ⟨[(0, .c (row 1 e7 l)), (1, .c (row 1 intI sv)), (5, .c (int iv3))], []⟩) (fun o e st => match o with | .inl _ => e = .exit 0 ∧ Sub [] st ⟨[], []⟩ | .inr x => e = .ret ∧ Done [.t 4] (fun t _ => t = .c (int x)) .ret st) ?_ ?_ ?_ ?_
 ·try dsimp only
  exact Sub.env ⟨Z, Z, Z, Y⟩
 ·intro iv3 s hloiv3 hltiv3 _
  try dsimp only
  refine AWP.g (.g (.j (.e Z Z (.e Z Z (S.len Z Z (fun hl8 => .F Z Z Z (.nil (b5 (.ad Z hltiv3 (.exit (d6 (d6 ⟨Z, ?_⟩))))))))))))
  exact Sub.env trivial
 ·intro iv3 s o hloiv3 hltiv3 h
  unfold P3 at h
  try dsimp only at h ⊢
  refine AWP.g (.g (.j (.e Z Z (.e Z Z (S.len Z Z (fun hl8 => .F Z Z Z (.nil (b5 (.ae Z hltiv3 (.skip (b5 (.g (.U (.g ?_))))))))))))))
  obtain ⟨a14, ha14, a17, ha17, h⟩ := b2 h
  refine AWP.j (.e Z Z (.e Z Z (S.idx ha14 Z Z Z Z (.ac Z Z Z Z (.e Z Z (.E Z Z Z Z (ref1_Ints_ok ha17) Z (.nil (b5 (.ag Z h (fun hc4 h => ?_) (fun hc4 h => ?_))))))))))
  ·refine AWP.g (.j (.e Z Z (.q Z Z (.nil (b5 (.ret (f8 (d4 ?_))))))))
   obtain rfl := oi h
   refine d4 ⟨_, Z, Z, ?_⟩
   exact Done.ret Z Z
  ·refine AWP.skip (e6 (b5 (.j (.e Z Z (.add Z Z Z (by omega) (.q Z Z (.nil ?_)))))))
   obtain rfl := oi h
   refine b5 ⟨_, Z, ?_⟩
   exact Sub.env ⟨Z, Z, Z, Y⟩
 ·intro e s hq
  rcases oo with u | x
  ·try dsimp only at h hq
   obtain ⟨rfl, hs⟩ := hq
   refine ⟨_, hs, ?_⟩
   refine f9 (b5 (.g (.j (.q Z Z (.nil (b5 (.ret ?_)))))))
   obtain rfl := oi h
   exact Done.ret Z Z
  ·try dsimp only at h hq
   obtain ⟨rfl, hs⟩ := hq
   refine ⟨_, Sub.refl _ _, ?_⟩
   refine f8 (d4 ?_)
   obtain rfl := oi h
   exact hs
theorem ref8_Nearest_ok {t : d5} {states : List (List Int)} {plan : List Int} {r : Int} (h : L4 t states plan = some r) : d9 prog 9 [.agg (tT t), .c (row 1 e7 states), .c (row 1 intI plan)] (.c (int r)) := by
 unfold d9
 refine FnOk.enter (rs := [.t 6]) func9 Z ntmps9 results9 Z ⟨trivial, Y⟩ (by kernel_rfl) Z ?_
 unfold L4 at h
 refine AWP.g (.j (W.box Z Z Z Z Z Z (.q Z Z (.nil (b5 (.g (.j (.e Z Z (S.len Z Z (fun hl18 => .q Z Z (.nil (b5 (.g ?_)))))))))))))
 obtain ⟨a21, ha21, h⟩ := b8 h
 refine AWP.j (.e Z Z (S.add Z Z Z (S.makeM 1 intI ha21 Z Z Z Z Z (.q Z Z (.nil (b5 (.g (.g (.j (.e Z Z (.q Z Z (.nil (b5 (.U ?_))))))))))))))
 obtain ⟨c6, ho1, h⟩ := b8 h
 refine AWP.loopS ho1 (fun (c4, kv5) => ⟨[(1, .c (row 1 e7 states)), (2, .c (row 1 intI plan)), (3, .c (.ptr 0 0 0)), (7, .c (int (plan.length : Int))), (8, .c (.own 1 0 c4.length)), (9, .c (int kv5))], [.one (.cells 4 [(tT t)]), mat (1, []) 1 intI c4]⟩) (fun c6 e st => e = .exit 0 ∧ Sub [] st ⟨[(1, .c (row 1 e7 states)), (3, .c (.ptr 0 0 0)), (8, .c (.own 1 0 c6.length))], [.one (.cells 4 [(tT t)]), mat (1, []) 1 intI c6]⟩) ?_ ?_ ?_
 ·try dsimp only
  exact Sub.env ⟨Z, Z, Z, Z, Z, Z, Y⟩
 ·intro s o h
  obtain ⟨c4, kv5⟩ := s
  unfold K0 at h
  try dsimp only at h ⊢
  refine AWP.g (.g (.j (.e Z Z (.geq Z Z Z (.nil (b5 (.ite Z h (fun hc7 h => ?_) (fun hc7 h => ?_))))))))
  ·refine AWP.skip (b5 (.g (.U (.g ?_))))
   obtain ⟨a31, ha31, a32, ha32, h⟩ := b2 h
   refine AWP.j (.e Z Z (.e Z Z (.e Z Z (S.len Z Z (fun hl30 => S.make (f := intI) ha31 (.val .nil) Z Z Z Z Z Z (S.idxH ha32 Z Z Z (by simp) Z Z (S.storeH (s3 ha32).2 Z Z Z Z (.nil (b5 (.g (.g (.moveR (k := 1) (f := intI) (M := c4) (env' := [(1, .c (row 1 e7 states)), (2, .c (row 1 intI plan)), (3, .c (.ptr 0 0 0)), (7, .c (int (plan.length : Int))), (8, .c (.own 1 0 c4.length)), (9, .c (int kv5))]) (σ' := [.one (.cells 4 [(tT t)]), mat (1, []) 1 intI (c4.set kv5.toNat a31)]) (r := 1) (s := 2) (p := kv5.toNat) (matS_at Z) (s3 ha32).2 Z Z Z Z Z (.inl Z) ⟨.one Z Z, .self, Y⟩ ⟨Z, Z, Z, Z, Z, Z, Y⟩ Z Z (.j (.q Z Z (.nil (b5 (.U ?_)))))))))))))))))
   obtain ⟨c8, ho2, h⟩ := b8 h
   refine AWP.forS ho2 (fun iv9 c8 => ⟨[(1, .c (row 1 e7 states)), (2, .c (row 1 intI plan)), (3, .c (.ptr 0 0 0)), (7, .c (int (plan.length : Int))), (8, .c (.own 1 0 c8.length)), (9, .c (int kv5)), (10, .c (int iv9))], [.one (.cells 4 [(tT t)]), mat (1, []) 1 intI c8]⟩) (fun c8 e st => e = .exit 2 ∧ Sub [] st ⟨[(1, .c (row 1 e7 states)), (2, .c (row 1 intI plan)), (3, .c (.ptr 0 0 0)), (7, .c (int (plan.length : Int))), (8, .c (.own 1 0 c8.length)), (9, .c (int kv5))], [.one (.cells 4 [(tT t)]), mat (1, []) 1 intI c8]⟩) ?_ ?_ ?_ ?_
   ·try dsimp only
    exact Sub.env ⟨Z, Z, Z, Z, (o8 (by first | rfl | simp only [List.length_set])), Z, Z, Y⟩
   ·intro iv9 c8 hloiv9 hltiv9 _
    try dsimp only
    refine AWP.g (.g (.j (.e Z Z (.e Z Z (S.len Z Z (fun hl35 => .F Z Z Z (.nil (b5 (.ad Z hltiv9 (.exit (d6 (d6 ⟨Z, ?_⟩))))))))))))
    exact Sub.env ⟨Z, Z, Z, Z, Z, Z, Y⟩
   ·intro iv9 c8 o hloiv9 hltiv9 h
    unfold n3 at h
    try dsimp only at h ⊢
    refine AWP.g (.g (.j (.e Z Z (.e Z Z (S.len Z Z (fun hl35 => .F Z Z Z (.nil (b5 (.ae Z hltiv9 (.skip (b5 ?_)))))))))))
    obtain ⟨c10, hx11, h⟩ := b8 h
    refine AWP.seqJ (⟨[(1, .c (row 1 e7 states)), (2, .c (row 1 intI plan)), (3, .c (.ptr 0 0 0)), (7, .c (int (plan.length : Int))), (8, .c (.own 1 0 c10.length)), (9, .c (int kv5)), (10, .c (int iv9))], [.one (.cells 4 [(tT t)]), mat (1, []) 1 intI c10]⟩) ?_ ?_
    ·refine AWP.U (.g ?_)
     obtain ⟨a41, ha41, a44, ha44, hx11⟩ := b2 hx11
     refine AWP.j (.e Z Z (.e Z Z (S.idxH ha41 Z Z Z (by simp) Z Z (S.loadM ha41 Z Z Z Z (.e Z Z (S.idxO ha44 Z Z (g8 Z ha41) Z Z (S.storeR1 (f := intI) (a' := 1000000000) (s3 ha41).2 (J9 ha44) (fun _ => ⟨_, Z⟩) Z Z Z Z Z ?_)))))))
     refine AOps.nil (b5 ?_)
     obtain ⟨c12, hx13, hx11⟩ := b8 hx11
     refine AWP.seqJ (⟨[(1, .c (row 1 e7 states)), (2, .c (row 1 intI plan)), (3, .c (.ptr 0 0 0)), (7, .c (int (plan.length : Int))), (8, .c (.own 1 0 c12.length)), (9, .c (int kv5)), (10, .c (int iv9))], [.one (.cells 4 [(tT t)]), mat (1, []) 1 intI c12]⟩) ?_ ?_
     ·obtain ⟨t14, hx15, hx13⟩ := b8 hx13
      refine AWP.seqJ (⟨[(1, .c (row 1 e7 states)), (2, .c (row 1 intI plan)), (3, .c (.ptr 0 0 0)), (7, .c (int (plan.length : Int))), (8, .c (.own 1 0 ((c8.set kv5.toNat (a41.set iv9.toNat 1000000000)).length))), (9, .c (int kv5)), (10, .c (int iv9)), (56, .c (bool t14))], [.one (.cells 4 [(tT t)]), mat (1, []) 1 intI (c8.set kv5.toNat (a41.set iv9.toNat 1000000000))]⟩) ?_ ?_
      ·rcases bft (decide (kv5 = (plan.length : Int))) with hb16 | hb16
       ·replace hx15 := x5 hb16 hx15
        obtain ⟨a53, ha53, a55, ha55, hx15⟩ := b2 hx15
        refine AWP.drawI mixed Z ?_
        refine f7.consF Z (fun E => AOps.e Z Z .N) Z (.consF Z (fun E => AOps.e Z Z .N) Z (.consF Z (fun E => AOps.aa Z Z Z .N) Z (.consF Z (fun E => AOps.e Z Z .N) Z (.consF Z (fun E => AOps.u Z Z Z hb16 (W.fieldAddr Z Z Z Z .N)) Z (.consF Z (fun E => AOps.u Z Z Z hb16 (.z Z Z Z Z Z Z .N)) Z (.consF Z (fun E => AOps.u Z Z Z hb16 (.e Z Z .N)) Z (.consF Z (fun E => AOps.u Z Z Z hb16 (.e Z Z .N)) Z (.consF Z (fun E => AOps.u Z Z Z hb16 (S.idx ha53 Z Z Z Z .N)) Z (.consF Z (fun E => AOps.u Z Z Z hb16 (.ac Z Z Z Z .N)) Z (.consF Z (fun E => AOps.u Z Z Z hb16 (.E Z Z Z Z (S4 ha55) Z .N)) Z (.consF Z (fun E => AOps.J Z hb16 Z Z .N) Z ?_)))))))))))
        refine f7.done ?_
        dsimp only [i4]
        obtain rfl := oi hx15
        refine b5 (Sub.env ⟨Z, Z, Z, Z, (o8 (by first | rfl | simp only [List.length_set])), Z, Z, Z, Y⟩)
       ·replace hx15 := x4 hb16 hx15
        refine AWP.drawI mixed Z ?_
        refine f7.consF Z (fun E => AOps.e Z Z .N) Z (.consF Z (fun E => AOps.e Z Z .N) Z (.consF Z (fun E => AOps.aa Z Z Z .N) Z (.consF Z (fun E => AOps.e Z Z .N) Z (.consF Z (fun E => AOps.v Z Z Z hb16 .N) Z (.consF Z (fun E => AOps.v Z Z Z hb16 .N) Z (.consF Z (fun E => AOps.v Z Z Z hb16 .N) Z (.consF Z (fun E => AOps.v Z Z Z hb16 .N) Z (.consF Z (fun E => AOps.v Z Z Z hb16 .N) Z (.consF Z (fun E => AOps.v Z Z Z hb16 .N) Z (.consF Z (fun E => AOps.v Z Z Z hb16 .N) Z (.consF Z (fun E => AOps.O Z hb16 Z Z .N) Z ?_)))))))))))
        refine f7.done ?_
        dsimp only [i4]
        obtain rfl := oi hx15
        refine b5 (Sub.env ⟨Z, Z, Z, Z, (o8 (by first | rfl | simp only [List.length_set])), Z, Z, Z, Y⟩)
      ·refine AWP.ag Z hx13 (fun hc17 hx13 => ?_) (fun hc17 hx13 => ?_)
       ·obtain ⟨a59, ha59, a62, ha62, hx13⟩ := b2 hx13
        refine AWP.j (.e Z Z (.e Z Z (S.idxH ha59 Z Z Z (by simp) Z Z (S.loadM ha59 Z Z Z Z (.e Z Z (S.idxO ha62 Z Z (g8 Z ha59) Z Z (S.storeR1 (f := intI) (a' := 0) (s3 ha59).2 (J9 ha62) (fun _ => ⟨_, Z⟩) Z Z Z Z Z ?_)))))))
        refine AOps.nil ?_
        obtain rfl := oi hx13
        refine b5 (Sub.env ⟨Z, Z, Z, Z, (o8 (by first | rfl | simp only [List.length_set])), Z, Z, Y⟩)
       ·refine AWP.skip ?_
        obtain rfl := oi hx13
        refine b5 (Sub.env ⟨Z, Z, Z, Z, Z, Z, Z, Y⟩)
     ·refine AWP.g (.j (.e Z Z (.e Z Z (.F Z Z Z (.nil (b5 (.ite Z hx11 (fun hc18 hx11 => ?_) (fun hc18 hx11 => ?_))))))))
      ·refine AWP.g ?_
       obtain ⟨a68, ha68, a74, ha74, a77, ha77, hx11⟩ := b3 hx11
       obtain ⟨a80, ha80, hx11⟩ := b8 hx11
       refine AWP.drawEI [15] mixed Z Z Z ?_
       refine e8.consN Z Z (fun E => AOps.e Z Z .N) Z (.consN Z Z (fun E => AOps.e Z Z .N) Z (.consN Z Z (fun E => S.idxH ha68 Z Z Z (by simp) Z Z .N) Z (.consN Z Z (fun E => S.loadM ha68 Z Z Z Z .N) Z (.consN Z Z (fun E => AOps.e Z Z .N) Z (.consN Z Z (fun E => AOps.e Z Z .N) Z (.consN Z Z (fun E => AOps.e Z Z .N) Z (.consN Z Z (fun E => S.add Z Z Z .N) Z (.consN Z Z (fun E => S.idxH ha74 Z Z Z (by simp) Z Z .N) Z (.consN Z Z (fun E => S.loadM ha74 Z Z Z Z .N) Z (.consN Z Z (fun E => AOps.e Z Z .N) Z (.consN Z Z (fun E => S.idxO ha77 Z Z (g8 Z ha74) Z Z .N) Z (.consN Z Z (fun E => S.loadO ha77 Z Z (g8 Z ha74) Z Z .N) Z (.consN Z Z (fun E => S.add Z Z Z .N) Z (.consN Z Z (fun E => S.idxO ha80 Z Z (g8 Z ha68) Z Z .N) Z ?_))))))))))))))
       apply e8.consE (v := .undef); exact Z; exact Z; intro E
       refine S.storeR1 (f := intI) (a' := w64 (a77 + 1)) (s3 ha68).2 (J9 ha80) (fun _ => ⟨_, Z⟩) Z Z Z Z Z ?_
       exact AOps.nil ⟨Z, Z⟩
       exact Z
       exact Z
       refine e8.done Z ?_ ?_
       ·refine b9.cons Z Z ?_ ?_
        refine b7.go Z Z (fun E => AOps.e Z Z .N) ?_
        refine b7.skip Z (b7.nil)
        refine b9.cons Z Z ?_ ?_
        refine b7.go Z Z (fun E => AOps.e Z Z .N) ?_
        refine b7.skip Z (b7.nil)
        refine b9.cons Z Z ?_ ?_
        refine b7.go Z Z (fun E => S.idxH ha68 Z Z Z (by simp) Z Z .N) ?_
        refine b7.skip Z (b7.nil)
        refine b9.cons Z Z ?_ ?_
        refine b7.go Z Z (fun E => S.loadM ha68 Z Z Z Z .N) ?_
        refine b7.skip Z (b7.nil)
        refine b9.cons Z Z ?_ ?_
        refine b7.go Z Z (fun E => AOps.e Z Z .N) ?_
        refine b7.skip Z (b7.nil)
        refine b9.cons Z Z ?_ ?_
        refine b7.go Z Z (fun E => AOps.e Z Z .N) ?_
        refine b7.skip Z (b7.nil)
        refine b9.cons Z Z ?_ ?_
        refine b7.go Z Z (fun E => AOps.e Z Z .N) ?_
        refine b7.skip Z (b7.nil)
        refine b9.cons Z Z ?_ ?_
        refine b7.go Z Z (fun E => S.add Z Z Z .N) ?_
        refine b7.skip Z (b7.nil)
        refine b9.cons Z Z ?_ ?_
        refine b7.go Z Z (fun E => S.idxH ha74 Z Z Z (by simp) Z Z .N) ?_
        refine b7.skip Z (b7.nil)
        refine b9.cons Z Z ?_ ?_
        refine b7.go Z Z (fun E => S.loadM ha74 Z Z Z Z .N) ?_
        refine b7.skip Z (b7.nil)
        refine b9.cons Z Z ?_ ?_
        refine b7.go Z Z (fun E => AOps.e Z Z .N) ?_
        refine b7.skip Z (b7.nil)
        refine b9.cons Z Z ?_ ?_
        refine b7.go Z Z (fun E => S.idxO ha77 Z Z (g8 Z ha74) Z Z .N) ?_
        refine b7.skip Z (b7.nil)
        refine b9.cons Z Z ?_ ?_
        refine b7.go Z Z (fun E => S.loadO ha77 Z Z (g8 Z ha74) Z Z .N) ?_
        refine b7.skip Z (b7.nil)
        refine b9.cons Z Z ?_ ?_
        refine b7.go Z Z (fun E => S.add Z Z Z .N) ?_
        refine b7.skip Z (b7.nil)
        refine b9.cons Z Z ?_ ?_
        refine b7.go Z Z (fun E => S.idxO ha80 Z Z (g8 Z ha68) Z Z .N) ?_
        refine b7.skip Z (b7.nil)
        refine b9.skip Z (b9.nil)
       dsimp only [i4]
       refine b5 (.g ?_)
       obtain ⟨a84, ha84, a88, ha88, a90, ha90, hx11⟩ := b3 hx11
       refine AWP.drawI mixed Z ?_
       refine f7.consF Z (fun E => W.loadAgg Z Z Z Z Z Z Z .N) Z (.consF Z (fun E => AOps.e Z Z .N) Z (.consF Z (fun E => AOps.e Z Z .N) Z (.consF Z (fun E => S.idx ha84 Z Z Z Z .N) Z (.consF Z (fun E => AOps.ac Z Z Z Z .N) Z (.consF Z (fun E => AOps.e Z Z .N) Z (.consF Z (fun E => AOps.e Z Z .N) Z (.consF Z (fun E => S.idx ha88 Z Z Z Z .N) Z (.consF Z (fun E => AOps.ac Z Z Z Z .N) Z (.consF Z (fun E => AOps.E Z Z Z Z (J8 ha90) Z .N) Z ?_)))))))))
       refine f7.done ?_
       dsimp only [i4]
       refine b5 (.ag Z hx11 (fun hc19 hx11 => ?_) (fun hc19 hx11 => ?_))
       ·refine AWP.g ?_
        obtain ⟨a94, ha94, a100, ha100, a104, ha104, hx11⟩ := b3 hx11
        obtain ⟨a106, ha106, a107, ha107, a108, ha108, hx11⟩ := b3 hx11
        refine AWP.drawEI [15] mixed Z Z Z ?_
        refine e8.consN Z Z (fun E => AOps.e Z Z .N) Z (.consN Z Z (fun E => AOps.e Z Z .N) Z (.consN Z Z (fun E => S.add Z Z Z .N) Z (.consN Z Z (fun E => S.idxH ha94 Z (by simp only [List.length_set]) Z (by simp) Z Z .N) Z (.consN Z Z (fun E => S.loadM ha94 Z Z Z Z .N) Z (.consN Z Z (fun E => AOps.e Z Z .N) Z (.consN Z Z (fun E => W.loadAgg Z Z Z Z Z Z Z .N) Z (.consN Z Z (fun E => AOps.e Z Z .N) Z (.consN Z Z (fun E => AOps.e Z Z .N) Z (.consN Z Z (fun E => S.idx ha100 Z Z Z Z .N) Z (.consN Z Z (fun E => AOps.ac Z Z Z Z .N) Z (.consN Z Z (fun E => AOps.e Z Z .N) Z (.consN Z Z (fun E => AOps.e Z Z .N) Z (.consN Z Z (fun E => S.idx ha104 Z Z Z Z .N) Z (.consN Z Z (fun E => AOps.ac Z Z Z Z .N) Z ?_))))))))))))))
        apply e8.consE; exact Z; exact Z; intro E
        refine S.fresh Z Z Z Z (P0 ha106) Z Z .N
        exact Z
        exact Z
        refine e8.consN Z Z (fun E => AOps.callL Z Z (.cons (.c .imm) (.cons (.c (.own Z Z)) .nil)) Z (I7 ha107) Z .N) Z (.consN Z Z (fun E => S.idxO ha108 Z Z (g8 Z ha94) Z Z .N) Z (.consN Z Z (fun E => S.loadO ha108 Z Z (g8 Z ha94) Z Z .N) Z (.consN Z Z (fun E => AOps.q Z Z .N) Z ?_)))
        refine e8.done Z ?_ ?_
        ·refine b9.cons Z Z ?_ ?_
         refine b7.go Z Z (fun E => AOps.e Z Z .N) ?_
         refine b7.go Z Z (fun E => AOps.e Z Z .N) ?_
         exact b7.nil
         refine b9.cons Z Z ?_ ?_
         refine b7.go Z Z (fun E => AOps.e Z Z .N) ?_
         refine b7.go Z Z (fun E => AOps.e Z Z .N) ?_
         exact b7.nil
         refine b9.cons Z Z ?_ ?_
         refine b7.go Z Z (fun E => S.add Z Z Z .N) ?_
         refine b7.go Z Z (fun E => S.add Z Z Z .N) ?_
         exact b7.nil
         refine b9.cons Z Z ?_ ?_
         refine b7.go Z Z (fun E => S.idxH ha94 Z (by simp only [List.length_set]) Z (by simp) Z Z .N) ?_
         refine b7.go Z Z (fun E => S.idxH ha94 Z (by simp only [List.length_set]) Z (by simp) Z Z .N) ?_
         exact b7.nil
         refine b9.cons Z Z ?_ ?_
         refine b7.go Z Z (fun E => S.loadM ha94 Z Z Z Z .N) ?_
         refine b7.go Z Z (fun E => S.loadM ha94 Z Z Z Z .N) ?_
         exact b7.nil
         refine b9.cons Z Z ?_ ?_
         refine b7.go Z Z (fun E => AOps.e Z Z .N) ?_
         refine b7.go Z Z (fun E => AOps.e Z Z .N) ?_
         exact b7.nil
         refine b9.cons Z Z ?_ ?_
         refine b7.go Z Z (fun E => W.loadAgg Z Z Z Z Z Z Z .N) ?_
         refine b7.skip Z (b7.nil)
         refine b9.cons Z Z ?_ ?_
         refine b7.go Z Z (fun E => AOps.e Z Z .N) ?_
         refine b7.skip Z (b7.nil)
         refine b9.cons Z Z ?_ ?_
         refine b7.go Z Z (fun E => AOps.e Z Z .N) ?_
         refine b7.skip Z (b7.nil)
         refine b9.cons Z Z ?_ ?_
         refine b7.go Z Z (fun E => S.idx ha100 Z Z Z Z .N) ?_
         refine b7.skip Z (b7.nil)
         refine b9.cons Z Z ?_ ?_
         refine b7.go Z Z (fun E => AOps.ac Z Z Z Z .N) ?_
         refine b7.skip Z (b7.nil)
         refine b9.cons Z Z ?_ ?_
         refine b7.go Z Z (fun E => AOps.e Z Z .N) ?_
         refine b7.skip Z (b7.nil)
         refine b9.cons Z Z ?_ ?_
         refine b7.go Z Z (fun E => AOps.e Z Z .N) ?_
         refine b7.skip Z (b7.nil)
         refine b9.cons Z Z ?_ ?_
         refine b7.go Z Z (fun E => S.idx ha104 Z Z Z Z .N) ?_
         refine b7.skip Z (b7.nil)
         refine b9.cons Z Z ?_ ?_
         refine b7.go Z Z (fun E => AOps.ac Z Z Z Z .N) ?_
         refine b7.skip Z (b7.nil)
         refine b9.skip Z ?_
         refine b9.cons Z Z ?_ ?_
         refine b7.skip Z ?_
         refine b7.go Z Z (fun E => AOps.callL Z Z (.cons (.c .imm) (.cons (.c (.own Z Z)) .nil)) Z (I7 ha107) Z .N) ?_
         exact b7.nil
         refine b9.cons Z Z ?_ ?_
         refine b7.skip Z ?_
         refine b7.go Z Z (fun E => S.idxO ha108 Z Z (g8 Z ha94) Z Z .N) ?_
         exact b7.nil
         refine b9.cons Z Z ?_ ?_
         refine b7.skip Z ?_
         refine b7.go Z Z (fun E => S.loadO ha108 Z Z (g8 Z ha94) Z Z .N) ?_
         exact b7.nil
         refine b9.cons Z Z ?_ ?_
         refine b7.skip Z ?_
         refine b7.go Z Z (fun E => AOps.q Z Z .N) ?_
         exact b7.nil
         exact b9.nil
        dsimp only [i4]
        refine b5 (.g ?_)
        obtain ⟨a113, ha113, a116, ha116, hx11⟩ := b2 hx11
        refine AWP.j (.e Z Z (.e Z Z (.e Z Z (S.idxH ha113 Z (by simp only [List.length_set]) Z (by simp) Z Z (S.loadM ha113 Z Z Z Z (.e Z Z (S.idxO ha116 Z Z (g8 Z ha113) Z Z (S.loadO ha116 Z Z (g8 Z ha113) Z Z (.F Z Z Z (.nil (b5 (.ite Z hx11 (fun hc20 hx11 => ?_) (fun hc20 hx11 => ?_)))))))))))))
        ·obtain ⟨a121, ha121, a125, ha125, hx11⟩ := b2 hx11
         refine AWP.j (.e Z Z (.e Z Z (S.idxH ha121 Z (by simp only [List.length_set]) Z (by simp) Z Z (S.loadM ha121 Z Z Z Z (.e Z Z (.e Z Z (S.idxO ha125 Z Z (g8 Z ha121) Z Z (S.storeR1 (f := intI) (a' := a108) (s3 ha121).2 (J9 ha125) (fun _ => ⟨_, Z⟩) Z Z Z Z Z ?_))))))))
         refine AOps.nil (e6 ?_)
         obtain rfl := oi hx11
         refine b5 (Sub.cut ⟨Z, Z, Z, Z, (o8 (by first | rfl | simp only [List.length_set])), Z, Z, Y⟩ Z ⟨.one Z, .mat Z, Y⟩ Z)
        ·refine AWP.skip (e6 ?_)
         obtain rfl := oi hx11
         refine b5 (Sub.cut ⟨Z, Z, Z, Z, (o8 (by first | rfl | simp only [List.length_set])), Z, Z, Y⟩ Z ⟨.one Z, .mat Z, Y⟩ Z)
       ·refine AWP.skip (e6 ?_)
        obtain rfl := oi hx11
        refine b5 (Sub.env ⟨Z, Z, Z, Z, (o8 (by first | rfl | simp only [List.length_set])), Z, Z, Y⟩)
      ·refine AWP.skip (e6 ?_)
       obtain rfl := oi hx11
       refine b5 (Sub.env ⟨Z, Z, Z, Z, Z, Z, Z, Y⟩)
    ·refine AWP.j (.e Z Z (.add Z Z Z (by omega) (.q Z Z (.nil ?_))))
     obtain rfl := oi h
     refine b5 (Sub.env ⟨Z, Z, Z, Z, Z, Z, Z, Y⟩)
   ·intro e s hq
    obtain ⟨rfl, hs⟩ := hq
    refine ⟨_, hs, ?_⟩
    refine f9 (b5 (.g (.j (.q Z Z (.nil (b5 (.U ?_)))))))
    obtain ⟨c23, ho3, h⟩ := b8 h
    refine AWP.loopS ho3 (fun (c21, again22) => ⟨[(1, .c (row 1 e7 states)), (2, .c (row 1 intI plan)), (3, .c (.ptr 0 0 0)), (7, .c (int (plan.length : Int))), (8, .c (.own 1 0 c21.length)), (9, .c (int kv5)), (12, .c (bool again22))], [.one (.cells 4 [(tT t)]), mat (1, []) 1 intI c21]⟩) (fun c23 e st => e = .exit 4 ∧ Sub [] st ⟨[(1, .c (row 1 e7 states)), (2, .c (row 1 intI plan)), (3, .c (.ptr 0 0 0)), (7, .c (int (plan.length : Int))), (8, .c (.own 1 0 c23.length)), (9, .c (int kv5))], [.one (.cells 4 [(tT t)]), mat (1, []) 1 intI c23]⟩) ?_ ?_ ?_
    ·try dsimp only
     exact Sub.env ⟨Z, Z, Z, Z, Z, Z, Z, Y⟩
    ·intro s o h
     obtain ⟨c21, again22⟩ := s
     unfold F9 at h
     try dsimp only at h ⊢
     refine AWP.g (.g (.j (.e Z Z (.nil (b5 (.ag Z h (fun hc24 h => ?_) (fun hc24 h => ?_)))))))
     ·refine AWP.skip (b5 (.U (.g (.j (.q Z Z (.nil (b5 (.g (.j (.q Z Z (.nil (b5 (.U ?_)))))))))))))
      obtain ⟨⟨c25, again26⟩, ho4, h⟩ := b8 h
      try dsimp only at h
      refine AWP.forS ho4 (fun iv27 (c25, again26) => ⟨[(1, .c (row 1 e7 states)), (2, .c (row 1 intI plan)), (3, .c (.ptr 0 0 0)), (7, .c (int (plan.length : Int))), (8, .c (.own 1 0 c25.length)), (9, .c (int kv5)), (12, .c (bool again26)), (13, .c (int iv27))], [.one (.cells 4 [(tT t)]), mat (1, []) 1 intI c25]⟩) (fun (c25, again26) e st => e = .exit 6 ∧ Sub [] st ⟨[(1, .c (row 1 e7 states)), (2, .c (row 1 intI plan)), (3, .c (.ptr 0 0 0)), (7, .c (int (plan.length : Int))), (8, .c (.own 1 0 c25.length)), (9, .c (int kv5)), (12, .c (bool again26))], [.one (.cells 4 [(tT t)]), mat (1, []) 1 intI c25]⟩) ?_ ?_ ?_ ?_
      ·try dsimp only
       exact Sub.env ⟨Z, Z, Z, Z, Z, Z, Z, Z, Y⟩
      ·intro iv27 s hloiv27 hltiv27 _
       obtain ⟨c25, again26⟩ := s
       try dsimp only
       refine AWP.g (.g (.j (.e Z Z (.e Z Z (S.len Z Z (fun hl129 => .F Z Z Z (.nil (b5 (.ad Z hltiv27 (.exit (d6 (d6 ⟨Z, ?_⟩))))))))))))
       exact Sub.env ⟨Z, Z, Z, Z, Z, Z, Z, Y⟩
      ·intro iv27 s o hloiv27 hltiv27 h
       obtain ⟨c25, again26⟩ := s
       unfold F1 at h
       try dsimp only at h ⊢
       refine AWP.g (.g (.j (.e Z Z (.e Z Z (S.len Z Z (fun hl129 => .F Z Z Z (.nil (b5 (.ae Z hltiv27 (.skip (b5 (.g (.U (.g (.j (.q Z Z (.nil (b5 (.U ?_)))))))))))))))))))
       obtain ⟨⟨c28, again29⟩, ho5, h⟩ := b8 h
       try dsimp only at h
       refine AWP.forS ho5 (fun op30 (c28, again29) => ⟨[(1, .c (row 1 e7 states)), (2, .c (row 1 intI plan)), (3, .c (.ptr 0 0 0)), (7, .c (int (plan.length : Int))), (8, .c (.own 1 0 c28.length)), (9, .c (int kv5)), (12, .c (bool again29)), (13, .c (int iv27)), (14, .c (int op30))], [.one (.cells 4 [(tT t)]), mat (1, []) 1 intI c28]⟩) (fun (c28, again29) e st => e = .exit 8 ∧ Sub [] st ⟨[(1, .c (row 1 e7 states)), (2, .c (row 1 intI plan)), (3, .c (.ptr 0 0 0)), (7, .c (int (plan.length : Int))), (8, .c (.own 1 0 c28.length)), (9, .c (int kv5)), (12, .c (bool again29)), (13, .c (int iv27))], [.one (.cells 4 [(tT t)]), mat (1, []) 1 intI c28]⟩) ?_ ?_ ?_ ?_
       ·try dsimp only
        exact Sub.env ⟨Z, Z, Z, Z, Z, Z, Z, Z, Z, Y⟩
       ·intro op30 s hloop30 hltop30 _
        obtain ⟨c28, again29⟩ := s
        try dsimp only
        refine AWP.g (.g (.j (.e Z Z (W.fieldAddr Z Z Z Z (.z Z Z Z Z Z Z (S.len Z Z (fun hl136 => .F Z Z Z (.nil (b5 (.ad Z hltop30 (.exit (d6 (d6 ⟨Z, ?_⟩)))))))))))))
        exact Sub.env ⟨Z, Z, Z, Z, Z, Z, Z, Z, Y⟩
       ·intro op30 s o hloop30 hltop30 h
        obtain ⟨c28, again29⟩ := s
        unfold F5 at h
        try dsimp only at h ⊢
        refine AWP.g (.g (.j (.e Z Z (W.fieldAddr Z Z Z Z (.z Z Z Z Z Z Z (S.len Z Z (fun hl136 => .F Z Z Z (.nil (b5 (.ae Z hltop30 (.skip (b5 ?_))))))))))))
        obtain ⟨⟨c31, again32⟩, hx33, h⟩ := b8 h
        refine AWP.seqJ (⟨[(1, .c (row 1 e7 states)), (2, .c (row 1 intI plan)), (3, .c (.ptr 0 0 0)), (7, .c (int (plan.length : Int))), (8, .c (.own 1 0 c31.length)), (9, .c (int kv5)), (12, .c (bool again32)), (13, .c (int iv27)), (14, .c (int op30))], [.one (.cells 4 [(tT t)]), mat (1, []) 1 intI c31]⟩) ?_ ?_
        ·refine AWP.U (.g (.g ?_))
         obtain ⟨a143, ha143, a146, ha146, hx33⟩ := b2 hx33
         refine AWP.drawI mixed Z ?_
         refine f7.consF Z (fun E => W.loadAgg Z Z Z Z Z Z Z .N) Z (.consF Z (fun E => AOps.e Z Z .N) Z (.consF Z (fun E => AOps.e Z Z .N) Z (.consF Z (fun E => S.idx ha143 Z Z Z Z .N) Z (.consF Z (fun E => AOps.ac Z Z Z Z .N) Z (.consF Z (fun E => AOps.e Z Z .N) Z (.consF Z (fun E => AOps.E Z Z Z Z (J8 ha146) Z .N) Z (.consF Z (fun E => AOps.ab Z Z .N) Z ?_)))))))
         refine f7.done ?_
         dsimp only [i4]
         refine b5 (.ag Z hx33 (fun hc34 hx33 => ?_) (fun hc34 hx33 => ?_))
         ·refine AWP.exit (d6 (f9 ?_))
          obtain ⟨ej0, ej1⟩ := o2 hx33
          subst ej0 ej1
          refine b5 (Sub.env ⟨Z, Z, Z, Z, Z, Z, Z, Z, Z, Y⟩)
         ·refine AWP.skip (b5 (.g ?_))
          obtain ⟨a150, ha150, a156, ha156, a159, ha159, hx33⟩ := b3 hx33
          obtain ⟨a160, ha160, a161, ha161, hx33⟩ := b2 hx33
          refine AWP.drawEI [11] mixed Z Z Z ?_
          refine e8.consN Z Z (fun E => AOps.e Z Z .N) Z (.consN Z Z (fun E => AOps.e Z Z .N) Z (.consN Z Z (fun E => S.idxH ha150 Z Z Z (by simp) Z Z .N) Z (.consN Z Z (fun E => S.loadM ha150 Z Z Z Z .N) Z (.consN Z Z (fun E => AOps.e Z Z .N) Z (.consN Z Z (fun E => W.loadAgg Z Z Z Z Z Z Z .N) Z (.consN Z Z (fun E => AOps.e Z Z .N) Z (.consN Z Z (fun E => AOps.e Z Z .N) Z (.consN Z Z (fun E => S.idx ha156 Z Z Z Z .N) Z (.consN Z Z (fun E => AOps.ac Z Z Z Z .N) Z (.consN Z Z (fun E => AOps.e Z Z .N) Z ?_))))))))))
          apply e8.consE; exact Z; exact Z; intro E
          refine S.fresh Z Z Z Z (P0 ha159) Z Z .N
          exact Z
          exact Z
          refine e8.consN Z Z (fun E => AOps.callL Z Z (.cons (.c .imm) (.cons (.c (.own Z Z)) .nil)) Z (I7 ha160) Z .N) Z (.consN Z Z (fun E => S.idxO ha161 Z Z (g8 Z ha150) Z Z .N) Z (.consN Z Z (fun E => S.loadO ha161 Z Z (g8 Z ha150) Z Z .N) Z (.consN Z Z (fun E => AOps.q Z Z .N) Z ?_)))
          refine e8.done Z ?_ ?_
          ·refine b9.cons Z Z ?_ ?_
           refine b7.go Z Z (fun E => AOps.e Z Z .N) ?_
           refine b7.go Z Z (fun E => AOps.e Z Z .N) ?_
           exact b7.nil
           refine b9.cons Z Z ?_ ?_
           refine b7.go Z Z (fun E => AOps.e Z Z .N) ?_
           refine b7.go Z Z (fun E => AOps.e Z Z .N) ?_
           exact b7.nil
           refine b9.cons Z Z ?_ ?_
           refine b7.go Z Z (fun E => S.idxH ha150 Z Z Z (by simp) Z Z .N) ?_
           refine b7.go Z Z (fun E => S.idxH ha150 Z Z Z (by simp) Z Z .N) ?_
           exact b7.nil
           refine b9.cons Z Z ?_ ?_
           refine b7.go Z Z (fun E => S.loadM ha150 Z Z Z Z .N) ?_
           refine b7.go Z Z (fun E => S.loadM ha150 Z Z Z Z .N) ?_
           exact b7.nil
           refine b9.cons Z Z ?_ ?_
           refine b7.go Z Z (fun E => AOps.e Z Z .N) ?_
           refine b7.go Z Z (fun E => AOps.e Z Z .N) ?_
           exact b7.nil
           refine b9.cons Z Z ?_ ?_
           refine b7.go Z Z (fun E => W.loadAgg Z Z Z Z Z Z Z .N) ?_
           refine b7.skip Z (b7.nil)
           refine b9.cons Z Z ?_ ?_
           refine b7.go Z Z (fun E => AOps.e Z Z .N) ?_
           refine b7.skip Z (b7.nil)
           refine b9.cons Z Z ?_ ?_
           refine b7.go Z Z (fun E => AOps.e Z Z .N) ?_
           refine b7.skip Z (b7.nil)
           refine b9.cons Z Z ?_ ?_
           refine b7.go Z Z (fun E => S.idx ha156 Z Z Z Z .N) ?_
           refine b7.skip Z (b7.nil)
           refine b9.cons Z Z ?_ ?_
           refine b7.go Z Z (fun E => AOps.ac Z Z Z Z .N) ?_
           refine b7.skip Z (b7.nil)
           refine b9.cons Z Z ?_ ?_
           refine b7.go Z Z (fun E => AOps.e Z Z .N) ?_
           refine b7.skip Z (b7.nil)
           refine b9.skip Z ?_
           refine b9.cons Z Z ?_ ?_
           refine b7.skip Z ?_
           refine b7.go Z Z (fun E => AOps.callL Z Z (.cons (.c .imm) (.cons (.c (.own Z Z)) .nil)) Z (I7 ha160) Z .N) ?_
           exact b7.nil
           refine b9.cons Z Z ?_ ?_
           refine b7.skip Z ?_
           refine b7.go Z Z (fun E => S.idxO ha161 Z Z (g8 Z ha150) Z Z .N) ?_
           exact b7.nil
           refine b9.cons Z Z ?_ ?_
           refine b7.skip Z ?_
           refine b7.go Z Z (fun E => S.loadO ha161 Z Z (g8 Z ha150) Z Z .N) ?_
           exact b7.nil
           refine b9.cons Z Z ?_ ?_
           refine b7.skip Z ?_
           refine b7.go Z Z (fun E => AOps.q Z Z .N) ?_
           exact b7.nil
           exact b9.nil
          dsimp only [i4]
          refine b5 (.g ?_)
          obtain ⟨a167, ha167, a170, ha170, hx33⟩ := b2 hx33
          refine AWP.j (.e Z Z (S.add Z Z Z (.e Z Z (.e Z Z (S.idxH ha167 Z Z Z (by simp) Z Z (S.loadM ha167 Z Z Z Z (.e Z Z (S.idxO ha170 Z Z (g8 Z ha167) Z Z (S.loadO ha170 Z Z (g8 Z ha167) Z Z (.F Z Z Z (.nil (b5 (.ite Z hx33 (fun hc35 hx33 => ?_) (fun hc35 hx33 => ?_))))))))))))))
          ·refine AWP.g ?_
           obtain ⟨a175, ha175, a180, ha180, hx33⟩ := b2 hx33
           refine AWP.j (.e Z Z (.e Z Z (S.idxH ha175 Z Z Z (by simp) Z Z (S.loadM ha175 Z Z Z Z (.e Z Z (.e Z Z (S.add Z Z Z (S.idxO ha180 Z Z (g8 Z ha175) Z Z (S.storeR1 (f := intI) (a' := w64 (a161 + 1)) (s3 ha175).2 (J9 ha180) (fun _ => ⟨_, Z⟩) Z Z Z Z Z ?_)))))))))
           refine AOps.nil (b5 (.j (.q Z Z (.nil (e6 ?_)))))
           obtain ⟨ej0, ej1⟩ := o2 hx33
           subst ej0 ej1
           refine b5 (Sub.cut ⟨Z, Z, Z, Z, (o8 (by first | rfl | simp only [List.length_set])), Z, Z, Z, Z, Y⟩ Z ⟨.one Z, .mat Z, Y⟩ Z)
          ·refine AWP.skip (e6 ?_)
           obtain ⟨ej0, ej1⟩ := o2 hx33
           subst ej0 ej1
           refine b5 (Sub.cut ⟨Z, Z, Z, Z, Z, Z, Z, Z, Z, Y⟩ Z ⟨.one Z, .mat Z, Y⟩ Z)
        ·try dsimp only at h
         refine AWP.j (.e Z Z (.add Z Z Z (by omega) (.q Z Z (.nil ?_))))
         obtain rfl := oi h
         refine b5 (Sub.env ⟨Z, Z, Z, Z, Z, Z, Z, Z, Z, Y⟩)
       ·intro e s hq
        obtain ⟨rfl, hs⟩ := hq
        refine ⟨_, hs, ?_⟩
        refine f9 (e6 (b5 (.j (.e Z Z (.add Z Z Z (by omega) (.q Z Z (.nil ?_)))))))
        obtain rfl := oi h
        refine b5 (Sub.env ⟨Z, Z, Z, Z, Z, Z, Z, Z, Y⟩)
      ·intro e s hq
       obtain ⟨rfl, hs⟩ := hq
       refine ⟨_, hs, ?_⟩
       refine f9 (e6 ?_)
       obtain rfl := oi h
       refine b5 ⟨_, Z, ?_⟩
       exact Sub.env ⟨Z, Z, Z, Z, Z, Z, Z, Y⟩
     ·refine AWP.exit (d6 ?_)
      obtain rfl := oi h
      refine d6 ⟨_, Z, Z, ?_⟩
      exact Sub.env ⟨Z, Z, Z, Z, Z, Z, Y⟩
    ·intro e s hq
     obtain ⟨rfl, hs⟩ := hq
     refine ⟨_, hs, ?_⟩
     refine f9 (e6 (b5 (.j (.e Z Z (S.sub Z Z Z (.q Z Z (.nil ?_)))))))
     obtain rfl := oi h
     refine b5 ⟨_, Z, ?_⟩
     exact Sub.env ⟨Z, Z, Z, Z, Z, Z, Y⟩
  ·refine AWP.exit (d6 ?_)
   obtain rfl := oi h
   refine d6 ⟨_, Z, Z, ?_⟩
   exact Sub.env ⟨Z, Z, Z, Y⟩
 ·intro e s hq
  obtain ⟨rfl, hs⟩ := hq
  refine ⟨_, hs, ?_⟩
  refine f9 (b5 (.g (.g ?_)))
  obtain ⟨a182, ha182, a187, ha187, a188, ha188, h⟩ := b3 h
  refine AWP.drawI mixed Z ?_
  refine f7.consF Z (fun E => AOps.e Z Z .N) Z (.consF Z (fun E => S.idxH ha182 Z Z Z (by simp) Z Z .N) Z (.consF Z (fun E => S.loadM ha182 Z Z Z Z .N) Z (.consF Z (fun E => AOps.e Z Z .N) Z (.consF Z (fun E => W.fieldAddr Z Z Z Z .N) Z (.consF Z (fun E => AOps.z Z Z Z Z Z Z .N) Z (.consF Z (fun E => AOps.E Z Z Z Z (I7 ha187) Z .N) Z (.consF Z (fun E => S.idxO ha188 Z Z (g8 Z ha182) Z Z .N) Z (.consF Z (fun E => S.loadO ha188 Z Z (g8 Z ha182) Z Z .N) Z (.consF Z (fun E => AOps.q Z Z .N) Z ?_)))))))))
  refine f7.done ?_
  dsimp only [i4]
  refine b5 (.g (.j (.e Z Z (.F Z Z Z (.nil (b5 (.ite Z h (fun hc36 h => ?_) (fun hc36 h => ?_))))))))
  ·refine AWP.g (.j (.e Z Z (.q Z Z (.nil (b5 (.ret (d4 ?_)))))))
   obtain rfl := oi h
   exact Done.ret Z Z
  ·refine AWP.skip (b5 (.g (.j (.q Z Z (.nil (b5 (.ret ?_)))))))
   obtain rfl := oi h
   exact Done.ret Z Z
theorem ref1_Ends_ok {t : d5} {sv : List Int} {plan : List Int} {r : (List Int) × Bool} (h : U3 t sv plan = some r) : d9 prog 53 [.agg (tT t), .c (row 1 intI sv), .c (row 1 intI plan)] (.tup [.c (row 1 intI r.1), .c (bool r.2)]) := by
 unfold d9
 refine FnOk.enter (rs := [.t 6, .t 7]) func53 Z ntmps53 results53 Z ⟨trivial, trivial, Y⟩ (by kernel_rfl) Z ?_
 unfold U3 at h
 refine AWP.g (.j (W.box Z Z Z Z Z Z (.q Z Z (.q Z Z (.nil (b5 (.g (.g (.j (.q Z Z (.nil (b5 (.U ?_)))))))))))))
 obtain ⟨oo, ho1, h⟩ := b8 h
 refine AWP.rngS ho1 (fun iv5 sv4 => ⟨[(1, .c (row 1 intI sv4)), (2, .c (row 1 intI plan)), (3, .c (.ptr 0 0 0)), (8, .c (int iv5))], [.one (.cells 4 [(tT t)])]⟩) (fun o e st => match o with | .inl sv4 => e = .exit 0 ∧ Sub [] st ⟨[(1, .c (row 1 intI sv4))], [.one (.cells 4 [(tT t)])]⟩ | .inr x => e = .ret ∧ Done [.t 6, .t 7] (fun t _ => t = .tup [.c (row 1 intI x.1), .c (bool x.2)]) .ret st) ?_ ?_ ?_ ?_
 ·try dsimp only
  exact Sub.env ⟨Z, Z, Z, Z, Y⟩
 ·intro iv5 sv4 hloiv5 hltiv5 _
  try dsimp only
  refine AWP.g (.g (.j (.e Z Z (.e Z Z (S.len Z Z (fun hl11 => .F Z Z Z (.nil (b5 (.ad Z hltiv5 (.exit (d6 (d6 ⟨Z, ?_⟩))))))))))))
  exact Sub.env ⟨Z, Y⟩
 ·intro iv5 sv4 o hloiv5 hltiv5 h
  unfold R5 at h
  try dsimp only at h ⊢
  refine AWP.g (.g (.j (.e Z Z (.e Z Z (S.len Z Z (fun hl11 => .F Z Z Z (.nil (b5 (.ae Z hltiv5 (.skip (b5 (.g (.U (.g (.g ?_)))))))))))))))
  obtain ⟨a19, ha19, a21, ha21, h⟩ := b2 h
  refine AWP.drawI mixed Z ?_
  refine f7.consF Z (fun E => W.loadAgg Z Z Z Z Z Z Z .N) Z (.consF Z (fun E => AOps.e Z Z .N) Z (.consF Z (fun E => AOps.e Z Z .N) Z (.consF Z (fun E => AOps.e Z Z .N) Z (.consF Z (fun E => S.idx ha19 Z Z Z Z .N) Z (.consF Z (fun E => AOps.ac Z Z Z Z .N) Z (.consF Z (fun E => AOps.E Z Z Z Z (J8 ha21) Z .N) Z (.consF Z (fun E => AOps.ab Z Z .N) Z ?_)))))))
  refine f7.done ?_
  dsimp only [i4]
  refine b5 (.ag Z h (fun hc6 h => ?_) (fun hc6 h => ?_))
  ·refine AWP.g (.j (.q Z Z (.q Z Z (.nil (b5 (.nilrow 1 6 Z (.ret (d4 (f8 (d4 ?_))))))))))
   obtain rfl := oi h
   refine d4 ⟨_, Z, Z, ?_⟩
   exact Done.ret Z Z
  ·refine AWP.skip (b5 ?_)
   obtain ⟨a27, ha27, a29, ha29, h⟩ := b2 h
   refine AWP.drawEI [6] mixed Z Z Z ?_
   refine e8.consN Z Z (fun E => W.loadAgg Z Z Z Z Z Z Z .N) Z (.consN Z Z (fun E => AOps.e Z Z .N) Z (.consN Z Z (fun E => AOps.e Z Z .N) Z (.consN Z Z (fun E => AOps.e Z Z .N) Z (.consN Z Z (fun E => S.idx ha27 Z Z Z Z .N) Z (.consN Z Z (fun E => AOps.ac Z Z Z Z .N) Z ?_)))))
   apply e8.consE; exact Z; exact Z; intro E
   refine S.fresh Z Z Z Z (P0 ha29) Z Z .N
   exact Z
   exact Z
   refine e8.consN Z Z (fun E => AOps.q Z Z .N) Z ?_
   refine e8.done Z ?_ ?_
   ·refine b9.cons Z Z ?_ ?_
    refine b7.go Z Z (fun E => W.loadAgg Z Z Z Z Z Z Z .N) ?_
    refine b7.skip Z (b7.nil)
    refine b9.cons Z Z ?_ ?_
    refine b7.go Z Z (fun E => AOps.e Z Z .N) ?_
    refine b7.skip Z (b7.nil)
    refine b9.cons Z Z ?_ ?_
    refine b7.go Z Z (fun E => AOps.e Z Z .N) ?_
    refine b7.skip Z (b7.nil)
    refine b9.cons Z Z ?_ ?_
    refine b7.go Z Z (fun E => AOps.e Z Z .N) ?_
    refine b7.skip Z (b7.nil)
    refine b9.cons Z Z ?_ ?_
    refine b7.go Z Z (fun E => S.idx ha27 Z Z Z Z .N) ?_
    refine b7.skip Z (b7.nil)
    refine b9.cons Z Z ?_ ?_
    refine b7.go Z Z (fun E => AOps.ac Z Z Z Z .N) ?_
    refine b7.skip Z (b7.nil)
    refine b9.skip Z ?_
    refine b9.cons Z Z ?_ ?_
    refine b7.skip Z ?_
    refine b7.go Z Z (fun E => AOps.q Z Z .N) ?_
    exact b7.nil
    exact b9.nil
   dsimp only [i4]
   refine e6 (b5 (.j (.e Z Z (.add Z Z Z (by omega) (.q Z Z (.nil ?_))))))
   obtain rfl := oi h
   refine b5 ⟨_, Z, ?_⟩
   exact (Sub.frzV (id := 1) (l := a29) (env2 := [(1, .c (row 1 intI a29)), (2, .c (row 1 intI plan)), (3, .c (.ptr 0 0 0)), (8, .c (int (iv5 + 1)))]) (σ2 := [.one (.cells 4 [(tT t)]), .dead]) Z Z (by exact ⟨⟨_, Z, .inr ⟨_, Z, Z, Z⟩⟩, ⟨_, Z, .inl ⟨Z, Z⟩⟩, ⟨_, Z, .inl ⟨Z, Z⟩⟩, ⟨_, Z, .inl ⟨Z, Z⟩⟩, Y⟩) Z (by exact ⟨⟨Z, .inl ⟨Z, Z⟩, .inl ⟨Z, Z⟩, .inl ⟨Z, Z⟩, .inl ⟨Z, Z⟩, Y⟩, trivial, Y⟩)).trans (Sub.cut ⟨Z, Z, Z, Z, Y⟩ Z ⟨.one Z, Y⟩ Z)
 ·intro e s hq
  rcases oo with sv4 | x
  ·try dsimp only at h hq
   obtain ⟨rfl, hs⟩ := hq
   refine ⟨_, hs, ?_⟩
   refine f9 (b5 (.g (.j (.e Z Z (.q Z Z (.q Z Z (.nil (b5 (.ret ?_)))))))))
   obtain rfl := oi h
   exact Done.ret Z Z
  ·try dsimp only at h hq
   obtain ⟨rfl, hs⟩ := hq
   refine ⟨_, Sub.refl _ _, ?_⟩
   refine f8 (d4 ?_)
   obtain rfl := oi h
   exact hs
theorem ref1_Works_ok {t : d5} {sv : List Int} {plan : List Int} {r : Bool} (h : R9 t sv plan = some r) : d9 prog 33 [.agg (tT t), .c (row 1 intI sv), .c (row 1 intI plan)] (.c (bool r)) := by
 unfold d9
 refine FnOk.enter (rs := [.t 6]) func33 Z ntmps33 results33 Z ⟨trivial, Y⟩ (by kernel_rfl) Z ?_
 unfold R9 at h
 refine AWP.g (.j (W.box Z Z Z Z Z Z (.q Z Z (.nil (b5 (.g ?_))))))
 obtain ⟨a13, ha13, h⟩ := b8 h
 refine AWP.j (W.loadAgg Z Z Z Z Z Z Z (.e Z Z (.e Z Z (.E Z Z Z Z (ref1_Ends_ok ha13) Z (.e Z Z (.ah Z Z Z (.ah Z Z Z (.q Z Z (.q Z Z (.nil (b5 ?_)))))))))))
 obtain ⟨t4, hx5, h⟩ := b8 h
 refine AWP.seqJ (⟨[(6, .c (bool t4))], []⟩) ?_ ?_
 ·rcases bft (a13.2) with hb6 | hb6
  ·replace hx5 := A9 hb6 hx5
   obtain ⟨a21, ha21, hx5⟩ := b8 hx5
   refine AWP.j (.e Z Z (.e Z Z (.u Z Z Z hb6 (W.fieldAddr Z Z Z Z (.u Z Z Z hb6 (.z Z Z Z Z Z Z (.u Z Z Z hb6 (.e Z Z (.u Z Z Z hb6 (.E Z Z Z Z (S4 ha21) Z (.J Z hb6 Z Z (.q Z Z (.nil ?_)))))))))))))
   obtain rfl := oi hx5
   refine b5 (Sub.cut ⟨Z, Y⟩ Z trivial Z)
  ·replace hx5 := A7 hb6 hx5
   refine AWP.j (.e Z Z (.e Z Z (.v Z Z Z hb6 (.v Z Z Z hb6 (.v Z Z Z hb6 (.v Z Z Z hb6 (.O Z hb6 Z Z (.q Z Z (.nil ?_)))))))))
   obtain rfl := oi hx5
   refine b5 (Sub.cut ⟨Z, Y⟩ Z trivial Z)
 ·refine AWP.ret ?_
  obtain rfl := oi h
  exact Done.ret Z Z
theorem S6 {t : d5} {plan : List Int} {r : Bool} (h : O1 t plan = some r) : d9 prog 11 [.agg (tT t), .c (row 1 intI plan)] (.c (bool r)) := by
 unfold d9
 refine FnOk.enter (rs := [.t 4]) func11 Z ntmps11 results11 Z ⟨trivial, Y⟩ (by kernel_rfl) Z ?_
 unfold O1 at h
 refine AWP.g (.j (W.box Z Z Z Z Z Z (.q Z Z (.nil (b5 (.g ?_))))))
 obtain ⟨a9, ha9, h⟩ := b8 h
 refine AWP.j (W.loadAgg Z Z Z Z Z Z Z (W.fieldAddr Z Z Z Z (.z Z Z Z Z Z Z (.e Z Z (.E Z Z Z Z (ref1_Works_ok ha9) Z (.q Z Z (.nil (b5 (.ret ?_)))))))))
 obtain rfl := oi h
 exact Done.ret Z Z
theorem ad1 {av : List Int} {bv : List Int} {r : Int} (h : N0 av bv = some r) : d9 prog 12 [.c (row 1 intI av), .c (row 1 intI bv)] (.c (int r)) := by
 unfold d9
 refine FnOk.enter (rs := [.t 4]) func12 Z ntmps12 results12 Z ⟨trivial, Y⟩ (by kernel_rfl) Z ?_
 unfold N0 at h
 refine AWP.g (.j (.q Z Z (.nil (b5 (.g ?_)))))
 obtain ⟨a11, ha11, h⟩ := b8 h
 refine AWP.j (.e Z Z (S.len Z Z (fun hl9 => S.add Z Z Z (S.makeM 1 intI ha11 Z Z Z Z Z (.q Z Z (.nil (b5 (.g (.g (.j (.e Z Z (S.len Z Z (fun hl13 => .q Z Z (.nil (b5 (.U ?_))))))))))))))))
 obtain ⟨c5, ho1, h⟩ := b8 h
 refine AWP.loopS ho1 (fun (c3, iv4) => ⟨[(0, .c (row 1 intI av)), (1, .c (row 1 intI bv)), (5, .c (.own 0 0 c3.length)), (6, .c (int iv4))], [mat (0, []) 1 intI c3]⟩) (fun c5 e st => e = .exit 0 ∧ Sub [] st ⟨[(0, .c (row 1 intI av)), (1, .c (row 1 intI bv)), (5, .c (.own 0 0 c5.length))], [mat (0, []) 1 intI c5]⟩) ?_ ?_ ?_
 ·try dsimp only
  exact Sub.env ⟨Z, Z, Z, Z, Y⟩
 ·intro s o h
  obtain ⟨c3, iv4⟩ := s
  unfold D8 at h
  try dsimp only at h ⊢
  refine AWP.g (.g (.j (.e Z Z (.geq Z Z Z (.nil (b5 (.ite Z h (fun hc6 h => ?_) (fun hc6 h => ?_))))))))
  ·refine AWP.skip (b5 (.g (.U (.g ?_))))
   obtain ⟨a23, ha23, a24, ha24, h⟩ := b2 h
   refine AWP.j (.e Z Z (.e Z Z (.e Z Z (S.len Z Z (fun hl21 => S.add Z Z Z (S.make (f := intI) ha23 (.val .nil) Z Z Z Z Z Z (S.idxH ha24 Z Z Z (by simp) Z Z (S.storeH (s3 ha24).2 Z Z Z Z (.nil (b5 (.g (.moveR (k := 1) (f := intI) (M := c3) (env' := [(0, .c (row 1 intI av)), (1, .c (row 1 intI bv)), (5, .c (.own 0 0 c3.length)), (6, .c (int iv4))]) (σ' := [mat (0, []) 1 intI (c3.set iv4.toNat a23)]) (r := 0) (s := 1) (p := iv4.toNat) (matS_at Z) (s3 ha24).2 Z Z Z Z Z (.inl Z) ⟨.self, Y⟩ ⟨Z, Z, Z, Z, Y⟩ Z Z (.j (.e Z Z (S.len Z Z (fun hl26 => .sub' Z Z Z (by omega) (.q Z Z (.nil (b5 (.U ?_))))))))))))))))))))
   obtain ⟨c9, ho2, h⟩ := b8 h
   refine AWP.loopS ho2 (fun (c7, j8) => ⟨[(0, .c (row 1 intI av)), (1, .c (row 1 intI bv)), (5, .c (.own 0 0 c7.length)), (6, .c (int iv4)), (7, .c (int j8))], [mat (0, []) 1 intI c7]⟩) (fun c9 e st => e = .exit 2 ∧ Sub [] st ⟨[(0, .c (row 1 intI av)), (1, .c (row 1 intI bv)), (5, .c (.own 0 0 c9.length)), (6, .c (int iv4))], [mat (0, []) 1 intI c9]⟩) ?_ ?_ ?_
   ·try dsimp only
    exact Sub.env ⟨Z, Z, (o8 (by first | rfl | simp only [List.length_set])), Z, Z, Y⟩
   ·intro s o h
    obtain ⟨c7, j8⟩ := s
    unfold y8 at h
    try dsimp only at h ⊢
    refine AWP.g (.seqJ (⟨[(0, .c (row 1 intI av)), (1, .c (row 1 intI bv)), (5, .c (.own 0 0 c7.length)), (6, .c (int iv4)), (7, .c (int j8)), (35, .c (bool ((decide (0 ≤ j8)) && (decide (iv4 < (av.length : Int))))))], [mat (0, []) 1 intI c7]⟩) ?_ ?_)
    ·rcases bft (decide (0 ≤ j8)) with hb1 | hb1
     ·refine AWP.j (.e Z Z (.geq Z Z Z (.e Z Z (.u Z Z Z hb1 (.e Z Z (.u Z Z Z hb1 (.e Z Z ?_)))))))
      refine AOps.u Z Z Z hb1 ?_; refine S.len Z Z (fun hl33 => ?_)
      refine AOps.u Z Z Z hb1 (.F Z Z Z (.J Z hb1 Z Z (.nil (b5 ?_))))
      simp only [and_t hb1, or_t hb1, Bool.false_or, Bool.true_or, Bool.false_and, Bool.true_and]
      exact Sub.env ⟨Z, Z, Z, Z, Z, Z, Y⟩
     ·refine AWP.j (.e Z Z (.geq Z Z Z (.e Z Z (.v Z Z Z hb1 (.v Z Z Z hb1 (.v Z Z Z hb1 (.v Z Z Z hb1 (.O Z hb1 Z Z (.nil (b5 ?_))))))))))
      simp only [and_f hb1, or_f hb1, Bool.false_or, Bool.true_or, Bool.false_and, Bool.true_and]
      exact Sub.env ⟨Z, Z, Z, Z, Z, Z, Y⟩
    ·refine AWP.ag Z h (fun hc10 h => ?_) (fun hc10 h => ?_)
     ·refine AWP.skip (b5 ?_)
      obtain ⟨c11, hx12, h⟩ := b8 h
      refine AWP.seqJ (⟨[(0, .c (row 1 intI av)), (1, .c (row 1 intI bv)), (5, .c (.own 0 0 c11.length)), (6, .c (int iv4)), (7, .c (int j8))], [mat (0, []) 1 intI c11]⟩) ?_ ?_
      ·refine AWP.U (.g ?_)
       obtain ⟨a40, ha40, a46, ha46, a49, ha49, hx12⟩ := b3 hx12
       obtain ⟨a51, ha51, hx12⟩ := b8 hx12
       refine AWP.drawEI [14] mixed Z Z Z ?_
       refine e8.consN Z Z (fun E => AOps.e Z Z .N) Z (.consN Z Z (fun E => AOps.e Z Z .N) Z (.consN Z Z (fun E => S.idxH ha40 Z Z Z (by simp) Z Z .N) Z (.consN Z Z (fun E => S.loadM ha40 Z Z Z Z .N) Z (.consN Z Z (fun E => AOps.e Z Z .N) Z (.consN Z Z (fun E => AOps.e Z Z .N) Z (.consN Z Z (fun E => AOps.e Z Z .N) Z (.consN Z Z (fun E => S.add Z Z Z .N) Z (.consN Z Z (fun E => S.idxH ha46 Z Z Z (by simp) Z Z .N) Z (.consN Z Z (fun E => S.loadM ha46 Z Z Z Z .N) Z (.consN Z Z (fun E => AOps.e Z Z .N) Z (.consN Z Z (fun E => S.idxO ha49 Z Z (g8 Z ha46) Z Z .N) Z (.consN Z Z (fun E => S.loadO ha49 Z Z (g8 Z ha46) Z Z .N) Z (.consN Z Z (fun E => S.idxO ha51 Z Z (g8 Z ha40) Z Z .N) Z ?_)))))))))))))
       apply e8.consE (v := .undef); exact Z; exact Z; intro E
       refine S.storeR1 (f := intI) (a' := a49) (s3 ha40).2 (J9 ha51) (fun _ => ⟨_, Z⟩) Z Z Z Z Z ?_
       exact AOps.nil ⟨Z, Z⟩
       exact Z
       exact Z
       refine e8.done Z ?_ ?_
       ·refine b9.cons Z Z ?_ ?_
        refine b7.go Z Z (fun E => AOps.e Z Z .N) ?_
        refine b7.skip Z (b7.nil)
        refine b9.cons Z Z ?_ ?_
        refine b7.go Z Z (fun E => AOps.e Z Z .N) ?_
        refine b7.skip Z (b7.nil)
        refine b9.cons Z Z ?_ ?_
        refine b7.go Z Z (fun E => S.idxH ha40 Z Z Z (by simp) Z Z .N) ?_
        refine b7.skip Z (b7.nil)
        refine b9.cons Z Z ?_ ?_
        refine b7.go Z Z (fun E => S.loadM ha40 Z Z Z Z .N) ?_
        refine b7.skip Z (b7.nil)
        refine b9.cons Z Z ?_ ?_
        refine b7.go Z Z (fun E => AOps.e Z Z .N) ?_
        refine b7.skip Z (b7.nil)
        refine b9.cons Z Z ?_ ?_
        refine b7.go Z Z (fun E => AOps.e Z Z .N) ?_
        refine b7.skip Z (b7.nil)
        refine b9.cons Z Z ?_ ?_
        refine b7.go Z Z (fun E => AOps.e Z Z .N) ?_
        refine b7.skip Z (b7.nil)
        refine b9.cons Z Z ?_ ?_
        refine b7.go Z Z (fun E => S.add Z Z Z .N) ?_
        refine b7.skip Z (b7.nil)
        refine b9.cons Z Z ?_ ?_
        refine b7.go Z Z (fun E => S.idxH ha46 Z Z Z (by simp) Z Z .N) ?_
        refine b7.skip Z (b7.nil)
        refine b9.cons Z Z ?_ ?_
        refine b7.go Z Z (fun E => S.loadM ha46 Z Z Z Z .N) ?_
        refine b7.skip Z (b7.nil)
        refine b9.cons Z Z ?_ ?_
        refine b7.go Z Z (fun E => AOps.e Z Z .N) ?_
        refine b7.skip Z (b7.nil)
        refine b9.cons Z Z ?_ ?_
        refine b7.go Z Z (fun E => S.idxO ha49 Z Z (g8 Z ha46) Z Z .N) ?_
        refine b7.skip Z (b7.nil)
        refine b9.cons Z Z ?_ ?_
        refine b7.go Z Z (fun E => S.loadO ha49 Z Z (g8 Z ha46) Z Z .N) ?_
        refine b7.skip Z (b7.nil)
        refine b9.cons Z Z ?_ ?_
        refine b7.go Z Z (fun E => S.idxO ha51 Z Z (g8 Z ha40) Z Z .N) ?_
        refine b7.skip Z (b7.nil)
        refine b9.skip Z (b9.nil)
       dsimp only [i4]
       refine b5 ?_
       obtain ⟨c13, hx14, hx12⟩ := b8 hx12
       refine AWP.seqJ (⟨[(0, .c (row 1 intI av)), (1, .c (row 1 intI bv)), (5, .c (.own 0 0 c13.length)), (6, .c (int iv4)), (7, .c (int j8))], [mat (0, []) 1 intI c13]⟩) ?_ ?_
       ·refine AWP.g ?_
        obtain ⟨a54, ha54, a58, ha58, a62, ha62, hx14⟩ := b3 hx14
        obtain ⟨a65, ha65, hx14⟩ := b8 hx14
        refine AWP.drawI mixed Z ?_
        refine f7.consF Z (fun E => AOps.e Z Z .N) Z (.consF Z (fun E => AOps.e Z Z .N) Z (.consF Z (fun E => S.idxH ha54 Z (by simp only [List.length_set]) Z (by simp) Z Z .N) Z (.consF Z (fun E => S.loadM ha54 Z Z Z Z .N) Z (.consF Z (fun E => AOps.e Z Z .N) Z (.consF Z (fun E => S.add Z Z Z .N) Z (.consF Z (fun E => S.idxO ha58 Z Z (g8 Z ha54) Z Z .N) Z (.consF Z (fun E => S.loadO ha58 Z Z (g8 Z ha54) Z Z .N) Z (.consF Z (fun E => AOps.e Z Z .N) Z (.consF Z (fun E => AOps.e Z Z .N) Z (.consF Z (fun E => S.idxH ha62 Z (by simp only [List.length_set]) Z (by simp) Z Z .N) Z (.consF Z (fun E => S.loadM ha62 Z Z Z Z .N) Z (.consF Z (fun E => AOps.e Z Z .N) Z (.consF Z (fun E => S.idxO ha65 Z Z (g8 Z ha62) Z Z .N) Z (.consF Z (fun E => S.loadO ha65 Z Z (g8 Z ha62) Z Z .N) Z (.consF Z (fun E => AOps.gtr Z Z Z .N) Z ?_)))))))))))))))
        refine f7.done ?_
        dsimp only [i4]
        refine b5 (.ite Z hx14 (fun hc15 hx14 => ?_) (fun hc15 hx14 => ?_))
        ·obtain ⟨a70, ha70, a75, ha75, a79, ha79, hx14⟩ := b3 hx14
         obtain ⟨a81, ha81, hx14⟩ := b8 hx14
         refine AWP.drawEI [14] mixed Z Z Z ?_
         refine e8.consN Z Z (fun E => AOps.e Z Z .N) Z (.consN Z Z (fun E => AOps.e Z Z .N) Z (.consN Z Z (fun E => S.idxH ha70 Z (by simp only [List.length_set]) Z (by simp) Z Z .N) Z (.consN Z Z (fun E => S.loadM ha70 Z Z Z Z .N) Z (.consN Z Z (fun E => AOps.e Z Z .N) Z (.consN Z Z (fun E => AOps.e Z Z .N) Z (.consN Z Z (fun E => AOps.e Z Z .N) Z (.consN Z Z (fun E => S.idxH ha75 Z (by simp only [List.length_set]) Z (by simp) Z Z .N) Z (.consN Z Z (fun E => S.loadM ha75 Z Z Z Z .N) Z (.consN Z Z (fun E => AOps.e Z Z .N) Z (.consN Z Z (fun E => S.add Z Z Z .N) Z (.consN Z Z (fun E => S.idxO ha79 Z Z (g8 Z ha75) Z Z .N) Z (.consN Z Z (fun E => S.loadO ha79 Z Z (g8 Z ha75) Z Z .N) Z (.consN Z Z (fun E => S.idxO ha81 Z Z (g8 Z ha70) Z Z .N) Z ?_)))))))))))))
         apply e8.consE (v := .undef); exact Z; exact Z; intro E
         refine S.storeR1 (f := intI) (a' := a79) (s3 ha70).2 (J9 ha81) (fun _ => ⟨_, Z⟩) Z Z Z Z Z ?_
         exact AOps.nil ⟨Z, Z⟩
         exact Z
         exact Z
         refine e8.done Z ?_ ?_
         ·refine b9.cons Z Z ?_ ?_
          refine b7.go Z Z (fun E => AOps.e Z Z .N) ?_
          refine b7.skip Z (b7.nil)
          refine b9.cons Z Z ?_ ?_
          refine b7.go Z Z (fun E => AOps.e Z Z .N) ?_
          refine b7.skip Z (b7.nil)
          refine b9.cons Z Z ?_ ?_
          refine b7.go Z Z (fun E => S.idxH ha70 Z (by simp only [List.length_set]) Z (by simp) Z Z .N) ?_
          refine b7.skip Z (b7.nil)
          refine b9.cons Z Z ?_ ?_
          refine b7.go Z Z (fun E => S.loadM ha70 Z Z Z Z .N) ?_
          refine b7.skip Z (b7.nil)
          refine b9.cons Z Z ?_ ?_
          refine b7.go Z Z (fun E => AOps.e Z Z .N) ?_
          refine b7.skip Z (b7.nil)
          refine b9.cons Z Z ?_ ?_
          refine b7.go Z Z (fun E => AOps.e Z Z .N) ?_
          refine b7.skip Z (b7.nil)
          refine b9.cons Z Z ?_ ?_
          refine b7.go Z Z (fun E => AOps.e Z Z .N) ?_
          refine b7.skip Z (b7.nil)
          refine b9.cons Z Z ?_ ?_
          refine b7.go Z Z (fun E => S.idxH ha75 Z (by simp only [List.length_set]) Z (by simp) Z Z .N) ?_
          refine b7.skip Z (b7.nil)
          refine b9.cons Z Z ?_ ?_
          refine b7.go Z Z (fun E => S.loadM ha75 Z Z Z Z .N) ?_
          refine b7.skip Z (b7.nil)
          refine b9.cons Z Z ?_ ?_
          refine b7.go Z Z (fun E => AOps.e Z Z .N) ?_
          refine b7.skip Z (b7.nil)
          refine b9.cons Z Z ?_ ?_
          refine b7.go Z Z (fun E => S.add Z Z Z .N) ?_
          refine b7.skip Z (b7.nil)
          refine b9.cons Z Z ?_ ?_
          refine b7.go Z Z (fun E => S.idxO ha79 Z Z (g8 Z ha75) Z Z .N) ?_
          refine b7.skip Z (b7.nil)
          refine b9.cons Z Z ?_ ?_
          refine b7.go Z Z (fun E => S.loadO ha79 Z Z (g8 Z ha75) Z Z .N) ?_
          refine b7.skip Z (b7.nil)
          refine b9.cons Z Z ?_ ?_
          refine b7.go Z Z (fun E => S.idxO ha81 Z Z (g8 Z ha70) Z Z .N) ?_
          refine b7.skip Z (b7.nil)
          refine b9.skip Z (b9.nil)
         dsimp only [i4]
         obtain rfl := oi hx14
         refine b5 (Sub.env ⟨Z, Z, (o8 (by first | rfl | simp only [List.length_set])), Z, Z, Y⟩)
        ·refine AWP.skip ?_
         obtain rfl := oi hx14
         refine b5 (Sub.env ⟨Z, Z, (o8 (by first | rfl | simp only [List.length_set])), Z, Z, Y⟩)
       ·obtain ⟨t16, hx17, hx12⟩ := b8 hx12
        refine AWP.seqJ (⟨[(0, .c (row 1 intI av)), (1, .c (row 1 intI bv)), (5, .c (.own 0 0 c13.length)), (6, .c (int iv4)), (7, .c (int j8)), (110, .c (bool t16))], [mat (0, []) 1 intI c13]⟩) ?_ ?_
        ·obtain ⟨a84, ha84, a88, ha88, hx17⟩ := b2 hx17
         rcases bft (decide (a84 = a88)) with hb18 | hb18
         ·replace hx17 := x5 hb18 hx17
          obtain ⟨a95, ha95, a99, ha99, a104, ha104, hx17⟩ := b3 hx17
          obtain ⟨a107, ha107, hx17⟩ := b8 hx17
          refine AWP.drawI mixed Z ?_
          refine f7.consF Z (fun E => AOps.e Z Z .N) Z (.consF Z (fun E => AOps.e Z Z .N) Z (.consF Z (fun E => S.idx ha84 Z Z Z Z .N) Z (.consF Z (fun E => AOps.ac Z Z Z Z .N) Z (.consF Z (fun E => AOps.e Z Z .N) Z (.consF Z (fun E => AOps.e Z Z .N) Z (.consF Z (fun E => S.idx ha88 Z Z Z Z .N) Z (.consF Z (fun E => AOps.ac Z Z Z Z .N) Z (.consF Z (fun E => AOps.aa Z Z Z .N) Z (.consF Z (fun E => AOps.e Z Z .N) Z (.consF Z (fun E => AOps.u Z Z Z hb18 (.e Z Z .N)) Z (.consF Z (fun E => AOps.u Z Z Z hb18 (.e Z Z .N)) Z (.consF Z (fun E => AOps.u Z Z Z hb18 (S.add Z Z Z .N)) Z (.consF Z (fun E => AOps.u Z Z Z hb18 (S.idxH ha95 Z Z Z (by simp) Z Z .N)) Z (.consF Z (fun E => AOps.u Z Z Z hb18 (S.loadM ha95 Z Z Z Z .N)) Z (.consF Z (fun E => AOps.u Z Z Z hb18 (.e Z Z .N)) Z (.consF Z (fun E => AOps.u Z Z Z hb18 (S.add Z Z Z .N)) Z (.consF Z (fun E => AOps.u Z Z Z hb18 (S.idxO ha99 Z Z (g8 Z ha95) Z Z .N)) Z (.consF Z (fun E => AOps.u Z Z Z hb18 (S.loadO ha99 Z Z (g8 Z ha95) Z Z .N)) Z (.consF Z (fun E => AOps.u Z Z Z hb18 (S.add Z Z Z .N)) Z (.consF Z (fun E => AOps.u Z Z Z hb18 (.e Z Z .N)) Z (.consF Z (fun E => AOps.u Z Z Z hb18 (.e Z Z .N)) Z (.consF Z (fun E => AOps.u Z Z Z hb18 (S.idxH ha104 Z Z Z (by simp) Z Z .N)) Z (.consF Z (fun E => AOps.u Z Z Z hb18 (S.loadM ha104 Z Z Z Z .N)) Z (.consF Z (fun E => AOps.u Z Z Z hb18 (.e Z Z .N)) Z (.consF Z (fun E => AOps.u Z Z Z hb18 (S.idxO ha107 Z Z (g8 Z ha104) Z Z .N)) Z (.consF Z (fun E => AOps.u Z Z Z hb18 (S.loadO ha107 Z Z (g8 Z ha104) Z Z .N)) Z (.consF Z (fun E => AOps.u Z Z Z hb18 (.gtr Z Z Z .N)) Z (.consF Z (fun E => AOps.J Z hb18 Z Z .N) Z ?_))))))))))))))))))))))))))))
          refine f7.done ?_
          dsimp only [i4]
          obtain rfl := oi hx17
          refine b5 (Sub.env ⟨Z, Z, Z, Z, Z, Z, Y⟩)
         ·replace hx17 := x4 hb18 hx17
          refine AWP.drawI mixed Z ?_
          refine f7.consF Z (fun E => AOps.e Z Z .N) Z (.consF Z (fun E => AOps.e Z Z .N) Z (.consF Z (fun E => S.idx ha84 Z Z Z Z .N) Z (.consF Z (fun E => AOps.ac Z Z Z Z .N) Z (.consF Z (fun E => AOps.e Z Z .N) Z (.consF Z (fun E => AOps.e Z Z .N) Z (.consF Z (fun E => S.idx ha88 Z Z Z Z .N) Z (.consF Z (fun E => AOps.ac Z Z Z Z .N) Z (.consF Z (fun E => AOps.aa Z Z Z .N) Z (.consF Z (fun E => AOps.e Z Z .N) Z (.consF Z (fun E => AOps.v Z Z Z hb18 .N) Z (.consF Z (fun E => AOps.v Z Z Z hb18 .N) Z (.consF Z (fun E => AOps.v Z Z Z hb18 .N) Z (.consF Z (fun E => AOps.v Z Z Z hb18 .N) Z (.consF Z (fun E => AOps.v Z Z Z hb18 .N) Z (.consF Z (fun E => AOps.v Z Z Z hb18 .N) Z (.consF Z (fun E => AOps.v Z Z Z hb18 .N) Z (.consF Z (fun E => AOps.v Z Z Z hb18 .N) Z (.consF Z (fun E => AOps.v Z Z Z hb18 .N) Z (.consF Z (fun E => AOps.v Z Z Z hb18 .N) Z (.consF Z (fun E => AOps.v Z Z Z hb18 .N) Z (.consF Z (fun E => AOps.v Z Z Z hb18 .N) Z (.consF Z (fun E => AOps.v Z Z Z hb18 .N) Z (.consF Z (fun E => AOps.v Z Z Z hb18 .N) Z (.consF Z (fun E => AOps.v Z Z Z hb18 .N) Z (.consF Z (fun E => AOps.v Z Z Z hb18 .N) Z (.consF Z (fun E => AOps.v Z Z Z hb18 .N) Z (.consF Z (fun E => AOps.v Z Z Z hb18 .N) Z (.consF Z (fun E => AOps.O Z hb18 Z Z .N) Z ?_))))))))))))))))))))))))))))
          refine f7.done ?_
          dsimp only [i4]
          obtain rfl := oi hx17
          refine b5 (Sub.env ⟨Z, Z, Z, Z, Z, Z, Y⟩)
        ·refine AWP.ag Z hx12 (fun hc19 hx12 => ?_) (fun hc19 hx12 => ?_)
         ·obtain ⟨a113, ha113, a119, ha119, a123, ha123, hx12⟩ := b3 hx12
          obtain ⟨a126, ha126, hx12⟩ := b8 hx12
          refine AWP.drawEI [16] mixed Z Z Z ?_
          refine e8.consN Z Z (fun E => AOps.e Z Z .N) Z (.consN Z Z (fun E => AOps.e Z Z .N) Z (.consN Z Z (fun E => S.idxH ha113 Z Z Z (by simp) Z Z .N) Z (.consN Z Z (fun E => S.loadM ha113 Z Z Z Z .N) Z (.consN Z Z (fun E => AOps.e Z Z .N) Z (.consN Z Z (fun E => AOps.e Z Z .N) Z (.consN Z Z (fun E => AOps.e Z Z .N) Z (.consN Z Z (fun E => S.add Z Z Z .N) Z (.consN Z Z (fun E => S.idxH ha119 Z Z Z (by simp) Z Z .N) Z (.consN Z Z (fun E => S.loadM ha119 Z Z Z Z .N) Z (.consN Z Z (fun E => AOps.e Z Z .N) Z (.consN Z Z (fun E => S.add Z Z Z .N) Z (.consN Z Z (fun E => S.idxO ha123 Z Z (g8 Z ha119) Z Z .N) Z (.consN Z Z (fun E => S.loadO ha123 Z Z (g8 Z ha119) Z Z .N) Z (.consN Z Z (fun E => S.add Z Z Z .N) Z (.consN Z Z (fun E => S.idxO ha126 Z Z (g8 Z ha113) Z Z .N) Z ?_)))))))))))))))
          apply e8.consE (v := .undef); exact Z; exact Z; intro E
          refine S.storeR1 (f := intI) (a' := w64 (a123 + 1)) (s3 ha113).2 (J9 ha126) (fun _ => ⟨_, Z⟩) Z Z Z Z Z ?_
          exact AOps.nil ⟨Z, Z⟩
          exact Z
          exact Z
          refine e8.done Z ?_ ?_
          ·refine b9.cons Z Z ?_ ?_
           refine b7.go Z Z (fun E => AOps.e Z Z .N) ?_
           refine b7.skip Z (b7.nil)
           refine b9.cons Z Z ?_ ?_
           refine b7.go Z Z (fun E => AOps.e Z Z .N) ?_
           refine b7.skip Z (b7.nil)
           refine b9.cons Z Z ?_ ?_
           refine b7.go Z Z (fun E => S.idxH ha113 Z Z Z (by simp) Z Z .N) ?_
           refine b7.skip Z (b7.nil)
           refine b9.cons Z Z ?_ ?_
           refine b7.go Z Z (fun E => S.loadM ha113 Z Z Z Z .N) ?_
           refine b7.skip Z (b7.nil)
           refine b9.cons Z Z ?_ ?_
           refine b7.go Z Z (fun E => AOps.e Z Z .N) ?_
           refine b7.skip Z (b7.nil)
           refine b9.cons Z Z ?_ ?_
           refine b7.go Z Z (fun E => AOps.e Z Z .N) ?_
           refine b7.skip Z (b7.nil)
           refine b9.cons Z Z ?_ ?_
           refine b7.go Z Z (fun E => AOps.e Z Z .N) ?_
           refine b7.skip Z (b7.nil)
           refine b9.cons Z Z ?_ ?_
           refine b7.go Z Z (fun E => S.add Z Z Z .N) ?_
           refine b7.skip Z (b7.nil)
           refine b9.cons Z Z ?_ ?_
           refine b7.go Z Z (fun E => S.idxH ha119 Z Z Z (by simp) Z Z .N) ?_
           refine b7.skip Z (b7.nil)
           refine b9.cons Z Z ?_ ?_
           refine b7.go Z Z (fun E => S.loadM ha119 Z Z Z Z .N) ?_
           refine b7.skip Z (b7.nil)
           refine b9.cons Z Z ?_ ?_
           refine b7.go Z Z (fun E => AOps.e Z Z .N) ?_
           refine b7.skip Z (b7.nil)
           refine b9.cons Z Z ?_ ?_
           refine b7.go Z Z (fun E => S.add Z Z Z .N) ?_
           refine b7.skip Z (b7.nil)
           refine b9.cons Z Z ?_ ?_
           refine b7.go Z Z (fun E => S.idxO ha123 Z Z (g8 Z ha119) Z Z .N) ?_
           refine b7.skip Z (b7.nil)
           refine b9.cons Z Z ?_ ?_
           refine b7.go Z Z (fun E => S.loadO ha123 Z Z (g8 Z ha119) Z Z .N) ?_
           refine b7.skip Z (b7.nil)
           refine b9.cons Z Z ?_ ?_
           refine b7.go Z Z (fun E => S.add Z Z Z .N) ?_
           refine b7.skip Z (b7.nil)
           refine b9.cons Z Z ?_ ?_
           refine b7.go Z Z (fun E => S.idxO ha126 Z Z (g8 Z ha113) Z Z .N) ?_
           refine b7.skip Z (b7.nil)
           refine b9.skip Z (b9.nil)
          dsimp only [i4]
          refine e6 ?_
          obtain rfl := oi hx12
          refine b5 (Sub.env ⟨Z, Z, (o8 (by first | rfl | simp only [List.length_set])), Z, Z, Y⟩)
         ·refine AWP.skip (e6 ?_)
          obtain rfl := oi hx12
          refine b5 (Sub.env ⟨Z, Z, Z, Z, Z, Y⟩)
      ·refine AWP.j (.e Z Z (S.sub Z Z Z (.q Z Z (.nil ?_))))
       obtain rfl := oi h
       refine b5 ⟨_, Z, ?_⟩
       exact Sub.env ⟨Z, Z, Z, Z, Z, Y⟩
     ·refine AWP.exit (d6 ?_)
      obtain rfl := oi h
      refine d6 ⟨_, Z, Z, ?_⟩
      exact Sub.env ⟨Z, Z, Z, Z, Y⟩
   ·intro e s hq
    obtain ⟨rfl, hs⟩ := hq
    refine ⟨_, hs, ?_⟩
    refine f9 (e6 (b5 (.j (.e Z Z (S.sub Z Z Z (.q Z Z (.nil ?_)))))))
    obtain rfl := oi h
    refine b5 ⟨_, Z, ?_⟩
    exact Sub.env ⟨Z, Z, Z, Z, Y⟩
  ·refine AWP.exit (d6 ?_)
   obtain rfl := oi h
   refine d6 ⟨_, Z, Z, ?_⟩
   exact Sub.env ⟨Z, Z, Z, Y⟩
 ·intro e s hq
  obtain ⟨rfl, hs⟩ := hq
  refine ⟨_, hs, ?_⟩
  refine f9 (b5 (.g ?_))
  obtain ⟨a133, ha133, a135, ha135, h⟩ := b2 h
  refine AWP.j (.e Z Z (S.len Z Z (fun hl128 => .e Z Z (S.len Z Z (fun hl130 => S.add Z Z Z (.e Z Z (S.idxH ha133 Z Z Z (by simp) Z Z (S.loadM ha133 Z Z Z Z (S.idxO ha135 Z Z (g8 Z ha133) Z Z (S.loadO ha135 Z Z (g8 Z ha133) Z Z (S.mul Z Z Z (S.sub Z Z Z (.q Z Z (.nil (b5 (.ret ?_))))))))))))))))
  obtain rfl := oi h
  exact Done.ret Z Z
theorem V6 {t : d5} {plan : List Int} {r : Bool} (h : A4 t plan = some r) : d9 prog 3 [.agg (tT t), .c (row 1 intI plan)] (.c (bool r)) := by
 unfold d9
 refine FnOk.enter (rs := [.t 4]) func3 Z ntmps3 results3 Z ⟨trivial, Y⟩ (by kernel_rfl) Z ?_
 unfold A4 at h
 refine AWP.g (.j (W.box Z Z Z Z Z Z (.q Z Z (.nil (b5 (.g ?_))))))
 obtain ⟨a16, ha16, h⟩ := b8 h
 refine AWP.j (W.loadAgg Z Z Z Z Z Z Z (.e Z Z (.E Z Z Z Z (ab6 ha16) Z (.e Z Z (.ah Z Z Z (.ah Z Z Z (.ah Z Z Z (.ah Z Z Z (W.alloc Z Z Z Z (.q Z Z (.q Z Z (.q Z Z (W.storeAgg Z Z Z Z Z Z Z (.nil (b5 (.g ?_))))))))))))))))
 obtain ⟨a23, ha23, h⟩ := b8 h
 refine AWP.j (W.loadAgg Z Z Z Z Z Z Z (.e Z Z (.E Z Z Z Z (af3 ha23) Z (W.alloc Z Z Z Z (W.storeAgg Z Z Z Z Z Z Z (.nil (b5 (.g (.g (.j (W.fieldAddr Z Z Z Z (.z Z Z Z Z Z Z (.neq Z Z Z (.nil (b5 (.iteN Z h (fun hc3 h => ?_) (fun hc3 h => ?_)))))))))))))))))
 ·obtain ⟨t4, hx5, h⟩ := b8 h
  refine AWP.seqJ (⟨[(4, .c (bool t4))], []⟩) ?_ ?_
  ·rcases bft ((decide (a16.2.2.2.code = a23.code)) && (decide (a16.2.2.2.index = a23.index))) with hb6 | hb6
   ·replace hx5 := A9 hb6 hx5
    rcases bft (!a16.2.2.1) with hb7 | hb7
    ·replace hx5 := A9 hb7 hx5
     rcases bft (decide (a16.2.1 = 0)) with hb8 | hb8
     ·replace hx5 := x5 hb8 hx5
      rcases bft (decide ((a16.1.length : Int) = 0)) with hb9 | hb9
      ·replace hx5 := x5 hb9 hx5
       obtain ⟨a44, ha44, hx5⟩ := b8 hx5
       refine AWP.j (W.loadAgg Z Z Z Z Z Z Z (W.loadAgg Z Z Z Z Z Z Z (.eqlP Z Z Z Z Z Z Z (.e Z Z (.u Z Z Z hb6 (.e Z Z (.u Z Z Z hb6 (.ab Z Z (.J Z hb6 Z Z (.e Z Z (.u Z Z Z hb7 (.e Z Z (.u Z Z Z hb7 (.aa Z Z Z (.J Z hb7 Z Z (.e Z Z (.u Z Z Z hb8 (.e Z Z ?_))))))))))))))))))
       refine AOps.u Z Z Z hb8 ?_; refine S.len Z Z (fun hl40 => ?_)
       refine AOps.u Z Z Z hb8 (.aa Z Z Z (.J Z hb8 Z Z (.e Z Z (.u Z Z Z hb9 (.E Z Z Z Z (K3 ha44) Z (.J Z hb9 Z Z (.q Z Z (.nil ?_))))))))
       obtain rfl := oi hx5
       refine b5 (Sub.cut ⟨Z, Y⟩ Z trivial Z)
      ·replace hx5 := x4 hb9 hx5
       refine AWP.j (W.loadAgg Z Z Z Z Z Z Z (W.loadAgg Z Z Z Z Z Z Z (.eqlP Z Z Z Z Z Z Z (.e Z Z (.u Z Z Z hb6 (.e Z Z (.u Z Z Z hb6 (.ab Z Z (.J Z hb6 Z Z (.e Z Z (.u Z Z Z hb7 (.e Z Z (.u Z Z Z hb7 (.aa Z Z Z (.J Z hb7 Z Z (.e Z Z (.u Z Z Z hb8 (.e Z Z ?_))))))))))))))))))
       refine AOps.u Z Z Z hb8 ?_; refine S.len Z Z (fun hl40 => ?_)
       refine AOps.u Z Z Z hb8 (.aa Z Z Z (.J Z hb8 Z Z (.e Z Z (.v Z Z Z hb9 (.O Z hb9 Z Z (.q Z Z (.nil ?_)))))))
       obtain rfl := oi hx5
       refine b5 (Sub.cut ⟨Z, Y⟩ Z trivial Z)
     ·replace hx5 := x4 hb8 hx5
      refine AWP.j (W.loadAgg Z Z Z Z Z Z Z (W.loadAgg Z Z Z Z Z Z Z (.eqlP Z Z Z Z Z Z Z (.e Z Z (.u Z Z Z hb6 (.e Z Z (.u Z Z Z hb6 (.ab Z Z (.J Z hb6 Z Z (.e Z Z (.u Z Z Z hb7 (.e Z Z (.u Z Z Z hb7 (.aa Z Z Z (.J Z hb7 Z Z (.e Z Z (.v Z Z Z hb8 (.v Z Z Z hb8 (.v Z Z Z hb8 (.O Z hb8 Z Z (.e Z Z (.v Z Z Z Z (.O Z Z Z Z (.q Z Z (.nil ?_)))))))))))))))))))))))))
      obtain rfl := oi hx5
      refine b5 (Sub.cut ⟨Z, Y⟩ Z trivial Z)
    ·replace hx5 := A7 hb7 hx5
     refine AWP.j (W.loadAgg Z Z Z Z Z Z Z (W.loadAgg Z Z Z Z Z Z Z (.eqlP Z Z Z Z Z Z Z (.e Z Z (.u Z Z Z hb6 (.e Z Z (.u Z Z Z hb6 (.ab Z Z (.J Z hb6 Z Z (.e Z Z (.v Z Z Z hb7 (.v Z Z Z hb7 (.O Z hb7 Z Z (.e Z Z (.v Z Z Z Z (.v Z Z Z Z (.v Z Z Z Z (.O Z Z Z Z (.e Z Z (.v Z Z Z Z (.O Z Z Z Z (.q Z Z (.nil ?_)))))))))))))))))))))))
     obtain rfl := oi hx5
     refine b5 (Sub.cut ⟨Z, Y⟩ Z trivial Z)
   ·replace hx5 := A7 hb6 hx5
    refine AWP.j (W.loadAgg Z Z Z Z Z Z Z (W.loadAgg Z Z Z Z Z Z Z (.eqlP Z Z Z Z Z Z Z (.e Z Z (.v Z Z Z hb6 (.v Z Z Z hb6 (.O Z hb6 Z Z (.e Z Z (.v Z Z Z Z (.v Z Z Z Z (.O Z Z Z Z (.e Z Z (.v Z Z Z Z (.v Z Z Z Z (.v Z Z Z Z (.O Z Z Z Z (.e Z Z (.v Z Z Z Z (.O Z Z Z Z (.q Z Z (.nil ?_)))))))))))))))))))))
    obtain rfl := oi hx5
    refine b5 (Sub.cut ⟨Z, Y⟩ Z trivial Z)
  ·refine AWP.ret (d4 ?_)
   obtain rfl := oi h
   exact Done.ret Z Z
 ·refine AWP.skip (b5 (.g ?_))
  obtain ⟨a48, ha48, h⟩ := b8 h
  refine AWP.j (W.loadAgg Z Z Z Z Z Z Z (.E Z Z Z Z (ref1_Reached_ok ha48) Z (.e Z Z (.ah Z Z Z (.ah Z Z Z (.q Z Z (.q Z Z (.nil (b5 (.g (.seqJ (⟨[(1, .c (row 1 intI plan)), (2, .c (.ptr 0 0 0)), (5, .c (row 1 intI a16.1)), (6, .c (int a16.2.1)), (7, .c (bool a16.2.2.1)), (8, .c (.ptr 1 0 0)), (10, .c (row 1 e7 a48.1)), (62, .c (bool (((!a48.2) || (decide (35 < (a48.1.length : Int)))) || (decide (12 < (plan.length : Int))))))], [.one (.cells 4 [(tT t)]), .one (.cells 2 [[int a16.2.2.2.code, int a16.2.2.2.index]]), .one (.cells 2 [[int a23.code, int a23.index]])]⟩) ?_ ?_)))))))))))
  ·rcases bft (!a48.2) with hb1 | hb1
   ·refine AWP.j (.e Z Z (.ab Z Z (.e Z Z (.v Z Z Z hb1 (.v Z Z Z hb1 (.v Z Z Z hb1 (.J Z hb1 Z Z (.e Z Z (.v Z Z Z Z (.v Z Z Z Z (.v Z Z Z Z (.J Z Z Z Z (.nil (b5 ?_))))))))))))))
    simp only [and_t hb1, or_t hb1, Bool.false_or, Bool.true_or, Bool.false_and, Bool.true_and]
    exact Sub.env ⟨Z, Z, Z, Z, Z, Z, Z, Z, Y⟩
   ·rcases bft (decide (35 < (a48.1.length : Int))) with hb2 | hb2
    ·refine AWP.j (.e Z Z (.ab Z Z (.e Z Z (.u Z Z Z hb1 (.e Z Z ?_)))))
     refine AOps.u Z Z Z hb1 ?_; refine S.len Z Z (fun hl55 => ?_)
     refine AOps.u Z Z Z hb1 (.gtr Z Z Z (.O Z hb1 Z Z (.e Z Z (.v Z Z Z hb2 (.v Z Z Z hb2 (.v Z Z Z hb2 (.J Z hb2 Z Z (.nil (b5 ?_)))))))))
     simp only [and_f hb1, or_f hb1, and_t hb2, or_t hb2, Bool.false_or, Bool.true_or, Bool.false_and, Bool.true_and]
     exact Sub.env ⟨Z, Z, Z, Z, Z, Z, Z, Z, Y⟩
    ·refine AWP.j (.e Z Z (.ab Z Z (.e Z Z (.u Z Z Z hb1 (.e Z Z ?_)))))
     refine AOps.u Z Z Z hb1 ?_; refine S.len Z Z (fun hl55 => ?_)
     refine AOps.u Z Z Z hb1 (.gtr Z Z Z (.O Z hb1 Z Z (.e Z Z (.u Z Z Z hb2 (.e Z Z ?_)))))
     refine AOps.u Z Z Z hb2 ?_; refine S.len Z Z (fun hl60 => ?_)
     refine AOps.u Z Z Z hb2 (.gtr Z Z Z (.O Z hb2 Z Z (.nil (b5 ?_))))
     simp only [and_f hb1, or_f hb1, and_f hb2, or_f hb2, Bool.false_or, Bool.true_or, Bool.false_and, Bool.true_and]
     exact Sub.env ⟨Z, Z, Z, Z, Z, Z, Z, Z, Y⟩
  ·refine AWP.ag Z h (fun hc10 h => ?_) (fun hc10 h => ?_)
   ·refine AWP.g ?_
    obtain ⟨a63, ha63, h⟩ := b8 h
    refine AWP.j (.E Z Z Z Z (K3 ha63) Z (.q Z Z (.nil (b5 (.ret (d4 ?_))))))
    obtain rfl := oi h
    exact Done.ret Z Z
   ·refine AWP.skip (b5 (.g ?_))
    obtain ⟨a67, ha67, h⟩ := b8 h
    refine AWP.j (W.loadAgg Z Z Z Z Z Z Z (.e Z Z (.e Z Z (.E Z Z Z Z (ref8_Nearest_ok ha67) Z (.q Z Z (.nil (b5 (.g (.g (.j (.e Z Z (.geq Z Z Z (.nil (b5 (.ite Z h (fun hc11 h => ?_) (fun hc11 h => ?_))))))))))))))))
    ·obtain ⟨t12, hx13, h⟩ := b8 h
     refine AWP.seqJ (⟨[(4, .c (bool t12))], []⟩) ?_ ?_
     ·rcases bft (decide (a16.2.2.2.code = 0)) with hb14 | hb14
      ·replace hx13 := x5 hb14 hx13
       rcases bft (!a16.2.2.1) with hb15 | hb15
       ·replace hx13 := A9 hb15 hx13
        rcases bft (decide (a16.2.1 = 0)) with hb16 | hb16
        ·replace hx13 := x5 hb16 hx13
         rcases bft (decide ((a16.1.length : Int) = 0)) with hb17 | hb17
         ·replace hx13 := x5 hb17 hx13
          obtain ⟨a87, ha87, hx13⟩ := b8 hx13
          refine AWP.j (W.fieldAddr Z Z Z Z (.z Z Z Z Z Z Z (.aa Z Z Z (.e Z Z (.u Z Z Z hb14 (.e Z Z (.u Z Z Z hb14 (.ab Z Z (.J Z hb14 Z Z (.e Z Z (.u Z Z Z hb15 (.e Z Z (.u Z Z Z hb15 (.aa Z Z Z (.J Z hb15 Z Z (.e Z Z (.u Z Z Z hb16 (.e Z Z ?_))))))))))))))))))
          refine AOps.u Z Z Z hb16 ?_; refine S.len Z Z (fun hl83 => ?_)
          refine AOps.u Z Z Z hb16 (.aa Z Z Z (.J Z hb16 Z Z (.e Z Z (.u Z Z Z hb17 (.E Z Z Z Z (K3 ha87) Z (.J Z hb17 Z Z (.q Z Z (.nil ?_))))))))
          obtain rfl := oi hx13
          refine b5 (Sub.cut ⟨Z, Y⟩ Z trivial Z)
         ·replace hx13 := x4 hb17 hx13
          refine AWP.j (W.fieldAddr Z Z Z Z (.z Z Z Z Z Z Z (.aa Z Z Z (.e Z Z (.u Z Z Z hb14 (.e Z Z (.u Z Z Z hb14 (.ab Z Z (.J Z hb14 Z Z (.e Z Z (.u Z Z Z hb15 (.e Z Z (.u Z Z Z hb15 (.aa Z Z Z (.J Z hb15 Z Z (.e Z Z (.u Z Z Z hb16 (.e Z Z ?_))))))))))))))))))
          refine AOps.u Z Z Z hb16 ?_; refine S.len Z Z (fun hl83 => ?_)
          refine AOps.u Z Z Z hb16 (.aa Z Z Z (.J Z hb16 Z Z (.e Z Z (.v Z Z Z hb17 (.O Z hb17 Z Z (.q Z Z (.nil ?_)))))))
          obtain rfl := oi hx13
          refine b5 (Sub.cut ⟨Z, Y⟩ Z trivial Z)
        ·replace hx13 := x4 hb16 hx13
         refine AWP.j (W.fieldAddr Z Z Z Z (.z Z Z Z Z Z Z (.aa Z Z Z (.e Z Z (.u Z Z Z hb14 (.e Z Z (.u Z Z Z hb14 (.ab Z Z (.J Z hb14 Z Z (.e Z Z (.u Z Z Z hb15 (.e Z Z (.u Z Z Z hb15 (.aa Z Z Z (.J Z hb15 Z Z (.e Z Z (.v Z Z Z hb16 (.v Z Z Z hb16 (.v Z Z Z hb16 (.O Z hb16 Z Z (.e Z Z (.v Z Z Z Z (.O Z Z Z Z (.q Z Z (.nil ?_)))))))))))))))))))))))))
         obtain rfl := oi hx13
         refine b5 (Sub.cut ⟨Z, Y⟩ Z trivial Z)
       ·replace hx13 := A7 hb15 hx13
        refine AWP.j (W.fieldAddr Z Z Z Z (.z Z Z Z Z Z Z (.aa Z Z Z (.e Z Z (.u Z Z Z hb14 (.e Z Z (.u Z Z Z hb14 (.ab Z Z (.J Z hb14 Z Z (.e Z Z (.v Z Z Z hb15 (.v Z Z Z hb15 (.O Z hb15 Z Z (.e Z Z (.v Z Z Z Z (.v Z Z Z Z (.v Z Z Z Z (.O Z Z Z Z (.e Z Z (.v Z Z Z Z (.O Z Z Z Z (.q Z Z (.nil ?_)))))))))))))))))))))))
        obtain rfl := oi hx13
        refine b5 (Sub.cut ⟨Z, Y⟩ Z trivial Z)
      ·replace hx13 := x4 hb14 hx13
       refine AWP.j (W.fieldAddr Z Z Z Z (.z Z Z Z Z Z Z (.aa Z Z Z (.e Z Z (.v Z Z Z hb14 (.v Z Z Z hb14 (.O Z hb14 Z Z (.e Z Z (.v Z Z Z Z (.v Z Z Z Z (.O Z Z Z Z (.e Z Z (.v Z Z Z Z (.v Z Z Z Z (.v Z Z Z Z (.O Z Z Z Z (.e Z Z (.v Z Z Z Z (.O Z Z Z Z (.q Z Z (.nil ?_)))))))))))))))))))))
       obtain rfl := oi hx13
       refine b5 (Sub.cut ⟨Z, Y⟩ Z trivial Z)
     ·refine AWP.ret (d4 ?_)
      obtain rfl := oi h
      exact Done.ret Z Z
    ·refine AWP.skip (b5 ?_)
     obtain ⟨t18, hx19, h⟩ := b8 h
     refine AWP.seqJ (⟨[(4, .c (bool t18))], []⟩) ?_ ?_
     ·rcases bft (decide (a16.2.2.2.code = 0)) with hb20 | hb20
      ·replace hx19 := x5 hb20 hx19
       rcases bft (a16.2.2.1) with hb21 | hb21
       ·replace hx19 := A9 hb21 hx19
        rcases bft (decide (a16.2.1 = a67)) with hb22 | hb22
        ·replace hx19 := x5 hb22 hx19
         obtain ⟨a105, ha105, hx19⟩ := b8 hx19
         rcases bft (decide (a105.code = 0)) with hb23 | hb23
         ·replace hx19 := x5 hb23 hx19
          obtain ⟨a112, ha112, hx19⟩ := b8 hx19
          rcases bft (a112) with hb24 | hb24
          ·replace hx19 := A9 hb24 hx19
           obtain ⟨a117, ha117, hx19⟩ := b8 hx19
           rcases bft (decide (a117 = a16.2.1)) with hb25 | hb25
           ·replace hx19 := x5 hb25 hx19
            obtain ⟨a122, ha122, hx19⟩ := b8 hx19
            refine AWP.j (W.fieldAddr Z Z Z Z (.z Z Z Z Z Z Z (.aa Z Z Z (.e Z Z (.u Z Z Z hb20 (.e Z Z (.J Z hb20 Z Z (.e Z Z (.u Z Z Z hb21 (.e Z Z (.u Z Z Z hb21 (.e Z Z (.u Z Z Z hb21 (.aa Z Z Z (.J Z hb21 Z Z (.e Z Z (.u Z Z Z hb22 (W.fieldAddr Z Z Z Z (.u Z Z Z hb22 (.z Z Z Z Z Z Z ?_))))))))))))))))))))
            refine AOps.u Z Z Z hb22 ?_; refine S.len Z Z (fun hl103 => ?_)
            refine AOps.u Z Z Z hb22 (.e Z Z (.u Z Z Z hb22 (.E Z Z Z Z (B2 ha105) Z (.u Z Z Z hb22 (W.field Z Z Z Z (.u Z Z Z hb22 (.aa Z Z Z (.J Z hb22 Z Z (.e Z Z (.u Z Z Z hb23 (W.loadAgg Z Z Z Z Z Z Z (.u Z Z Z hb23 (.e Z Z (.u Z Z Z hb23 (.E Z Z Z Z (S6 ha112) Z (.J Z hb23 Z Z (.e Z Z (.u Z Z Z hb24 (.e Z Z (.u Z Z Z hb24 (.e Z Z (.u Z Z Z hb24 (.E Z Z Z Z (ad1 ha117) Z (.u Z Z Z hb24 (.e Z Z (.u Z Z Z hb24 (.aa Z Z Z (.J Z hb24 Z Z (.e Z Z (.u Z Z Z hb25 (.E Z Z Z Z (K3 ha122) Z (.J Z hb25 Z Z (.q Z Z (.nil ?_))))))))))))))))))))))))))))))))))
            obtain rfl := oi hx19
            refine b5 (Sub.cut ⟨Z, Y⟩ Z trivial Z)
           ·replace hx19 := x4 hb25 hx19
            refine AWP.j (W.fieldAddr Z Z Z Z (.z Z Z Z Z Z Z (.aa Z Z Z (.e Z Z (.u Z Z Z hb20 (.e Z Z (.J Z hb20 Z Z (.e Z Z (.u Z Z Z hb21 (.e Z Z (.u Z Z Z hb21 (.e Z Z (.u Z Z Z hb21 (.aa Z Z Z (.J Z hb21 Z Z (.e Z Z (.u Z Z Z hb22 (W.fieldAddr Z Z Z Z (.u Z Z Z hb22 (.z Z Z Z Z Z Z ?_))))))))))))))))))))
            refine AOps.u Z Z Z hb22 ?_; refine S.len Z Z (fun hl103 => ?_)
            refine AOps.u Z Z Z hb22 (.e Z Z (.u Z Z Z hb22 (.E Z Z Z Z (B2 ha105) Z (.u Z Z Z hb22 (W.field Z Z Z Z (.u Z Z Z hb22 (.aa Z Z Z (.J Z hb22 Z Z (.e Z Z (.u Z Z Z hb23 (W.loadAgg Z Z Z Z Z Z Z (.u Z Z Z hb23 (.e Z Z (.u Z Z Z hb23 (.E Z Z Z Z (S6 ha112) Z (.J Z hb23 Z Z (.e Z Z (.u Z Z Z hb24 (.e Z Z (.u Z Z Z hb24 (.e Z Z (.u Z Z Z hb24 (.E Z Z Z Z (ad1 ha117) Z (.u Z Z Z hb24 (.e Z Z (.u Z Z Z hb24 (.aa Z Z Z (.J Z hb24 Z Z (.e Z Z (.v Z Z Z hb25 (.O Z hb25 Z Z (.q Z Z (.nil ?_)))))))))))))))))))))))))))))))))
            obtain rfl := oi hx19
            refine b5 (Sub.cut ⟨Z, Y⟩ Z trivial Z)
          ·replace hx19 := A7 hb24 hx19
           refine AWP.j (W.fieldAddr Z Z Z Z (.z Z Z Z Z Z Z (.aa Z Z Z (.e Z Z (.u Z Z Z hb20 (.e Z Z (.J Z hb20 Z Z (.e Z Z (.u Z Z Z hb21 (.e Z Z (.u Z Z Z hb21 (.e Z Z (.u Z Z Z hb21 (.aa Z Z Z (.J Z hb21 Z Z (.e Z Z (.u Z Z Z hb22 (W.fieldAddr Z Z Z Z (.u Z Z Z hb22 (.z Z Z Z Z Z Z ?_))))))))))))))))))))
           refine AOps.u Z Z Z hb22 ?_; refine S.len Z Z (fun hl103 => ?_)
           refine AOps.u Z Z Z hb22 (.e Z Z (.u Z Z Z hb22 (.E Z Z Z Z (B2 ha105) Z (.u Z Z Z hb22 (W.field Z Z Z Z (.u Z Z Z hb22 (.aa Z Z Z (.J Z hb22 Z Z (.e Z Z (.u Z Z Z hb23 (W.loadAgg Z Z Z Z Z Z Z (.u Z Z Z hb23 (.e Z Z (.u Z Z Z hb23 (.E Z Z Z Z (S6 ha112) Z (.J Z hb23 Z Z (.e Z Z (.v Z Z Z hb24 (.v Z Z Z hb24 (.v Z Z Z hb24 (.v Z Z Z hb24 (.v Z Z Z hb24 (.O Z hb24 Z Z (.e Z Z (.v Z Z Z Z (.O Z Z Z Z (.q Z Z (.nil ?_))))))))))))))))))))))))))))
           obtain rfl := oi hx19
           refine b5 (Sub.cut ⟨Z, Y⟩ Z trivial Z)
         ·replace hx19 := x4 hb23 hx19
          refine AWP.j (W.fieldAddr Z Z Z Z (.z Z Z Z Z Z Z (.aa Z Z Z (.e Z Z (.u Z Z Z hb20 (.e Z Z (.J Z hb20 Z Z (.e Z Z (.u Z Z Z hb21 (.e Z Z (.u Z Z Z hb21 (.e Z Z (.u Z Z Z hb21 (.aa Z Z Z (.J Z hb21 Z Z (.e Z Z (.u Z Z Z hb22 (W.fieldAddr Z Z Z Z (.u Z Z Z hb22 (.z Z Z Z Z Z Z ?_))))))))))))))))))))
          refine AOps.u Z Z Z hb22 ?_; refine S.len Z Z (fun hl103 => ?_)
          refine AOps.u Z Z Z hb22 (.e Z Z (.u Z Z Z hb22 (.E Z Z Z Z (B2 ha105) Z (.u Z Z Z hb22 (W.field Z Z Z Z (.u Z Z Z hb22 (.aa Z Z Z (.J Z hb22 Z Z (.e Z Z (.v Z Z Z hb23 (.v Z Z Z hb23 (.v Z Z Z hb23 (.O Z hb23 Z Z (.e Z Z (.v Z Z Z Z (.v Z Z Z Z (.v Z Z Z Z (.v Z Z Z Z (.v Z Z Z Z (.O Z Z Z Z (.e Z Z (.v Z Z Z Z (.O Z Z Z Z (.q Z Z (.nil ?_)))))))))))))))))))))))))
          obtain rfl := oi hx19
          refine b5 (Sub.cut ⟨Z, Y⟩ Z trivial Z)
        ·replace hx19 := x4 hb22 hx19
         refine AWP.j (W.fieldAddr Z Z Z Z (.z Z Z Z Z Z Z (.aa Z Z Z (.e Z Z (.u Z Z Z hb20 (.e Z Z (.J Z hb20 Z Z (.e Z Z (.u Z Z Z hb21 (.e Z Z (.u Z Z Z hb21 (.e Z Z (.u Z Z Z hb21 (.aa Z Z Z (.J Z hb21 Z Z (.e Z Z (.v Z Z Z hb22 (.v Z Z Z hb22 (.v Z Z Z hb22 (.v Z Z Z hb22 (.v Z Z Z hb22 (.v Z Z Z hb22 (.v Z Z Z hb22 (.O Z hb22 Z Z (.e Z Z (.v Z Z Z Z (.v Z Z Z Z (.v Z Z Z Z (.O Z Z Z Z (.e Z Z (.v Z Z Z Z (.v Z Z Z Z (.v Z Z Z Z (.v Z Z Z Z (.v Z Z Z Z (.O Z Z Z Z (.e Z Z (.v Z Z Z Z (.O Z Z Z Z (.q Z Z (.nil ?_)))))))))))))))))))))))))))))))))))))))))
         obtain rfl := oi hx19
         refine b5 (Sub.cut ⟨Z, Y⟩ Z trivial Z)
       ·replace hx19 := A7 hb21 hx19
        refine AWP.j (W.fieldAddr Z Z Z Z (.z Z Z Z Z Z Z (.aa Z Z Z (.e Z Z (.u Z Z Z hb20 (.e Z Z (.J Z hb20 Z Z (.e Z Z (.v Z Z Z hb21 (.v Z Z Z hb21 (.v Z Z Z hb21 (.O Z hb21 Z Z (.e Z Z (.v Z Z Z Z (.v Z Z Z Z (.v Z Z Z Z (.v Z Z Z Z (.v Z Z Z Z (.v Z Z Z Z (.v Z Z Z Z (.O Z Z Z Z (.e Z Z (.v Z Z Z Z (.v Z Z Z Z (.v Z Z Z Z (.O Z Z Z Z (.e Z Z (.v Z Z Z Z (.v Z Z Z Z (.v Z Z Z Z (.v Z Z Z Z (.v Z Z Z Z (.O Z Z Z Z (.e Z Z (.v Z Z Z Z (.O Z Z Z Z (.q Z Z (.nil ?_))))))))))))))))))))))))))))))))))))))
        obtain rfl := oi hx19
        refine b5 (Sub.cut ⟨Z, Y⟩ Z trivial Z)
      ·replace hx19 := x4 hb20 hx19
       refine AWP.j (W.fieldAddr Z Z Z Z (.z Z Z Z Z Z Z (.aa Z Z Z (.e Z Z (.v Z Z Z hb20 (.O Z hb20 Z Z (.e Z Z (.v Z Z Z Z (.v Z Z Z Z (.v Z Z Z Z (.O Z Z Z Z (.e Z Z (.v Z Z Z Z (.v Z Z Z Z (.v Z Z Z Z (.v Z Z Z Z (.v Z Z Z Z (.v Z Z Z Z (.v Z Z Z Z (.O Z Z Z Z (.e Z Z (.v Z Z Z Z (.v Z Z Z Z (.v Z Z Z Z (.O Z Z Z Z (.e Z Z (.v Z Z Z Z (.v Z Z Z Z (.v Z Z Z Z (.v Z Z Z Z (.v Z Z Z Z (.O Z Z Z Z (.e Z Z (.v Z Z Z Z (.O Z Z Z Z (.q Z Z (.nil ?_)))))))))))))))))))))))))))))))))))))
       obtain rfl := oi hx19
       refine b5 (Sub.cut ⟨Z, Y⟩ Z trivial Z)
     ·refine AWP.ret ?_
      obtain rfl := oi h
      exact Done.ret Z Z
end Ab
end
section
namespace Ab
open Go
theorem o6 {α : Type} {l : List α} {k : Nat} : ix l (k : Int) = l[k]? := by simp [ix]
theorem i9 {α : Type} {l : List α} {i : Int} (h0 : 0 ≤ i) (h1 : i < l.length) : ∃ a, ix l i = some a ∧ l[i.toNat]? = some a := by
 have h : i.toNat < l.length := by omega
 exact ⟨l[i.toNat], by simp [ix, h0, h], by simp [h]⟩
theorem j7 {α : Type} {l : List α} {i : Int} {a : α} (h : ix l i = some a) : 0 ≤ i ∧ i < l.length ∧ l[i.toNat]? = some a := by
 unfold ix at h
 split at h
 ·have := (List.getElem?_eq_some_iff.1 h).1
  exact ⟨by assumption, by omega, h⟩
 ·cases h
theorem k8 {n : Int} (h1 : -9223372036854775808 ≤ n) (h2 : n ≤ 9223372036854775807) : w64 n = n := w64_eq ⟨h1, h2⟩
theorem forN_inv {S : Type} {body : Int → S → Option S} (P : Int → S → Prop) : ∀ (k : Nat) (i : Int) (s : S), P i s →
  (∀ j s, i ≤ j → j < i + k → P j s → ∃ s', body j s = some s' ∧ P (j + 1) s') → ∃ s', forN body k i s = some s' ∧ P (i + k) s'
 | 0, i, s, h, _ => ⟨s, rfl, by simpa using h⟩
 | k + 1, i, s, h, hb => by
  obtain ⟨s1, h1, h2⟩ := hb i s (Int.le_refl _) (by omega) h
  obtain ⟨s2, h3, h4⟩ := forN_inv P k (i + 1) s1 h2 (fun j s g1 g2 => hb j s (by omega) (by omega))
  exact ⟨s2, by simp only [forN, h1]; exact h3, by rw [show i + ((k + 1 : Nat) : Int) = i + 1 + k by omega]; exact h4⟩
theorem C9 {S : Type} {body : Int → S → Option S} {n : Int} (P : Int → S → Prop) {s : S} (hn : 0 ≤ n) (h0 : P 0 s)
  (hb : ∀ j s, 0 ≤ j → j < n → P j s → ∃ s', body j s = some s' ∧ P (j + 1) s') : ∃ s', forR 0 n body s = some s' ∧ P n s' := by
 obtain ⟨s', h1, h2⟩ := forN_inv P (n - 0).toNat 0 s h0 (fun j s g1 g2 => hb j s g1 (by omega))
 exact ⟨s', h1, by rwa [show (0 : Int) + ((n - 0).toNat : Int) = n by omega] at h2⟩
theorem rngN_inv {S O : Type} {body : Int → S → Option (S ⊕ O)} (P : Int → S → Prop) (Q : O → Prop) : ∀ (k : Nat) (i : Int) (s : S), P i s →
  (∀ j s, i ≤ j → j < i + k → P j s → (∃ s', body j s = some (.inl s') ∧ P (j + 1) s') ∨ ∃ o, body j s = some (.inr o) ∧ Q o) →
  (∃ s', rngN body k i s = some (.inl s') ∧ P (i + k) s') ∨ ∃ o, rngN body k i s = some (.inr o) ∧ Q o
 | 0, i, s, h, _ => .inl ⟨s, rfl, by simpa using h⟩
 | k + 1, i, s, h, hb => by
  rcases hb i s (Int.le_refl _) (by omega) h with ⟨s1, h1, h2⟩ | ⟨o, h1, h2⟩
  ·rcases rngN_inv P Q k (i + 1) s1 h2 (fun j s g1 g2 => hb j s (by omega) (by omega)) with ⟨s2, h3, h4⟩ | ⟨o, h3, h4⟩
   ·exact .inl ⟨s2, by simp only [rngN, h1]; exact h3, by rw [show i + ((k + 1 : Nat) : Int) = i + 1 + k by omega]; exact h4⟩
   ·exact .inr ⟨o, by simp only [rngN, h1]; exact h3, h4⟩
  ·exact .inr ⟨o, by simp only [rngN, h1], h2⟩
theorem S9 {S O : Type} {body : Int → S → Option (S ⊕ O)} {n : Int} (P : Int → S → Prop) (Q : O → Prop) {s : S} (hn : 0 ≤ n) (h0 : P 0 s)
  (hb : ∀ j s, 0 ≤ j → j < n → P j s → (∃ s', body j s = some (.inl s') ∧ P (j + 1) s') ∨ ∃ o, body j s = some (.inr o) ∧ Q o) :
  (∃ s', rngX 0 n body s = some (.inl s') ∧ P n s') ∨ ∃ o, rngX 0 n body s = some (.inr o) ∧ Q o := by
 rcases rngN_inv P Q (n - 0).toNat 0 s h0 (fun j s g1 g2 => hb j s g1 (by omega)) with ⟨s', h1, h2⟩ | h
 ·exact .inl ⟨s', h1, by rwa [show (0 : Int) + ((n - 0).toNat : Int) = n by omega] at h2⟩
 ·exact .inr h
theorem LoopN_inv {S O : Type} {body : S → Option (S ⊕ O)} (P : S → Prop) (Q : O → Prop) (μ : S → Nat) (hb : ∀ s, P s → (∃ s', body s = some (.inl s') ∧ P s' ∧ μ s' < μ s) ∨ ∃ o, body s = some (.inr o) ∧ Q o) :
  ∀ (k : Nat) (s : S), μ s < k → P s → ∃ o, A5 body k s = some o ∧ Q o
 | 0, s, h, _ => by omega
 | k + 1, s, h, hs => by
  rcases hb s hs with ⟨s', h1, h2, h3⟩ | ⟨o, h1, h2⟩
  ·obtain ⟨o, g1, g2⟩ := LoopN_inv P Q μ hb k s' (by omega) h2
   exact ⟨o, by simp only [A5, h1]; exact g1, g2⟩
  ·exact ⟨o, by simp only [A5, h1], h2⟩
theorem G8 {S O : Type} {body : S → Option (S ⊕ O)} (P : S → Prop) (Q : O → Prop) (μ : S → Nat) {s : S} (hs : P s)
  (hb : ∀ s, P s → (∃ s', body s = some (.inl s') ∧ P s' ∧ μ s' < μ s) ∨ ∃ o, body s = some (.inr o) ∧ Q o) : ∃ o, Loop body s = some o ∧ Q o := by
 obtain ⟨o, h1, h2⟩ := LoopN_inv P Q μ hb (μ s + 1) s (by omega) hs
 exact ⟨o, S7.2 ⟨_, h1⟩, h2⟩
/-! ### Two loops that do the same -/
theorem rngN_eq {S O : Type} {b1 b2 : Int → S → Option (S ⊕ O)} (P : Int → S → Prop) : ∀ (k : Nat) (i : Int) (s : S), P i s →
  (∀ j s, i ≤ j → j < i + k → P j s → b1 j s = b2 j s ∧ b1 j s ≠ none ∧ ∀ s', b1 j s = some (.inl s') → P (j + 1) s') →
  rngN b1 k i s = rngN b2 k i s ∧ rngN b1 k i s ≠ none ∧ ∀ s', rngN b1 k i s = some (.inl s') → P (i + k) s'
 | 0, i, s, h, _ => ⟨rfl, by simp [rngN], fun s' hs => by simp only [rngN, Option.some.injEq, Sum.inl.injEq] at hs; subst hs; simpa using h⟩
 | k + 1, i, s, h, hb => by
  obtain ⟨h1, h2, h3⟩ := hb i s (Int.le_refl _) (by omega) h
  simp only [rngN]
  rw [← h1]
  cases hc : b1 i s with
  | none => exact absurd hc h2
  | some x =>
   cases x with
   | inr o => exact ⟨rfl, by simp, fun s' hs => by simp at hs⟩
   | inl s1 =>
    dsimp only
    have := rngN_eq (b1 := b1) (b2 := b2) P k (i + 1) s1 (h3 s1 hc) (fun j s g1 g2 => hb j s (by omega) (by omega))
    rwa [show i + 1 + (k : Int) = i + ((k + 1 : Nat) : Int) by omega] at this
theorem rngX_eq {S O : Type} {b1 b2 : Int → S → Option (S ⊕ O)} {n : Int} (P : Int → S → Prop) {s : S} (hn : 0 ≤ n) (h0 : P 0 s)
  (hb : ∀ j s, 0 ≤ j → j < n → P j s → b1 j s = b2 j s ∧ b1 j s ≠ none ∧ ∀ s', b1 j s = some (.inl s') → P (j + 1) s') :
  rngX 0 n b1 s = rngX 0 n b2 s ∧ rngX 0 n b1 s ≠ none ∧ ∀ s', rngX 0 n b1 s = some (.inl s') → P n s' := by
 have := rngN_eq P (n - 0).toNat 0 s h0 (fun j s g1 g2 => hb j s g1 (by omega))
 rwa [show (0 : Int) + ((n - 0).toNat : Int) = n by omega] at this
end Ab
end
section
namespace Ab
open Go
noncomputable def dec (p : Prop) : Bool := @decide p (Classical.propDecidable p)
@[simp] theorem g9 {p : Prop} : dec p = true ↔ p := by simp [dec]
@[simp] theorem dec_false {p : Prop} : dec p = false ↔ ¬ p := by simp [dec]
@[simp] theorem C7 {p : Prop} : (!dec p) = dec (¬ p) := by by_cases h : p <;> simp [dec, h]
theorem decide_dec {p : Prop} [Decidable p] : decide p = dec p := by by_cases h : p <;> simp [dec, h]
theorem i6 {p : Prop} (h : p) : dec p = true := g9.2 h
theorem n7 {p : Prop} (h : ¬ p) : dec p = false := dec_false.2 h
theorem Q9 {p q : Prop} (h : p ↔ q) : dec p = dec q := by rw [propext h]
theorem dec_and {p q : Prop} : (dec p && dec q) = dec (p ∧ q) := by by_cases h : p <;> by_cases g : q <;> simp [dec, h, g]
theorem ifP {α : Type} {p : Prop} {a b : α} (h : p) : (if dec p = true then a else b) = a := if_pos (i6 h)
theorem ifN {α : Type} {p : Prop} {a b : α} (h : ¬ p) : (if dec p = true then a else b) = b := if_neg fun g => h (g9.1 g)
theorem ifNN {α : Type} {p : Prop} {a b : α} (h : p) : (if dec (¬ p) = true then a else b) = b := ifN (not_not_intro h)
theorem p8 {α : Type} {l : List α} {i : Int} {a : α} (h : ix l i = some a) : a ∈ l := List.mem_of_getElem? (j7 h).2.2
theorem M3 {α : Type} {l : List α} {a : α} (h : a ∈ l) : ∃ i : Int, 0 ≤ i ∧ i < l.length ∧ ix l i = some a := by
 obtain ⟨k, hk⟩ := List.getElem?_of_mem h
 exact ⟨k, by omega, by have := (List.getElem?_eq_some_iff.1 hk).1; omega, by rw [o6, hk]⟩
theorem R6 {α : Type} {l : List α} {i j : Int} {x : α} (h0 : 0 ≤ i) (h1 : i < l.length) (hj : 0 ≤ j) : ix (l.set i.toNat x) j = if j = i then some x else ix l j := by
 simp only [ix, hj, if_true, List.getElem?_set]
 by_cases h : j = i
 ·subst h; rw [if_pos rfl, if_pos rfl, if_pos (by omega)]
 ·rw [if_neg h, if_neg (by omega)]
theorem F2 {O : Type} {body : Int → Unit → Option (Unit ⊕ O)} {n : Int} (g : Int → Option O) (hn : 0 ≤ n)
  (hb : ∀ j, 0 ≤ j → j < n → (∀ i, 0 ≤ i → i < j → g i = none) → body j () = some (match g j with | none => .inl () | some o => .inr o)) :
  (rngX 0 n body () = some (.inl ()) ∧ ∀ j, 0 ≤ j → j < n → g j = none) ∨ ∃ j o, 0 ≤ j ∧ j < n ∧ g j = some o ∧ (∀ i, 0 ≤ i → i < j → g i = none) ∧ rngX 0 n body () = some (.inr o) := by
 rcases S9 (body := body) (n := n) (fun j _ => ∀ i, 0 ≤ i → i < j → g i = none) (fun o => ∃ j, 0 ≤ j ∧ j < n ∧ g j = some o ∧ ∀ i, 0 ≤ i → i < j → g i = none) (s := ()) hn (fun i h1 h2 => by omega) (fun j s h0 h1 hP => by
  have := hb j h0 h1 hP
  cases hg : g j with
  | none => rw [hg] at this; exact .inl ⟨(), this, fun i h2 h3 => by
    rcases Int.lt_or_eq_of_le (Int.le_of_lt_add_one h3) with h | h
    ·exact hP i h2 h
    ·rw [h, hg]⟩
  | some o => rw [hg] at this; exact .inr ⟨o, this, j, h0, h1, hg, hP⟩) with ⟨s', h1, h2⟩ | ⟨o, h1, j, h2, h3, h4, h5⟩
 ·exact .inl ⟨h1, h2⟩
 ·exact .inr ⟨j, o, h2, h3, h4, h5, h1⟩
theorem T0 {α O : Type} {l : List α} {body : Int → Unit → Option (Unit ⊕ O)} (q : α → Prop) (b : O)
  (hb : ∀ j a, ix l j = some a → (q a ∧ body j () = some (.inl ())) ∨ (¬ q a ∧ body j () = some (.inr b))) :
  rngX 0 (l.length : Int) body () = some (if dec (∀ a ∈ l, q a) = true then .inl () else .inr b) := by
 rcases F2 (body := body) (n := (l.length : Int)) (fun j => match ix l j with | some a => if dec (q a) = true then none else some b | none => none) (by omega) (fun j h0 h1 _ => by
  obtain ⟨a, h2, _⟩ := i9 h0 h1
  rw [h2]
  rcases hb j a h2 with ⟨h3, h4⟩ | ⟨h3, h4⟩
  ·rw [h4]; simp [h3]
  ·rw [h4]; simp [h3]) with ⟨h1, h2⟩ | ⟨j, o, h0, h1, h2, _, h4⟩
 ·rw [h1, if_pos]
  rw [g9]
  intro a ha
  obtain ⟨i, g1, g2, g3⟩ := M3 ha
  have := h2 i g1 g2
  rw [g3] at this
  simpa using this
 ·rw [h4]
  obtain ⟨a, g1, _⟩ := i9 h0 h1
  rw [g1] at h2
  simp only [g9] at h2
  split at h2
  ·cases h2
  ·rename_i hq
   cases h2
   rw [if_neg]
   rw [g9]
   exact fun h => hq (i6 (h a (p8 g1)))
abbrev Inc (l : List Int) : Prop := l.Pairwise (· < ·)
theorem inc_of_adj : ∀ {l : List Int}, (∀ (k : Nat) a b, l[k]? = some a → l[k + 1]? = some b → a < b) → Inc l
 | [], _ => .nil
 | [_], _ => by simp
 | a :: b :: l, h => by
  have ih : Inc (b :: l) := inc_of_adj fun k x y h1 h2 => h (k + 1) x y (by simpa using h1) (by simpa using h2)
  have hab : a < b := h 0 a b rfl rfl
  refine List.pairwise_cons.2 ⟨fun c hc => ?_, ih⟩
  rcases List.mem_cons.1 hc with rfl | hc
  ·exact hab
  ·exact Int.lt_trans hab ((List.pairwise_cons.1 ih).1 c hc)
theorem Inc.get {l : List Int} (h : Inc l) {i j : Nat} {a b : Int} (hi : l[i]? = some a) (hj : l[j]? = some b) (hij : i < j) : a < b := by
 obtain ⟨h1, rfl⟩ := List.getElem?_eq_some_iff.1 hi
 obtain ⟨h2, rfl⟩ := List.getElem?_eq_some_iff.1 hj
 exact List.pairwise_iff_getElem.1 h i j h1 h2 hij
theorem Inc.ext : ∀ {l m : List Int}, Inc l → Inc m → (∀ x, x ∈ l ↔ x ∈ m) → l = m
 | [], [], _, _, _ => rfl
 | [], b :: m, _, _, h => absurd ((h b).2 (by simp)) (by simp)
 | a :: l, [], _, _, h => absurd ((h a).1 (by simp)) (by simp)
 | a :: l, b :: m, hl, hm, h => by
  obtain ⟨l1, l2⟩ := List.pairwise_cons.1 hl
  obtain ⟨m1, m2⟩ := List.pairwise_cons.1 hm
  have hab : a = b := by
   rcases List.mem_cons.1 ((h a).1 (by simp)) with e | e
   ·exact e
   ·rcases List.mem_cons.1 ((h b).2 (by simp)) with e' | e'
    ·exact e'.symm
    ·have := l1 b e'; have := m1 a e; omega
  subst hab
  rw [Inc.ext l2 m2 fun x => ⟨fun hx => ?_, fun hx => ?_⟩]
  ·rcases List.mem_cons.1 ((h x).1 (by simp [hx])) with e | e
   ·have := l1 x hx; omega
   ·exact e
  ·rcases List.mem_cons.1 ((h x).2 (by simp [hx])) with e | e
   ·have := m1 x hx; omega
   ·exact e
theorem Inc.filter {l : List Int} (h : Inc l) (p : Int → Bool) : Inc (l.filter p) := List.Pairwise.filter p h
def nums (lo : Int) : Nat → List Int
 | 0 => []
 | k + 1 => lo :: nums (lo + 1) k
theorem ac3 {x : Int} : ∀ {k : Nat} {lo : Int}, x ∈ nums lo k ↔ lo ≤ x ∧ x < lo + k
 | 0, lo => by simp [nums]
 | k + 1, lo => by
  rw [nums, List.mem_cons, ac3 (k := k)]
  omega
theorem inc_nums : ∀ (k : Nat) (lo : Int), Inc (nums lo k)
 | 0, _ => .nil
 | k + 1, lo => List.pairwise_cons.2 ⟨fun x hx => by have := ac3.1 hx; omega, inc_nums k (lo + 1)⟩
theorem len_nums : ∀ (k : Nat) (lo : Int), (nums lo k).length = k
 | 0, _ => rfl
 | k + 1, lo => by simp [nums, len_nums k]
noncomputable def H0 (p : Int → Prop) (n : Int) : List Int := (nums 0 n.toNat).filter fun x => dec (p x)
theorem M7 {p : Int → Prop} {n x : Int} : x ∈ H0 p n ↔ 0 ≤ x ∧ x < n ∧ p x := by
 rw [H0, List.mem_filter, ac3, g9]
 constructor
 ·rintro ⟨⟨h1, h2⟩, h3⟩; exact ⟨h1, by omega, h3⟩
 ·rintro ⟨h1, h2, h3⟩; exact ⟨⟨h1, by omega⟩, h3⟩
theorem Y6 (p : Int → Prop) (n : Int) : Inc (H0 p n) := (inc_nums _ _).filter _
theorem setOf_congr {p q : Int → Prop} {n : Int} (h : ∀ x, 0 ≤ x → x < n → (p x ↔ q x)) : H0 p n = H0 q n := by
 refine List.filter_congr fun x hx => Q9 ?_
 have := ac3.1 hx
 exact h x (by omega) (by omega)
def SetN (l : List Int) (n : Int) : Prop := Inc l ∧ ∀ x ∈ l, 0 ≤ x ∧ x < n
theorem setN_setOf (p : Int → Prop) (n : Int) : SetN (H0 p n) n := ⟨Y6 p n, fun x hx => by have := M7.1 hx; exact ⟨this.1, this.2.1⟩⟩
theorem SetN.eq {l : List Int} {n : Int} (h : SetN l n) : l = H0 (· ∈ l) n :=
 h.1.ext (Y6 _ _) fun x => ⟨fun hx => M7.2 ⟨(h.2 x hx).1, (h.2 x hx).2, hx⟩, fun hx => (M7.1 hx).2.2⟩
theorem SetN.eq_of {l : List Int} {n : Int} (h : SetN l n) {p : Int → Prop} (hp : ∀ x, 0 ≤ x → x < n → (x ∈ l ↔ p x)) : l = H0 p n :=
 h.eq.trans (setOf_congr hp)
theorem SetN.len {l : List Int} {n : Int} (h : SetN l n) : l.length ≤ n.toNat := by
 rw [h.eq, H0]
 exact Nat.le_trans (List.length_filter_le _ _) (Nat.le_of_eq (len_nums _ _))
theorem setN_nil (n : Int) : SetN [] n := ⟨.nil, by simp⟩
theorem forR_filter {α : Type} {l : List α} {b : Nat} {body : Int → List α → Option (List α)} (q : α → Prop)
  (hb : ∀ j a c, ix l j = some a → (q a → body j c = app b c [a]) ∧ (¬ q a → body j c = some c)) (c0 : List α) (hl : (c0.length + l.length) * b ≤ 140737488355328) :
  forR 0 (l.length : Int) body c0 = some (c0 ++ l.filter fun a => dec (q a)) := by
 obtain ⟨s', h1, h2⟩ := C9 (body := body) (n := (l.length : Int)) (s := c0) (fun j c => c = c0 ++ (l.take j.toNat).filter fun a => dec (q a)) (by omega) (by simp) (fun j c h0 h1 hP => by
  obtain ⟨a, g1, g2⟩ := i9 h0 h1
  have e : (j + 1).toNat = j.toNat + 1 := by omega
  have ht : l.take (j + 1).toNat = l.take j.toNat ++ [a] := by rw [e, List.take_add_one, g2]; rfl
  by_cases hq : q a
  ·have happ : app b c [a] = some (c ++ [a]) := by
    rw [app, if_pos]
    have h3 : ((l.take j.toNat).filter fun a => dec (q a)).length ≤ (l.take j.toNat).length := List.length_filter_le _ _
    rw [List.length_take] at h3
    have h5 : c.length + 1 ≤ c0.length + l.length := by rw [hP, List.length_append]; omega
    refine Nat.le_trans (Nat.mul_le_mul_right b ?_) hl
    simpa using h5
   refine ⟨c ++ [a], by rw [(hb j a c g1).1 hq, happ], ?_⟩
   rw [ht, List.filter_append, hP]
   simp [hq]
  ·refine ⟨c, (hb j a c g1).2 hq, ?_⟩
   rw [ht, List.filter_append, hP]
   simp [hq])
 rw [h1, h2]
 simp
theorem forR_setOf {b : Nat} {n : Int} {body : Int → List Int → Option (List Int)} (q : Int → Prop) (hn : 0 ≤ n) (hl : n.toNat * b ≤ 140737488355328)
  (hb : ∀ j c, 0 ≤ j → j < n → (q j → body j c = app b c [j]) ∧ (¬ q j → body j c = some c)) : forR 0 n body [] = some (H0 q n) := by
 obtain ⟨s', h1, h2⟩ := C9 (body := body) (n := n) (s := []) (fun j c => c = H0 q j) hn (by simp [H0, nums]) (fun j c h0 h1 hP => by
  have hs : H0 q (j + 1) = H0 q j ++ if dec (q j) = true then [j] else [] := by
   refine (Y6 q (j + 1)).ext ?_ fun x => ?_
   ·refine List.pairwise_append.2 ⟨Y6 _ _, by split <;> simp, fun a ha b hb => ?_⟩
    have := M7.1 ha
    split at hb
    ·simp at hb; omega
    ·cases hb
   ·rw [List.mem_append, M7, M7]
    by_cases hq : q j
    ·rw [if_pos (i6 hq)]
     simp only [List.mem_singleton]
     refine ⟨fun h => ?_, fun h => ?_⟩
     ·by_cases e : x = j
      ·exact .inr e
      ·exact .inl ⟨h.1, by omega, h.2.2⟩
     ·rcases h with h | rfl
      ·exact ⟨h.1, by omega, h.2.2⟩
      ·exact ⟨h0, by omega, hq⟩
    ·rw [if_neg (by simpa using hq)]
     simp only [List.not_mem_nil, or_false]
     refine ⟨fun h => ⟨h.1, ?_, h.2.2⟩, fun h => ⟨h.1, by omega, h.2.2⟩⟩
     rcases Int.lt_or_eq_of_le (Int.le_of_lt_add_one h.2.1) with e | e
     ·exact e
     ·rw [e] at h; exact absurd h.2.2 hq
  by_cases hq : q j
  ·refine ⟨c ++ [j], ?_, by rw [hs, hP, if_pos (i6 hq)]⟩
   rw [(hb j c h0 h1).1 hq, app, if_pos]
   have h3 : c.length ≤ j.toNat := by rw [hP]; exact (setN_setOf q j).len
   refine Nat.le_trans (Nat.mul_le_mul_right b ?_) hl
   simp; omega
  ·refine ⟨c, (hb j c h0 h1).2 hq, ?_⟩
   rw [hs, hP, if_neg (by simpa using hq), List.append_nil])
 rw [h1, h2]
end Ab
end
section
namespace Ab
open Go
theorem has_eq (l : List Int) (n : Int) : G7 l n = some (dec (n ∈ l)) := by
 unfold G7
 rw [T0 (l := l) (fun a => a ≠ n) true (fun j a h => by
  unfold aa2
  rw [h]
  by_cases e : a = n <;> simp [e])]
 by_cases h : n ∈ l
 ·rw [if_neg (by simp only [g9]; exact fun g => g n h rfl)]
  simp [h]
 ·rw [if_pos (by simp only [g9]; exact fun a ha e => h (e ▸ ha))]
  simp [h]
theorem Y8 (part l : List Int) : G6 part l = some (dec (∀ x ∈ part, x ∈ l)) := by
 unfold G6
 rw [T0 (l := part) (fun a => a ∈ l) false (fun j a h => by
  unfold S8
  rw [h]
  by_cases e : a ∈ l <;> simp [e, has_eq])]
 by_cases h : ∀ x ∈ part, x ∈ l
 ·rw [if_pos (i6 h), i6 h]; rfl
 ·rw [if_neg (by rw [n7 h]; simp), n7 h]; rfl
theorem disjoint_eq (a b : List Int) : I4 a b = some (dec (∀ x ∈ a, x ∉ b)) := by
 unfold I4
 rw [T0 (l := a) (fun x => x ∉ b) false (fun j x h => by
  unfold Q0
  rw [h]
  by_cases e : x ∈ b <;> simp [e, has_eq])]
 by_cases h : ∀ x ∈ a, x ∉ b
 ·rw [if_pos (i6 h), i6 h]; rfl
 ·rw [if_neg (by rw [n7 h]; simp), n7 h]; rfl
theorem in_eq (n lo hi : Int) : Q8 n lo hi = some (dec (lo ≤ n ∧ n ≤ hi)) := by
 unfold Q8; rw [decide_dec, decide_dec, dec_and]
theorem at_eq (c i : Int) : H6 c i = some ⟨c, i⟩ := rfl
def stepOk (l : List Int) (n j : Int) : Prop := ∀ a, ix l j = some a → (0 ≤ a ∧ a < n) ∧ ∀ b, 0 < j → ix l (j - 1) = some b → b < a
theorem V9 {l : List Int} {n : Int} : (∀ j : Int, 0 ≤ j → j < l.length → stepOk l n j) ↔ SetN l n := by
 constructor
 ·intro h
  refine ⟨inc_of_adj fun k a b h1 h2 => ?_, fun x hx => ?_⟩
  ·have hk := (List.getElem?_eq_some_iff.1 h2).1
   have := (h ((k + 1 : Nat) : Int) (by omega) (by omega) b (by rw [o6]; exact h2)).2 a (by omega)
   rw [show ((k + 1 : Nat) : Int) - 1 = (k : Nat) by omega] at this
   exact this (by rw [o6]; exact h1)
  ·obtain ⟨i, h1, h2, h3⟩ := M3 hx
   exact (h i h1 h2 x h3).1
 ·intro h j h0 h1 a ha
  refine ⟨h.2 a (p8 ha), fun b hj hb => ?_⟩
  obtain ⟨_, _, ga⟩ := j7 ha
  obtain ⟨_, _, gb⟩ := j7 hb
  exact h.1.get gb ga (by omega)
theorem isSet_eq (l : List Int) (n : Int) : x7 l n = some (dec (SetN l n)) := by
 unfold x7
 rcases F2 (body := K4 l n) (n := (l.length : Int)) (fun j => if dec (stepOk l n j) = true then none else some false) (by omega) (fun j h0 h1 _ => by
  obtain ⟨a, ha, _⟩ := i9 (l := l) h0 h1
  unfold K4
  rw [ha]
  simp only [oB]
  by_cases c1 : a < 0
  ·rw [if_pos c1, if_neg]
   ·rfl
   ·rw [g9]; intro h; have := (h a ha).1; omega
  ·rw [if_neg c1]
   by_cases c2 : n ≤ a
   ·rw [if_pos c2, if_neg]
    ·rfl
    ·rw [g9]; intro h; have := (h a ha).1; omega
   ·rw [if_neg c2]
    by_cases c3 : 0 < j
    ·obtain ⟨b, hb, _⟩ := i9 (l := l) (i := j - 1) (by omega) (by omega)
     rw [if_pos c3, hb]
     simp only [oB]
     by_cases c4 : a ≤ b
     ·rw [if_pos (by simpa using c4), if_neg]
      rw [g9]; intro h; have := (h a ha).2 b c3 hb; omega
     ·rw [if_neg (by simpa using c4), if_pos]
      rw [g9]; intro x hx
      rw [ha] at hx; cases hx
      exact ⟨by omega, fun y _ hy => by rw [hb] at hy; cases hy; omega⟩
    ·rw [if_neg c3]
     simp only [oB]
     rw [if_neg (by simp), if_pos]
     rw [g9]; intro x hx
     rw [ha] at hx; cases hx
     exact ⟨by omega, fun y hy => absurd hy c3⟩) with ⟨h1, h2⟩ | ⟨j, o, h0, h1, h2, _, h4⟩
 ·rw [h1, i6]
  ·rfl
  ·exact V9.1 fun j g1 g2 => by have := h2 j g1 g2; simpa using this
 ·rw [h4]
  split at h2
  ·cases h2
  ·rename_i hs
   cases h2
   rw [n7]
   ·rfl
   ·exact fun h => hs (i6 (V9.2 h j h0 h1))
theorem rIsSet_eq (l : List Int) {n : Int} (hn : -9223372036854775808 < n) (hn' : n ≤ 9223372036854775807) : B9 l n = some (dec (SetN l n)) := by
 unfold B9
 rcases F2 (body := P1 l n) (n := (l.length : Int)) (fun j => if dec (stepOk l n j) = true then none else some false) (by omega) (fun j h0 h1 _ => by
  obtain ⟨a, ha, _⟩ := i9 (l := l) h0 h1
  unfold P1
  rw [ha]
  simp only [oB, in_eq, k8 (n := n - 1) (by omega) (by omega), C7]
  by_cases c1 : 0 ≤ a ∧ a ≤ n - 1
  ·rw [if_neg (by simpa using c1)]
   by_cases c3 : 0 < j
   ·obtain ⟨b, hb, _⟩ := i9 (l := l) (i := j - 1) (by omega) (by omega)
    rw [if_pos c3, hb]
    simp only [oB]
    by_cases c4 : a ≤ b
    ·rw [if_pos (by simpa using c4), if_neg]
     rw [g9]; intro h; have := (h a ha).2 b c3 hb; omega
    ·rw [if_neg (by simpa using c4), if_pos]
     rw [g9]; intro x hx
     rw [ha] at hx; cases hx
     exact ⟨by omega, fun y _ hy => by rw [hb] at hy; cases hy; omega⟩
   ·rw [if_neg c3]
    simp only [oB]
    rw [if_neg (by simp), if_pos]
    rw [g9]; intro x hx
    rw [ha] at hx; cases hx
    exact ⟨by omega, fun y hy => absurd hy c3⟩
  ·rw [if_pos (by simpa using c1), if_neg]
   ·rfl
   ·rw [g9]; intro h; have := (h a ha).1; omega) with ⟨h1, h2⟩ | ⟨j, o, h0, h1, h2, _, h4⟩
 ·rw [h1, i6]
  ·rfl
  ·exact V9.1 fun j g1 g2 => by have := h2 j g1 g2; simpa using this
 ·rw [h4]
  split at h2
  ·cases h2
  ·rename_i hs
   cases h2
   rw [n7]
   ·rfl
   ·exact fun h => hs (i6 (V9.2 h j h0 h1))
theorem containsLoop {s : List Int} (hs : Inc s) (hl : s.length ≤ 1000000) (x : Int) {i : Int} (h0 : 0 ≤ i) (h1 : i ≤ s.length) (hlt : ∀ k a, 0 ≤ k → k < i → ix s k = some a → a < x) :
  ∃ i', Loop (B0 s x) i = some i' ∧ i ≤ i' ∧ i' ≤ s.length ∧ (∀ k a, 0 ≤ k → k < i' → ix s k = some a → a < x) ∧ (∀ a, ix s i' = some a → x ≤ a) := by
 obtain ⟨o, h2, h3⟩ := G8 (body := B0 s x) (fun j => i ≤ j ∧ j ≤ s.length ∧ ∀ k a, 0 ≤ k → k < j → ix s k = some a → a < x) (fun i' => i ≤ i' ∧ i' ≤ s.length ∧ (∀ k a, 0 ≤ k → k < i' → ix s k = some a → a < x) ∧ (∀ a, ix s i' = some a → x ≤ a)) (fun j => (s.length - j).toNat) (s := i) ⟨Int.le_refl _, h1, hlt⟩ (fun j ⟨g1, g2, g3⟩ => by
  unfold B0
  by_cases c : j < s.length
  ·obtain ⟨a, ha, _⟩ := i9 (l := s) (i := j) (by omega) c
   rw [if_pos c, ha]
   simp only [oB, decide_eq_true_eq]
   by_cases c2 : a < x
   ·rw [if_pos c2]
    rw [k8 (by omega) (by omega)]
    refine .inl ⟨j + 1, rfl, ⟨by omega, by omega, fun k b k0 k1 hb => ?_⟩, by omega⟩
    by_cases e : k = j
    ·subst e; rw [ha] at hb; cases hb; exact c2
    ·exact g3 k b k0 (by omega) hb
   ·rw [if_neg c2]
    exact .inr ⟨j, rfl, g1, g2, g3, fun b hb => by rw [ha] at hb; cases hb; omega⟩
  ·rw [if_neg c]
   exact .inr ⟨j, rfl, g1, g2, g3, fun b hb => by have := (j7 hb).2.1; omega⟩)
 exact ⟨o, h2, h3⟩
theorem aa4 {s part : List Int} (hs : Inc s) (hp : Inc part) (hl : s.length ≤ 1000000) : v7 s part = some (dec (∀ x ∈ part, x ∈ s)) := by
 unfold v7
 rcases S9 (body := F0 s part) (n := (part.length : Int)) (fun j i => (0 ≤ i ∧ i ≤ s.length ∧ ∀ k a, 0 ≤ k → k < i → ix s k = some a → ∀ m x, j ≤ m → ix part m = some x → a < x) ∧ ∀ m x, 0 ≤ m → m < j → ix part m = some x → x ∈ s) (fun o => o = false ∧ ¬ ∀ x ∈ part, x ∈ s) (s := 0) (by omega) ⟨⟨by omega, by omega, fun k a h1 h2 => by omega⟩, fun m x h1 h2 => by omega⟩ (fun j i h0 h1 ⟨⟨g1, g2, g3⟩, g4⟩ => by
  obtain ⟨x, hx, gx⟩ := i9 (l := part) h0 h1
  unfold F0
  obtain ⟨i', e1, e2, e3, e4, e5⟩ := containsLoop hs hl x g1 g2 (fun k a k0 k1 ha => g3 k a k0 k1 ha j x (Int.le_refl _) hx)
  rw [hx]
  simp only [oB, e1]
  have nin : (∀ a, ix s i' = some a → x < a) → x ∉ s := fun hgt hin => by
   obtain ⟨k, k0, k1, hk⟩ := M3 hin
   rcases Int.lt_trichotomy k i' with c | c | c
   ·have := e4 k x k0 c hk; omega
   ·subst c; have := hgt x hk; omega
   ·obtain ⟨b, hb, gb⟩ := i9 (l := s) (i := i') (by omega) (by omega)
    obtain ⟨_, _, gk⟩ := j7 hk
    have := hs.get gb gk (by omega)
    have := e5 b hb
    omega
  by_cases c : i' = s.length
  ·rw [if_pos c]
   refine .inr ⟨false, rfl, rfl, fun h => ?_⟩
   exact nin (fun a ha => by have := (j7 ha).2.1; omega) (h x (p8 hx))
  ·rw [if_neg c]
   obtain ⟨b, hb, gb⟩ := i9 (l := s) (i := i') (by omega) (by omega)
   rw [hb]
   simp only [oB]
   have hxb := e5 b hb
   by_cases c2 : b = x
   ·subst c2
    rw [if_neg (by simp)]
    refine .inl ⟨i', rfl, ⟨by omega, e3, fun k a k0 k1 ha m y hm hy => ?_⟩, fun m y m0 m1 hy => ?_⟩
    ·obtain ⟨_, _, gy⟩ := j7 hy
     have := hp.get gx gy (by omega)
     have := e4 k a k0 k1 ha
     omega
    ·by_cases e : m = j
     ·subst e; rw [hx] at hy; cases hy; exact p8 hb
     ·exact g4 m y m0 (by omega) hy
   ·rw [if_pos (by simpa using c2)]
    refine .inr ⟨false, rfl, rfl, fun h => ?_⟩
    exact nin (fun a ha => by rw [hb] at ha; cases ha; omega) (h x (p8 hx))) with ⟨s', h1, _, h2⟩ | ⟨o, h1, rfl, h2⟩
 ·rw [h1, i6]
  ·rfl
  ·intro x hx
   obtain ⟨m, m0, m1, hm⟩ := M3 hx
   exact h2 m x m0 m1 hm
 ·rw [h1, n7 h2]; rfl
end Ab
end
section
namespace Ab
open Go
theorem half_eq {i j : Int} (h0 : 0 ≤ i) (h1 : i ≤ j) (h2 : j ≤ 1000000) : w64 (shrW .u64 ((IntKind.u64).wrap (w64 (i + j))) 1) = (i + j) / 2 := by
 rw [k8 (n := i + j) (by omega) (by omega), IntKind.wrap_u64, Int.emod_eq_of_lt (by omega) (by omega)]
 have : shrW .u64 (i + j) 1 = (i + j) / 2 := by
  simp only [shrW, IntKind.bits]
  rw [show min (1 : Int).toNat 64 = 1 by rfl, Int.fdiv_eq_ediv_of_nonneg _ (by decide)]
  rfl
 rw [this]
 exact k8 (by omega) (by omega)
theorem less_eq (a b : Int) : K7 a b = some (decide (a < b)) := by simp [K7, y7]
theorem bsearch_eq {xs : List Int} (hs : Inc xs) (hl : xs.length ≤ 500000) (t : Int) : ∃ i, l8 xs t = some (i, dec (t ∈ xs)) ∧ 0 ≤ i ∧ i ≤ xs.length ∧ (∀ k a, 0 ≤ k → k < i → ix xs k = some a → a < t) ∧ (∀ k a, i ≤ k → ix xs k = some a → t ≤ a) := by
 unfold l8
 obtain ⟨i, h1, h2, h3, h4, h5⟩ := G8 (body := r8 xs t) (fun p => (0 ≤ p.1 ∧ p.1 ≤ p.2 ∧ p.2 ≤ xs.length) ∧ (∀ k a, 0 ≤ k → k < p.1 → ix xs k = some a → a < t) ∧ (∀ k a, p.2 ≤ k → ix xs k = some a → t ≤ a))
  (fun i => 0 ≤ i ∧ i ≤ xs.length ∧ (∀ k a, 0 ≤ k → k < i → ix xs k = some a → a < t) ∧ (∀ k a, i ≤ k → ix xs k = some a → t ≤ a)) (fun p => (p.2 - p.1).toNat) (s := (0, (xs.length : Int)))
  ⟨⟨by simp, by simp, by simp⟩, fun k a h1 h2 => by simp at h2; omega, fun k a h1 h2 => by have := (j7 h2).2.1; simp at h1; omega⟩ (fun ⟨i, j⟩ ⟨⟨g1, g2, g3⟩, g4, g5⟩ => by
  dsimp only at g1 g2 g3 g4 g5 ⊢
  unfold r8
  dsimp only
  by_cases c : i < j
  ·rw [if_pos c, half_eq g1 g2 (by omega)]
   obtain ⟨a, ha, ga⟩ := i9 (l := xs) (i := (i + j) / 2) (by omega) (by omega)
   rw [ha]
   simp only [oB, less_eq, decide_eq_true_eq]
   by_cases c2 : a < t
   ·rw [if_pos c2, k8 (by omega) (by omega)]
    refine .inl ⟨_, rfl, ⟨⟨by dsimp only; omega, by dsimp only; omega, g3⟩, fun k b k0 k1 hb => ?_, g5⟩, by dsimp only; omega⟩
    dsimp only at k1
    obtain ⟨_, _, gb⟩ := j7 hb
    by_cases e : k = (i + j) / 2
    ·subst e; rw [ha] at hb; cases hb; exact c2
    ·have := hs.get gb ga (by omega); omega
   ·rw [if_neg c2]
    refine .inl ⟨_, rfl, ⟨⟨g1, by dsimp only; omega, by dsimp only; omega⟩, g4, fun k b k0 hb => ?_⟩, by dsimp only; omega⟩
    dsimp only at k0
    obtain ⟨_, _, gb⟩ := j7 hb
    by_cases e : k = (i + j) / 2
    ·subst e; rw [ha] at hb; cases hb; omega
    ·have := hs.get ga gb (by omega); omega
  ·rw [if_neg c]
   have : i = j := by omega
   subst this
   exact .inr ⟨i, rfl, g1, g3, g4, g5⟩)
 rw [h1]
 simp only [oB]
 refine ⟨i, ?_, h2, h3, h4, h5⟩
 have nin : (∀ a, ix xs i = some a → a ≠ t) → t ∉ xs := fun hne hin => by
  obtain ⟨k, k0, k1, hk⟩ := M3 hin
  rcases Int.lt_trichotomy k i with c | c | c
  ·have := h4 k t k0 c hk; omega
  ·subst c; exact hne t hk rfl
  ·obtain ⟨b, hb, gb⟩ := i9 (l := xs) (i := i) (by omega) (by omega)
   obtain ⟨_, _, gk⟩ := j7 hk
   have := hs.get gb gk (by omega)
   have := h5 i b (Int.le_refl _) hb
   omega
 by_cases c : i < xs.length
 ·obtain ⟨a, ha, ga⟩ := i9 (l := xs) (i := i) (by omega) c
  rw [if_pos c, ha]
  simp only [oB]
  by_cases c2 : a = t
  ·subst c2
   rw [if_pos rfl, i6 (p8 ha)]
   rfl
  ·rw [if_neg c2]
   simp only [D2, decide_true, Bool.not_true, Bool.false_eq_true, if_false, oB]
   rw [n7 (nin fun b hb => by rw [ha] at hb; cases hb; exact c2)]
 ·rw [if_neg c]
  simp only [oB]
  rw [n7 (nin fun b hb => by have := (j7 hb).2.1; omega)]
theorem bsearch2 {xs : List Int} (hs : Inc xs) (hl : xs.length ≤ 500000) (t : Int) : ∃ i, l8 xs t = some (i, dec (t ∈ xs)) :=
 let ⟨i, h, _⟩ := bsearch_eq hs hl t
 ⟨i, h⟩
theorem containsFunc_eq {l : List Int} {f : Int → Option Bool} (p : Int → Prop) (hf : ∀ x ∈ l, f x = some (dec (p x))) : o5 l f = some (dec (∃ x ∈ l, p x)) := by
 unfold o5 x6
 rcases F2 (body := u7 l f) (n := (l.length : Int)) (fun j => if dec (∀ a, ix l j = some a → ¬ p a) = true then none else some j) (by omega) (fun j h0 h1 _ => by
  obtain ⟨a, ha, _⟩ := i9 (l := l) h0 h1
  unfold u7
  rw [ha]
  simp only [oB, hf a (p8 ha)]
  by_cases c : p a
  ·rw [if_pos (i6 c), if_neg (by rw [g9]; exact fun h => h a rfl c)]
  ·rw [if_neg (by rw [n7 c]; simp), if_pos (i6 fun b hb => by cases hb; exact c)]) with ⟨h1, h2⟩ | ⟨j, o, h0, h1, h2, _, h4⟩
 ·rw [h1]
  simp only [oB]
  rw [n7]
  ·rfl
  ·rintro ⟨x, hx, hp⟩
   obtain ⟨i, g1, g2, g3⟩ := M3 hx
   have := h2 i g1 g2
   split at this
   ·rename_i h; exact g9.1 h x g3 hp
   ·cases this
 ·rw [h4]
  split at h2
  ·cases h2
  ·rename_i h
   cases h2
   simp only [oB]
   rw [i6]
   ·simp [h0]
   ·simp only [g9] at h
    obtain ⟨a, g1, _⟩ := i9 (l := l) h0 h1
    refine ⟨a, p8 g1, ?_⟩
    rcases Classical.em (p a) with c | c
    ·exact c
    ·exact absurd (fun b hb => by rw [g1] at hb; cases hb; exact c) h
theorem meets_eq {a b : List Int} (hb : Inc b) (hl : b.length ≤ 500000) : M0 a b = some (dec (∃ x ∈ a, x ∈ b)) := by
 unfold M0
 rw [containsFunc_eq (fun x => x ∈ b) (fun x _ => by
  unfold N8
  obtain ⟨i, h⟩ := bsearch2 hb hl x
  rw [h]; rfl)]
 rfl
/-! ### Sorted, and equal neighbours made one -/
theorem compact_spec {l : List Int} (hs : l.Pairwise (· ≤ ·)) : Inc (P6 l) ∧ ∀ x, x ∈ P6 l ↔ x ∈ l := by
 have key : ∀ m, m ≤ l.length → Inc (Go.Lib.compactUpTo l.toArray m) ∧ (∀ x, x ∈ Go.Lib.compactUpTo l.toArray m ↔ x ∈ l.take m) := by
  intro m
  induction m with
  | zero => intro _; simp [Go.Lib.compactUpTo]
  | succ m ih =>
   intro hm
   obtain ⟨h1, h2⟩ := ih (by omega)
   have hlt : m < l.length := by omega
   have hd : l.toArray[m]! = l[m] := by simp [hlt]
   have ht : l.take (m + 1) = l.take m ++ [l[m]] := by rw [List.take_add_one]; simp [hlt]
   rw [Go.Lib.compactUpTo_succ, ht]
   by_cases hk : Go.Lib.keeps l.toArray m = true
   ·rw [if_pos hk, hd]
    refine ⟨List.pairwise_append.2 ⟨h1, by simp, fun a ha b hb => ?_⟩, fun x => by rw [List.mem_append, List.mem_append, h2]⟩
    simp only [List.mem_singleton] at hb
    subst hb
    have ha' := (h2 a).1 ha
    obtain ⟨i, hi, rfl⟩ := List.mem_iff_getElem.1 ha'
    rw [List.length_take] at hi
    rw [List.getElem_take]
    simp only [Go.Lib.keeps, decide_eq_true_eq] at hk
    rcases hk with hk | hk
    ·omega
    ·have hm1 : l.toArray[m - 1]! = l[m - 1] := by simp [show m - 1 < l.length by omega]
     rw [hd, hm1] at hk
     have e1 : l[m - 1] ≤ l[m] := List.pairwise_iff_getElem.1 hs (m - 1) m (by omega) hlt (by omega)
     have e2 : l[i] ≤ l[m - 1] := by
      rcases Nat.lt_or_ge i (m - 1) with c | c
      ·exact List.pairwise_iff_getElem.1 hs i (m - 1) (by omega) (by omega) c
      ·have : i = m - 1 := by omega
       subst this; exact Int.le_refl _
     omega
   ·rw [if_neg hk, List.append_nil]
    refine ⟨h1, fun x => ?_⟩
    rw [h2, List.mem_append]
    refine ⟨.inl, fun h => ?_⟩
    rcases h with h | h
    ·exact h
    ·simp only [List.mem_singleton] at h
     subst h
     have hm0 : m ≠ 0 := fun e => hk (by simp [Go.Lib.keeps, e])
     have hm1 : l.toArray[m - 1]! = l[m - 1] := by simp [show m - 1 < l.length by omega]
     have he : l[m] = l[m - 1] := by
      simp only [Go.Lib.keeps, decide_eq_true_eq, not_or] at hk
      have h3 : l.toArray[m]! = l.toArray[m - 1]! := Classical.not_not.1 (fun h => hk.2 h)
      rw [hd, hm1] at h3; exact h3
     rw [he, List.mem_take_iff_getElem]
     exact ⟨m - 1, by omega, rfl⟩
 obtain ⟨h1, h2⟩ := key l.length (Nat.le_refl _)
 refine ⟨?_, fun x => ?_⟩
 ·simpa [P6, Go.Lib.compact] using h1
 ·have := h2 x
  rw [List.take_length] at this
  simpa [P6, Go.Lib.compact] using this
theorem srt_spec (l : List Int) : (srt l).Pairwise (· ≤ ·) ∧ ∀ x, x ∈ srt l ↔ x ∈ l := by
 refine ⟨?_, fun x => by simp [srt]⟩
 have := List.pairwise_mergeSort (le := fun x y : Int => decide (x ≤ y)) (fun a b c h1 h2 => by simp at h1 h2 ⊢; omega) (fun a b => by simp; omega) l
 refine this.imp fun h => by simpa using h
theorem sortL_eq {l : List Int} (h : l.length < 4611686018427387904) : sortL l = some (srt l) := by rw [sortL, if_pos h]
theorem update_inc {s add del : List Int} (hd : Inc del) (hl : del.length ≤ 500000) (h1 : s.length ≤ 500000) (h2 : add.length ≤ 500000) :
  ∃ r, D7 s add del = some r ∧ Inc r ∧ ∀ x, x ∈ r ↔ (x ∈ s ∧ x ∉ del) ∨ x ∈ add := by
 unfold D7
 rw [forR_filter (l := s) (b := 8) (fun a => a ∉ del) (fun j a c h => by
  obtain ⟨i, hi⟩ := bsearch2 hd hl a
  unfold Q3
  rw [h]
  simp only [oB, hi, C7]
  refine ⟨fun hq => ?_, fun hq => ?_⟩
  ·rw [if_pos (i6 hq)]
   cases app 8 c [a] <;> rfl
  ·rw [if_neg (by simpa using hq)]; rfl) [] (by simp; omega)]
 simp only [oB, List.nil_append]
 have hle : (s.filter fun a => dec (a ∉ del)).length ≤ s.length := List.length_filter_le _ _
 rw [show app 8 (s.filter fun a => dec (a ∉ del)) add = some ((s.filter fun a => dec (a ∉ del)) ++ add) by rw [app, if_pos]; omega]
 simp only [oB]
 rw [sortL_eq (by rw [List.length_append]; omega)]
 simp only [oB]
 obtain ⟨e1, e2⟩ := srt_spec ((s.filter fun a => dec (a ∉ del)) ++ add)
 obtain ⟨e3, e4⟩ := compact_spec e1
 refine ⟨_, rfl, e3, fun x => ?_⟩
 rw [e4, e2, List.mem_append, List.mem_filter, g9]
theorem update_eq {s add del : List Int} {n : Int} (hn : n ≤ 1000) (hd : Inc del) (hl : del.length ≤ 500000) (hs : SetN s n) (ha : SetN add n) :
  D7 s add del = some (H0 (fun x => (x ∈ s ∧ x ∉ del) ∨ x ∈ add) n) := by
 have h1 := hs.len; have h2 := ha.len
 obtain ⟨r, e1, e2, e3⟩ := update_inc (s := s) (add := add) hd hl (by omega) (by omega)
 rw [e1, SetN.eq_of (n := n) ⟨e2, fun x hx => ?_⟩ (fun x _ _ => e3 x)]
 rcases (e3 x).1 hx with h | h
 ·exact hs.2 x h.1
 ·exact ha.2 x h
end Ab
end
section
namespace Ab
open Go
def K6 (o : g7) (n : Int) : Prop := SetN o.pre n ∧ SetN o.add n ∧ SetN o.del n ∧ ∀ x ∈ o.add, x ∉ o.del
def T9 (o : g7) : Prop := 0 ≤ o.cost ∧ o.cost ≤ 100
noncomputable def J1 (o : g7) (n : Int) : Int := if dec (K6 o n) = true then if dec (T9 o) = true then 0 else 3 else 5
structure k9 (t : d5) : Prop where
 n0 : 0 ≤ t.facts
 n1 : t.facts ≤ 24
 init : SetN t.init t.facts
 goal : SetN t.goal t.facts
 ops : t.operators.length ≤ 40
 op : ∀ o ∈ t.operators, K6 o t.facts ∧ T9 o
def H1 (t : d5) (plan : List Int) : Prop := plan.length ≤ 60 ∧ ∀ x ∈ plan, 0 ≤ x ∧ x < t.operators.length
theorem opCode_zero {o : g7} {n : Int} : J1 o n = 0 ↔ K6 o n ∧ T9 o := by
 unfold J1
 by_cases h : K6 o n
 ·rw [if_pos (i6 h)]
  by_cases g : T9 o
  ·rw [if_pos (i6 g)]; simp [h, g]
  ·rw [if_neg (by rw [n7 g]; simp)]; simp [g]
 ·rw [if_neg (by rw [n7 h]; simp)]; simp [h]
theorem operator_eq {o : g7} {n : Int} (h0 : 0 ≤ n) (h1 : n ≤ 24) : F7 o n = some (J1 o n) := by
 unfold F7 J1
 simp only [isSet_eq, oB, C7]
 have bad : ¬ K6 o n → dec (K6 o n) = true → False := fun h g => h (g9.1 g)
 by_cases c1 : SetN o.pre n
 ·rw [if_neg (by simpa using c1)]
  by_cases c2 : SetN o.add n
  ·rw [if_neg (by simpa using c2)]
   by_cases c3 : SetN o.del n
   ·rw [if_neg (by simpa using c3)]
    have hl := c3.len
    rw [meets_eq c3.1 (by omega)]
    simp only [oB]
    by_cases c4 : ∃ x ∈ o.add, x ∈ o.del
    ·rw [if_pos (i6 c4), if_neg]
     rw [g9]
     obtain ⟨x, g1, g2⟩ := c4
     exact fun h => h.2.2.2 x g1 g2
    ·have hs : K6 o n := ⟨c1, c2, c3, fun x g1 g2 => c4 ⟨x, g1, g2⟩⟩
     rw [if_neg (by rw [n7 c4]; simp), if_pos (i6 hs)]
     by_cases c5 : T9 o
     ·rw [if_pos (i6 c5), if_neg]
      have := c5.1; have := c5.2
      simp; omega
     ·rw [if_neg (fun h => c5 (g9.1 h)), if_pos]
      unfold T9 at c5
      simp; omega
   ·rw [if_pos (by simpa using c3)]
    simp only [oB, if_true]
    rw [if_neg fun h => c3 (g9.1 h).2.2.1]
  ·rw [if_pos (by simpa using c2)]
   simp only [oB, if_true]
   rw [if_neg fun h => c2 (g9.1 h).2.1]
 ·rw [if_pos (by simpa using c1)]
  simp only [oB, if_true]
  rw [if_neg fun h => c1 (g9.1 h).1]
theorem validate_eq (t : d5) : ∃ f, E9 t = some f ∧ I0 t = some f ∧ ((f = ⟨0, 0⟩ ∧ k9 t) ∨ (f.code ≠ 0 ∧ ¬ k9 t)) := by
 unfold E9 I0
 simp only [in_eq, at_eq, oB, C7]
 by_cases c1 : 0 ≤ t.facts ∧ t.facts ≤ 24
 ·rw [if_neg (by simp; omega), ifNN c1]
  simp only [isSet_eq, rIsSet_eq (n := t.facts) _ (by omega) (by omega), oB, C7]
  by_cases c2 : SetN t.init t.facts
  ·rw [ifNN c2, ifNN c2]
   by_cases c3 : SetN t.goal t.facts
   ·rw [ifNN c3, ifNN c3]
    by_cases c4 : 40 < (t.operators.length : Int)
    ·rw [if_pos c4, if_pos c4]
     exact ⟨_, rfl, rfl, .inr ⟨by simp, fun h => by have := h.ops; omega⟩⟩
    ·rw [if_neg c4, if_neg c4]
     have hb : ∀ j : Int, 0 ≤ j → j < t.operators.length → ∃ o, ix t.operators j = some o ∧ B4 t j () = some (if J1 o t.facts = 0 then .inl () else .inr ⟨J1 o t.facts, j⟩) ∧ y5 t j () = some (if J1 o t.facts = 0 then .inl () else .inr ⟨J1 o t.facts, j⟩) := fun j h0 h1 => by
      obtain ⟨o, ho, _⟩ := i9 (l := t.operators) h0 h1
      refine ⟨o, ho, ?_, ?_⟩
      ·unfold B4
       rw [ho]
       simp only [oB, operator_eq c1.1 c1.2]
       by_cases e : J1 o t.facts = 0
       ·rw [if_pos e, if_pos e]
       ·rw [if_neg e, if_neg e]
      ·unfold y5
       rw [ho]
       simp only [oB, rIsSet_eq (n := t.facts) _ (show -9223372036854775808 < t.facts by omega) (show t.facts ≤ 9223372036854775807 by omega), disjoint_eq, in_eq, at_eq, C7]
       have hp : (if dec (¬ SetN o.pre t.facts) = true then some true else if dec (¬ SetN o.add t.facts) = true then some true else if dec (¬ SetN o.del t.facts) = true then some true else some (dec (¬ ∀ x ∈ o.add, x ∉ o.del))) = some (dec (¬ K6 o t.facts)) := by
        unfold K6
        by_cases g1 : SetN o.pre t.facts
        ·rw [if_neg (by simpa using g1)]
         by_cases g2 : SetN o.add t.facts
         ·rw [if_neg (by simpa using g2)]
          by_cases g3 : SetN o.del t.facts
          ·rw [if_neg (by simpa using g3)]
           exact congrArg some (Q9 ⟨fun h g => h g.2.2.2, fun h g => h ⟨g1, g2, g3, g⟩⟩)
          ·rw [if_pos (by simpa using g3), i6 (fun g => g3 g.2.2.1)]
         ·rw [if_pos (by simpa using g2), i6 (fun g => g2 g.2.1)]
        ·rw [if_pos (by simpa using g1), i6 (fun g => g1 g.1)]
       rw [hp]
       simp only [oB]
       unfold J1
       by_cases g1 : K6 o t.facts
       ·rw [if_neg (by simpa using g1), if_pos (i6 g1)]
        by_cases g2 : T9 o
        ·rw [ifP g2, ifNN (p := 0 ≤ o.cost ∧ o.cost ≤ 100) g2]; rfl
        ·rw [ifN g2, ifP (p := ¬ (0 ≤ o.cost ∧ o.cost ≤ 100)) g2]; rfl
       ·rw [if_pos (i6 g1), if_neg (fun h => g1 (g9.1 h))]; rfl
     have heq : rngX 0 (t.operators.length : Int) (B4 t) () = rngX 0 (t.operators.length : Int) (y5 t) () :=
      (rngX_eq (fun _ _ => True) (by omega) trivial (fun j s h0 h1 _ => by
       obtain ⟨o, _, e1, e2⟩ := hb j h0 h1
       exact ⟨by rw [e1, e2], by rw [e1]; simp, fun _ _ => trivial⟩)).1
     rcases F2 (body := y5 t) (n := (t.operators.length : Int)) (fun j => match ix t.operators j with | some o => if J1 o t.facts = 0 then none else some (⟨J1 o t.facts, j⟩ : j6) | none => none) (by omega) (fun j h0 h1 _ => by
      obtain ⟨o, e0, _, e2⟩ := hb j h0 h1
      rw [e2, e0]
      dsimp only
      split <;> rfl) with ⟨h1, h2⟩ | ⟨j, f, h0, h1, h2, _, h4⟩
     ·rw [heq, h1]
      refine ⟨⟨0, 0⟩, rfl, rfl, .inl ⟨rfl, c1.1, c1.2, c2, c3, by omega, fun o ho => ?_⟩⟩
      obtain ⟨j, g0, g1, g2⟩ := M3 ho
      have := h2 j g0 g1
      rw [g2] at this
      dsimp only at this
      split at this
      ·rename_i e; exact opCode_zero.1 e
      ·cases this
     ·rw [heq, h4]
      obtain ⟨o, e0, _, _⟩ := hb j h0 h1
      rw [e0] at h2
      dsimp only at h2
      split at h2
      ·cases h2
      ·rename_i e
       cases h2
       exact ⟨_, rfl, rfl, .inr ⟨e, fun h => e (opCode_zero.2 (h.op o (p8 e0)))⟩⟩
   ·rw [ifP c3, ifP c3]
    exact ⟨_, rfl, rfl, .inr ⟨by simp, fun h => c3 h.goal⟩⟩
  ·rw [ifP c2, ifP c2]
   exact ⟨_, rfl, rfl, .inr ⟨by simp, fun h => c2 h.init⟩⟩
 ·rw [if_pos (by simp; omega), if_pos (i6 c1)]
  exact ⟨_, rfl, rfl, .inr ⟨by simp, fun h => c1 ⟨h.n0, h.n1⟩⟩⟩
theorem fault_no {f : j6} (h : f.code ≠ 0) : (!((decide (f.code = 0)) && (decide (f.index = 0)))) = true := by simp [h]
theorem rSteps_eq {n : Int} (h0 : 0 ≤ n) (h1 : n ≤ 9223372036854775807) (plan : List Int) : ∃ f, v6 n plan = some f ∧ ((f = ⟨0, 0⟩ ∧ plan.length ≤ 60 ∧ ∀ x ∈ plan, 0 ≤ x ∧ x < n) ∨ (f.code ≠ 0 ∧ ¬ (plan.length ≤ 60 ∧ ∀ x ∈ plan, 0 ≤ x ∧ x < n))) := by
 unfold v6
 by_cases c : 60 < (plan.length : Int)
 ·rw [if_pos c]
  exact ⟨⟨2, -5⟩, rfl, .inr ⟨by simp, fun h => by omega⟩⟩
 ·rw [if_neg c]
  rw [T0 (l := plan) (fun x => 0 ≤ x ∧ x < n) (⟨3, -6⟩ : j6) (fun j a h => by
   unfold E5
   rw [h]
   simp only [oB, in_eq, at_eq, k8 (n := n - 1) (by omega) (by omega), C7]
   by_cases g : 0 ≤ a ∧ a < n
   ·rw [if_neg (by simp; omega)]; exact .inl ⟨g, rfl⟩
   ·rw [if_pos (by rw [g9]; omega)]; exact .inr ⟨g, rfl⟩)]
  by_cases g : ∀ x ∈ plan, 0 ≤ x ∧ x < n
  ·rw [if_pos (i6 g)]
   exact ⟨_, rfl, .inl ⟨rfl, by omega, g⟩⟩
  ·rw [if_neg (fun h => g (g9.1 h))]
   exact ⟨_, rfl, .inr ⟨by simp, fun h => g h.2⟩⟩
theorem steps_eq {n : Int} (h0 : 0 ≤ n) (h1 : n ≤ 9223372036854775807) (plan : List Int) : ∃ f, L9 n plan = some f ∧ v6 n plan = some f ∧ ((f = ⟨0, 0⟩ ∧ plan.length ≤ 60 ∧ ∀ x ∈ plan, 0 ≤ x ∧ x < n) ∨ (f.code ≠ 0 ∧ ¬ (plan.length ≤ 60 ∧ ∀ x ∈ plan, 0 ≤ x ∧ x < n))) := by
 unfold L9 v6
 by_cases c : 60 < (plan.length : Int)
 ·rw [if_pos c, if_pos c]
  exact ⟨⟨2, -5⟩, rfl, rfl, .inr ⟨by simp, fun h => by omega⟩⟩
 ·rw [if_neg c, if_neg c]
  rw [T0 (l := plan) (fun x => 0 ≤ x ∧ x < n) (⟨3, -6⟩ : j6) (fun j a h => by
   unfold S0
   rw [h]
   simp only [oB]
   by_cases g : 0 ≤ a ∧ a < n
   ·rw [if_neg (by simp; omega)]; exact .inl ⟨g, rfl⟩
   ·rw [if_pos (by simp; omega)]; exact .inr ⟨g, rfl⟩)]
  rw [T0 (l := plan) (fun x => 0 ≤ x ∧ x < n) (⟨3, -6⟩ : j6) (fun j a h => by
   unfold E5
   rw [h]
   simp only [oB, in_eq, at_eq, k8 (n := n - 1) (by omega) (by omega), C7]
   by_cases g : 0 ≤ a ∧ a < n
   ·rw [if_neg (by simp; omega)]; exact .inl ⟨g, rfl⟩
   ·rw [if_pos (by rw [g9]; omega)]; exact .inr ⟨g, rfl⟩)]
  by_cases g : ∀ x ∈ plan, 0 ≤ x ∧ x < n
  ·rw [if_pos (i6 g)]
   exact ⟨_, rfl, rfl, .inl ⟨rfl, by omega, g⟩⟩
  ·rw [if_neg (fun h => g (g9.1 h))]
   exact ⟨_, rfl, rfl, .inr ⟨by simp, fun h => g h.2⟩⟩
theorem planFault_eq (t : d5) (plan : List Int) : ∃ f, D0 t plan = some f ∧ C6 t plan = some f ∧ ((f = ⟨0, 0⟩ ∧ k9 t ∧ H1 t plan) ∨ (f.code ≠ 0 ∧ ¬ (k9 t ∧ H1 t plan))) := by
 obtain ⟨f, h1, h2, h3⟩ := validate_eq t
 unfold D0 C6
 rw [h1, h2]
 simp only [oB]
 rcases h3 with ⟨rfl, ht⟩ | ⟨hc, ht⟩
 ·obtain ⟨g, g1, g2, g3⟩ := steps_eq (n := (t.operators.length : Int)) (by omega) (by have := ht.ops; omega) plan
  rw [if_neg (by simp), if_pos rfl, g1, g2]
  refine ⟨g, rfl, rfl, ?_⟩
  rcases g3 with ⟨e, k⟩ | ⟨e, k⟩
  ·exact .inl ⟨e, ht, k⟩
  ·exact .inr ⟨e, fun h => k h.2⟩
 ·rw [if_pos (fault_no hc), if_neg hc]
  exact ⟨f, rfl, rfl, .inr ⟨hc, fun h => ht h.1⟩⟩
/-! ### What operators and plans do -/
def noOp : g7 := ⟨[], [], [], 0⟩
def opAt (t : d5) (op : Int) : g7 := (t.operators[op.toNat]?).getD noOp
theorem ix_op {t : d5} {op : Int} (h0 : 0 ≤ op) (h1 : op < t.operators.length) : ix t.operators op = some (opAt t op) := by
 obtain ⟨a, h2, h3⟩ := i9 h0 h1
 rw [h2, opAt, h3]; rfl
theorem k9.at {t : d5} (h : k9 t) {op : Int} (h0 : 0 ≤ op) (h1 : op < t.operators.length) : K6 (opAt t op) t.facts ∧ T9 (opAt t op) := h.op _ (p8 (ix_op h0 h1))
def can (t : d5) (s : List Int) (op : Int) : Prop := ∀ x ∈ (opAt t op).pre, x ∈ s
noncomputable def aft (t : d5) (s : List Int) (op : Int) : List Int := H0 (fun x => x ∈ (opAt t op).add ∨ x ∈ s ∧ x ∉ (opAt t op).del) t.facts
theorem L5 (t : d5) (s : List Int) (op : Int) : SetN (aft t s op) t.facts := setN_setOf _ _
theorem N3 {t : d5} {op : Int} (h0 : 0 ≤ op) (h1 : op < t.operators.length) (s : List Int) : B3 t s op = some (dec (can t s op)) := by
 unfold B3
 rw [ix_op h0 h1]
 simp only [oB, Y8]
 rfl
theorem X9 {t : d5} (ht : k9 t) {op : Int} (h0 : 0 ≤ op) (h1 : op < t.operators.length) (s : List Int) : G2 t s op = some (aft t s op) := by
 have := ht.n1
 unfold G2
 rw [if_pos (by omega)]
 rw [forR_setOf (b := 8) (fun x => x ∈ (opAt t op).add ∨ x ∈ s ∧ x ∉ (opAt t op).del) ht.n0 (by omega) (fun j c g0 g1 => by
  unfold V0
  simp only [ix_op h0 h1, oB, has_eq, C7]
  have e : (if dec (j ∈ (opAt t op).add) = true then some true else if dec (j ∈ s) = true then some (dec (j ∉ (opAt t op).del)) else some false) = some (dec (j ∈ (opAt t op).add ∨ j ∈ s ∧ j ∉ (opAt t op).del)) := by
   by_cases c1 : j ∈ (opAt t op).add
   ·rw [if_pos (i6 c1), i6 (.inl c1)]
   ·rw [if_neg (fun h => c1 (g9.1 h))]
    by_cases c2 : j ∈ s
    ·rw [if_pos (i6 c2)]
     exact congrArg some (Q9 ⟨fun h => .inr ⟨c2, h⟩, fun h => (h.resolve_left c1).2⟩)
    ·rw [if_neg (fun h => c2 (g9.1 h)), n7 (fun h => c2 (h.resolve_left c1).1)]
  rw [e]
  simp only [oB]
  refine ⟨fun hq => ?_, fun hq => ?_⟩
  ·rw [if_pos (i6 hq)]
   cases app 8 c [j] <;> rfl
  ·rw [if_neg (fun h => hq (g9.1 h))]; rfl)]
 rfl
theorem can_eq {t : d5} (ht : k9 t) {op : Int} (h0 : 0 ≤ op) (h1 : op < t.operators.length) {s : List Int} (hs : SetN s t.facts) : N1 t s op = some (dec (can t s op)) := by
 have := ht.n1; have := hs.len
 unfold N1
 rw [ix_op h0 h1]
 simp only [oB]
 rw [aa4 hs.1 (ht.at h0 h1).1.1.1 (by omega)]
 rfl
theorem next_eq {t : d5} (ht : k9 t) {op : Int} (h0 : 0 ≤ op) (h1 : op < t.operators.length) {s : List Int} (hs : SetN s t.facts) : G5 t s op = some (aft t s op) := by
 have := ht.n1
 obtain ⟨⟨_, k2, k3, _⟩, _⟩ := ht.at h0 h1
 have hl := k3.len
 unfold G5
 rw [ix_op h0 h1]
 simp only [oB]
 rw [update_eq (n := t.facts) (by omega) k3.1 (by omega) hs k2]
 simp only [oB, aft]
 exact congrArg some (setOf_congr fun x _ _ => Or.comm)
noncomputable def ends (t : d5) : List Int → List Int → Option (List Int)
 | s, [] => some s
 | s, op :: r => if dec (can t s op) = true then ends t (aft t s op) r else none
theorem ends_setN {t : d5} : ∀ {plan s e : List Int}, SetN s t.facts → ends t s plan = some e → SetN e t.facts
 | [], s, e, hs, h => by cases h; exact hs
 | op :: r, s, e, hs, h => by
  simp only [ends] at h
  split at h
  ·exact ends_setN (L5 t s op) h
  ·cases h
theorem aa9 {t : d5} : ∀ {p q s : List Int}, ends t s (p ++ q) = (ends t s p).bind fun e => ends t e q
 | [], q, s => rfl
 | op :: r, q, s => by
  simp only [List.cons_append, ends]
  split
  ·exact aa9
  ·rfl
def C2 (t : d5) (s plan : List Int) : Prop := ∃ e, ends t s plan = some e ∧ ∀ x ∈ t.goal, x ∈ e
theorem rEnds_eq {t : d5} (ht : k9 t) {plan : List Int} (hp : ∀ x ∈ plan, 0 ≤ x ∧ x < t.operators.length) (s : List Int) : U3 t s plan = some (match ends t s plan with | some e => (e, true) | none => ([], false)) := by
 unfold U3
 rcases S9 (body := R5 t plan) (n := (plan.length : Int)) (fun j c => ends t s plan = ends t c (plan.drop j.toNat)) (fun o => o = ([], false) ∧ ends t s plan = none) (s := s) (by omega) (by simp) (fun j c g0 g1 hP => by
  obtain ⟨a, ha, ga⟩ := i9 (l := plan) g0 g1
  have hm := hp a (p8 ha)
  have hd : plan.drop j.toNat = a :: plan.drop (j.toNat + 1) := by
   obtain ⟨hlt, rfl⟩ := List.getElem?_eq_some_iff.1 ga
   exact List.drop_eq_getElem_cons hlt
  rw [hd] at hP
  unfold R5
  rw [ha]
  simp only [oB, N3 hm.1 hm.2, C7, X9 ht hm.1 hm.2]
  by_cases c1 : can t c a
  ·rw [if_neg (by simpa using c1)]
   refine .inl ⟨_, rfl, ?_⟩
   rw [hP, ends, if_pos (i6 c1), show (j + 1).toNat = j.toNat + 1 by omega]
  ·rw [if_pos (i6 c1)]
   refine .inr ⟨_, rfl, rfl, ?_⟩
   rw [hP, ends, if_neg (fun h => c1 (g9.1 h))]) with ⟨e, h1, h2⟩ | ⟨o, h1, rfl, h2⟩
 ·rw [h1, h2]
  simp [ends]
 ·rw [h1, h2]; rfl
theorem rWorks_eq {t : d5} (ht : k9 t) {plan : List Int} (hp : ∀ x ∈ plan, 0 ≤ x ∧ x < t.operators.length) (s : List Int) : R9 t s plan = some (dec (C2 t s plan)) := by
 unfold R9
 rw [rEnds_eq ht hp]
 unfold C2
 cases h : ends t s plan with
 | none => simp only [oB, Bool.false_eq_true, if_false]; rw [n7]; rintro ⟨e, h1, _⟩; cases h1
 | some e =>
  simp only [oB, if_true, Y8]
  refine congrArg some (Q9 ⟨fun g => ⟨e, rfl, g⟩, fun ⟨e', g1, g2⟩ => by cases g1; exact g2⟩)
end Ab
end
section
namespace Ab
open Go
/-! ### States as' numbers -/
def wsN : List Int → Nat
 | [] => 0
 | a :: l => 2 ^ a.toNat + wsN l
theorem wsN_append : ∀ {l m : List Int}, wsN (l ++ m) = wsN l + wsN m
 | [], m => by simp [wsN]
 | a :: l, m => by simp only [List.cons_append, wsN, wsN_append (l := l)]; omega
theorem wsN_le : ∀ {l : List Int}, (∀ x ∈ l, x < 24) → wsN l ≤ l.length * 16777216
 | [], _ => by simp [wsN]
 | a :: l, h => by
  have h1 := wsN_le (l := l) fun x hx => h x (List.mem_cons_of_mem _ hx)
  have h2 : 2 ^ a.toNat ≤ 2 ^ 24 := Nat.pow_le_pow_right (by decide) (by have := h a (by simp); omega)
  simp only [wsN, List.length_cons]
  omega
theorem wsN_dvd {k : Nat} : ∀ {l : List Int}, (∀ x ∈ l, k ≤ x.toNat) → 2 ^ k ∣ wsN l
 | [], _ => ⟨0, rfl⟩
 | a :: l, h => Nat.dvd_add (Nat.pow_dvd_pow 2 (h a (by simp))) (wsN_dvd fun x hx => h x (List.mem_cons_of_mem _ hx))
theorem two_pow_no {k : Nat} (h : 2 ^ (k + 1) ∣ 2 ^ k) : False := by
 have h1 := Nat.le_of_dvd (Nat.two_pow_pos k) h
 have h2 := Nat.two_pow_pos k
 rw [Nat.pow_succ] at h1
 omega
theorem wsN_ne {a : Int} {l m : List Int} (ha : 0 ≤ a) (hl : ∀ x ∈ l, a < x) (hm : ∀ x ∈ m, a < x) : wsN (a :: l) ≠ wsN m := fun h => by
 have d1 : 2 ^ (a.toNat + 1) ∣ wsN l := wsN_dvd fun x hx => by have := hl x hx; omega
 have d2 : 2 ^ (a.toNat + 1) ∣ wsN m := wsN_dvd fun x hx => by have := hm x hx; omega
 rw [← h, wsN] at d2
 exact two_pow_no ((Nat.dvd_add_left d1).1 d2)
theorem wsN_inj : ∀ {l m : List Int}, Inc l → Inc m → (∀ x ∈ l, 0 ≤ x) → (∀ x ∈ m, 0 ≤ x) → wsN l = wsN m → l = m
 | [], [], _, _, _, _, _ => rfl
 | [], b :: m, _, _, _, _, h => by
  have := Nat.two_pow_pos b.toNat
  simp only [wsN] at h; omega
 | a :: l, [], _, _, _, _, h => by
  have := Nat.two_pow_pos a.toNat
  simp only [wsN] at h; omega
 | a :: l, b :: m, h1, h2, h3, h4, h => by
  obtain ⟨l1, l2⟩ := List.pairwise_cons.1 h1
  obtain ⟨m1, m2⟩ := List.pairwise_cons.1 h2
  rcases Int.lt_trichotomy a b with c | c | c
  ·exact absurd h (wsN_ne (h3 a (by simp)) l1 fun x hx => by
    rcases List.mem_cons.1 hx with rfl | hx
    ·exact c
    ·have := m1 x hx; omega)
  ·subst c
   simp only [wsN] at h
   rw [wsN_inj l2 m2 (fun x hx => h3 x (List.mem_cons_of_mem _ hx)) (fun x hx => h4 x (List.mem_cons_of_mem _ hx)) (by omega)]
  ·exact absurd h.symm (wsN_ne (h4 b (by simp)) m1 fun x hx => by
    rcases List.mem_cons.1 hx with rfl | hx
    ·exact c
    ·have := l1 x hx; omega)
theorem SetN.word_inj {s s' : List Int} {n : Int} (h : SetN s n) (h' : SetN s' n) (e : wsN s = wsN s') : s = s' :=
 wsN_inj h.1 h'.1 (fun x hx => (h.2 x hx).1) (fun x hx => (h'.2 x hx).1) e
theorem word_eq {s : List Int} {n : Int} (hs : SetN s n) (hn : n ≤ 24) : K8 s = some (wsN s : Int) := by
 have hl := hs.len
 unfold K8
 obtain ⟨w, h1, h2⟩ := C9 (body := R8 s) (n := (s.length : Int)) (s := 0) (fun j w => w = (wsN (s.take j.toNat) : Int)) (by omega) (by simp [wsN]) (fun j w j0 j1 hP => by
  obtain ⟨a, ha, ga⟩ := i9 (l := s) j0 j1
  have hb := hs.2 a (p8 ha)
  have ht : s.take (j + 1).toNat = s.take j.toNat ++ [a] := by rw [show (j + 1).toNat = j.toNat + 1 by omega, List.take_add_one, ga]; rfl
  have b1 : wsN (s.take j.toNat) ≤ (s.take j.toNat).length * 16777216 := wsN_le fun x hx => by have := hs.2 x (List.mem_of_mem_take hx); omega
  have b2 : (s.take j.toNat).length ≤ 24 := by rw [List.length_take]; omega
  have b4 : (s.take j.toNat).length * 16777216 ≤ 24 * 16777216 := Nat.mul_le_mul_right _ b2
  obtain ⟨q, hq⟩ : ∃ q : Nat, q = 2 ^ a.toNat := ⟨_, rfl⟩
  have b3 : q ≤ 16777216 := by rw [hq]; exact (Nat.pow_le_pow_right (by decide) (by omega) : 2 ^ a.toNat ≤ 2 ^ 24)
  have ep : (2 : Int) ^ a.toNat = (q : Int) := by rw [hq]; push_cast; rfl
  unfold R8
  rw [ha]
  simp only [oB]
  rw [IntKind.wrap_u64, Int.emod_eq_of_lt (by omega) (by omega), chk0, if_neg (by omega)]
  simp only [oB]
  have es : shlW .i64 1 a = (q : Int) := by
   unfold shlW
   rw [show min a.toNat (IntKind.i64).bits = a.toNat by simp only [IntKind.bits]; omega, Int.one_mul, ep]
   exact k8 (by omega) (by omega)
  rw [es, k8 (by omega) (by omega), ht, wsN_append, hP]
  refine ⟨_, rfl, ?_⟩
  simp only [wsN, ← hq]
  omega)
 rw [h1, h2, Int.toNat_natCast, List.take_length]
 rfl
end Ab
end
section
namespace Ab
open Go
theorem numbers_eq (a b : List Int) : I9 a b = some (dec (a = b)) := by
 unfold I9
 by_cases hl : (a.length : Int) = b.length
 ·rw [if_pos hl]
  rcases F2 (body := I3 a b) (n := (a.length : Int)) (fun j => if dec (ix a j = ix b j) = true then none else some false) (by omega) (fun j h0 h1 _ => by
   obtain ⟨x, hx, _⟩ := i9 (l := a) h0 h1
   obtain ⟨y, hy, _⟩ := i9 (l := b) (i := j) h0 (by omega)
   unfold I3
   rw [hx, hy]
   simp only [oB]
   by_cases e : x = y
   ·rw [if_pos e, ifP (by rw [e])]
   ·rw [if_neg e, ifN (by simpa using e)]) with ⟨h1, h2⟩ | ⟨j, o, h0, h1, h2, _, h4⟩
  ·rw [h1, i6]
   ·rfl
   ·refine List.ext_getElem? fun k => ?_
    by_cases hk : k < a.length
    ·have := h2 k (by omega) (by omega)
     split at this
     ·rename_i e
      have := g9.1 e
      rwa [o6, o6] at this
     ·cases this
    ·rw [List.getElem?_eq_none (by omega), List.getElem?_eq_none (by omega)]
  ·rw [h4]
   split at h2
   ·cases h2
   ·rename_i e
    cases h2
    rw [n7 (fun h => e (i6 (by rw [h])))]; rfl
 ·rw [if_neg hl, n7 (fun h => hl (by rw [h]))]
theorem setN1 (a : Int) {n : Int} (h0 : 0 ≤ a) (h1 : a < n) : SetN [a] n := ⟨by simp, by simp [h0, h1]⟩
def C0 : d5 := ⟨2, [0], [1], [⟨[0], [1], [0], 1⟩, ⟨[], [1], [], 3⟩]⟩
theorem step_ok : k9 C0 where
 n0 := by decide
 n1 := by decide
 init := setN1 0 (by decide) (by decide)
 goal := setN1 1 (by decide) (by decide)
 ops := by decide
 op o ho := by
  simp only [C0, List.mem_cons, List.not_mem_nil, or_false] at ho
  rcases ho with rfl | rfl
  ·exact ⟨⟨setN1 0 (by decide) (by decide), setN1 1 (by decide) (by decide), setN1 0 (by decide) (by decide), by simp⟩, by decide, by decide⟩
  ·exact ⟨⟨setN_nil _, setN1 1 (by decide) (by decide), setN_nil _, by simp⟩, by decide, by decide⟩
end Ab
end
section
namespace Ab
open Go
def llt : List Int → List Int → Prop
 | [], [] => False
 | [], _ :: _ => True
 | _ :: _, [] => False
 | a :: l, b :: m => a < b ∨ a = b ∧ llt l m
theorem M9 : ∀ l : List Int, ¬ llt l l
 | [] => id
 | a :: l => fun h => by
  rcases h with h | ⟨_, h⟩
  ·omega
  ·exact M9 l h
theorem Q5 : ∀ {a b c : List Int}, llt a b → llt b c → llt a c
 | [], [], _, h, _ => h.elim
 | [], _ :: _, [], _, h => h.elim
 | [], _ :: _, _ :: _, _, _ => trivial
 | _ :: _, [], _, h, _ => h.elim
 | _ :: _, _ :: _, [], _, h => h.elim
 | x :: a, y :: b, z :: c, h, g => by
  rcases h with h | ⟨rfl, h⟩ <;> rcases g with g | ⟨rfl, g⟩
  ·exact .inl (by omega)
  ·exact .inl h
  ·exact .inl g
  ·exact .inr ⟨rfl, Q5 h g⟩
theorem Q6 : ∀ a b : List Int, llt a b ∨ a = b ∨ llt b a
 | [], [] => .inr (.inl rfl)
 | [], _ :: _ => .inl trivial
 | _ :: _, [] => .inr (.inr trivial)
 | x :: a, y :: b => by
  rcases Int.lt_trichotomy x y with h | rfl | h
  ·exact .inl (.inl h)
  ·rcases Q6 a b with h | rfl | h
   ·exact .inl (.inr ⟨rfl, h⟩)
   ·exact .inr (.inl rfl)
   ·exact .inr (.inr (.inr ⟨rfl, h⟩))
  ·exact .inr (.inr (.inl h))
theorem llt_asymm {a b : List Int} (h : llt a b) (g : llt b a) : False := M9 a (Q5 h g)
noncomputable def cmpL (a b : List Int) : Int := if dec (llt a b) = true then -1 else if dec (a = b) = true then 0 else 1
theorem S2 {a b : List Int} : cmpL a b < 0 ↔ llt a b := by
 unfold cmpL
 by_cases h : llt a b
 ·rw [ifP h]; simp [h]
 ·rw [ifN h]
  split <;> simp [h]
theorem cmpL_eq {a b : List Int} : cmpL a b = 0 ↔ a = b := by
 unfold cmpL
 by_cases h : llt a b
 ·rw [ifP h]
  constructor
  ·intro e; omega
  ·rintro rfl; exact absurd h (M9 _)
 ·rw [ifN h]
  by_cases g : a = b
  ·rw [ifP g]; simp [g]
  ·rw [ifN g]; simp [g]
theorem cmpInt_eq (x y : Int) : E8 x y = some (if x < y then -1 else if y < x then 1 else 0) := by
 unfold E8 y7
 simp only [decide_true, Bool.not_true, oB, Bool.false_eq_true, if_false]
 split
 ·rfl
 ·split <;> rfl
theorem llt_drop : ∀ {a b : List Int} (k : Nat), k ≤ a.length → k ≤ b.length → a.take k = b.take k → (llt a b ↔ llt (a.drop k) (b.drop k))
 | _, _, 0, _, _, _ => by simp
 | [], _, k + 1, h, _, _ => by simp at h
 | _ :: _, [], k + 1, _, h, _ => by simp at h
 | x :: a, y :: b, k + 1, h1, h2, h3 => by
  simp only [List.take_succ_cons, List.cons.injEq] at h3
  obtain ⟨rfl, h3⟩ := h3
  simp only [List.drop_succ_cons]
  rw [← llt_drop k (by simpa using h1) (by simpa using h2) h3]
  simp [llt]
theorem compare_eq (a b : List Int) : q7 a b = some (cmpL a b) := by
 unfold q7
 rcases S9 (body := w8 a b) (n := (a.length : Int)) (s := ()) (fun j _ => j ≤ b.length ∧ a.take j.toNat = b.take j.toNat) (fun o => o = cmpL a b) (by omega) ⟨by omega, by simp⟩ (fun j _ j0 j1 ⟨k1, k2⟩ => by
  obtain ⟨x, hx, gx⟩ := i9 (l := a) j0 j1
  have hxl := (List.getElem?_eq_some_iff.1 gx).2
  unfold w8
  rw [hx]
  simp only [oB]
  have hd := llt_drop (a := a) (b := b) j.toNat (by omega) (by omega) k2
  have da : a.drop j.toNat = x :: a.drop (j.toNat + 1) := by rw [← hxl]; exact List.drop_eq_getElem_cons (by omega)
  by_cases c : (b.length : Int) ≤ j
  ·rw [if_pos c]
   refine .inr ⟨_, rfl, ?_⟩
   have db : b.drop j.toNat = [] := List.drop_of_length_le (by omega)
   rw [da, db] at hd
   unfold cmpL
   rw [ifN (fun h => (hd.1 h).elim), ifN]
   rintro rfl; omega
  ·rw [if_neg c]
   obtain ⟨y, hy, gy⟩ := i9 (l := b) (i := j) j0 (by omega)
   have hyl := (List.getElem?_eq_some_iff.1 gy).2
   have db : b.drop j.toNat = y :: b.drop (j.toNat + 1) := by rw [← hyl]; exact List.drop_eq_getElem_cons (by omega)
   rw [hy]
   simp only [oB, cmpInt_eq]
   rw [da, db] at hd
   have hne : x ≠ y → a ≠ b := fun h e => by subst e; rw [hx] at hy; cases hy; exact h rfl
   rcases Int.lt_trichotomy x y with h | rfl | h
   ·rw [if_pos h, if_neg (by decide)]
    refine .inr ⟨_, rfl, ?_⟩
    unfold cmpL
    rw [ifP (hd.2 (.inl h))]
   ·simp only [Int.lt_irrefl, if_false, if_true]
    refine .inl ⟨(), trivial, by omega, ?_⟩
    rw [show (j + 1).toNat = j.toNat + 1 by omega, List.take_add_one, List.take_add_one, gx, gy, k2]
   ·rw [if_neg (show ¬ x < y by omega), if_pos h, if_neg (by decide)]
    refine .inr ⟨_, rfl, ?_⟩
    unfold cmpL
    rw [ifN, ifN (hne (by omega))]
    intro g
    rcases hd.1 g with g | ⟨g, _⟩ <;> omega) with ⟨_, r1, r2, r3⟩ | ⟨o, r1, rfl⟩
 ·rw [r1]
  simp only [oB]
  have hd := llt_drop (a := a) (b := b) a.length (Nat.le_refl _) (by omega) (by simpa using r3)
  have da : a.drop a.length = [] := by simp
  rw [da] at hd
  have e3 : a = b.take a.length := by simpa using r3
  by_cases c : (a.length : Int) < b.length
  ·rw [if_pos c]
   have : b.drop a.length ≠ [] := by simp; omega
   unfold cmpL
   rw [ifP]
   rw [hd]
   cases h : b.drop a.length with
   | nil => exact absurd h this
   | cons x l => trivial
  ·rw [if_neg c]
   have : a = b := by rw [e3, List.take_of_length_le (by omega)]
   rw [cmpL_eq.2 this]
 ·rw [r1]; rfl
theorem cmp_ok : CmpOk q7 cmpL := by
 refine ⟨compare_eq, ⟨fun x => ?_, fun x y z h1 h2 => ?_, fun x y z h1 h2 => ?_⟩, fun a b h1 h2 => ?_⟩
 ·simp only [Go.Proofs.ltOf, decide_eq_false_iff_not, S2]
  exact M9 x
 ·simp only [Go.Proofs.ltOf, decide_eq_true_eq, S2] at h1 h2 ⊢
  exact Q5 h1 h2
 ·simp only [Go.Proofs.ltOf, decide_eq_false_iff_not, S2] at h1 h2 ⊢
  intro h
  rcases Q6 x y with g | rfl | g
  ·exact h1 g
  ·exact h2 h
  ·exact h2 (Q5 g h)
 ·rw [S2] at h1 h2
  rcases Q6 a b with g | g | g
  ·exact absurd g h1
  ·exact g
  ·exact absurd g h2
/-! ### Lists compared -/
theorem listEq {α : Type} {a b : List α} {body : Int → Unit → Option (Unit ⊕ Bool)} (hl : a.length = b.length) (hb : ∀ j x y, ix a j = some x → ix b j = some y → (x = y ∧ body j () = some (.inl ())) ∨ (x ≠ y ∧ body j () = some (.inr false))) :
  (Option.bind (rngX 0 (a.length : Int) body ()) fun | .inl _ => some true | .inr x => some x) = some (dec (a = b)) := by
 rcases F2 (body := body) (n := (a.length : Int)) (fun j => if dec (ix a j = ix b j) = true then none else some false) (by omega) (fun j h0 h1 _ => by
  obtain ⟨x, hx, _⟩ := i9 (l := a) h0 h1
  obtain ⟨y, hy, _⟩ := i9 (l := b) (i := j) h0 (by omega)
  rcases hb j x y hx hy with ⟨e, h⟩ | ⟨e, h⟩
  ·rw [h, ifP (by rw [hx, hy, e])]
  ·rw [h, ifN (by rw [hx, hy]; simpa using e)]) with ⟨h1, h2⟩ | ⟨j, o, h0, h1, h2, _, h4⟩
 ·rw [h1, i6]
  ·rfl
  ·refine List.ext_getElem? fun k => ?_
   by_cases hk : k < a.length
   ·have := h2 k (by omega) (by omega)
    split at this
    ·rename_i e
     have := g9.1 e
     rwa [o6, o6] at this
    ·cases this
   ·rw [List.getElem?_eq_none (by omega), List.getElem?_eq_none (by omega)]
 ·rw [h4]
  split at h2
  ·cases h2
  ·rename_i e
   cases h2
   rw [n7 (fun h => e (i6 (by rw [h])))]; rfl
theorem ints_eq (a b : List Int) : T6 a b = some (dec (a = b)) := by
 unfold T6
 by_cases hl : (a.length : Int) = b.length
 ·rw [if_pos hl]
  refine listEq (by omega) fun j x y hx hy => ?_
  unfold X2
  simp only [hx, hy, oB]
  by_cases e : x = y
  ·rw [if_pos e]; exact .inl ⟨e, rfl⟩
  ·rw [if_neg e]; exact .inr ⟨e, rfl⟩
 ·rw [if_neg hl, n7 (fun h => hl (by rw [h]))]
theorem equal_eq (a b : List Int) : u3 a b = some (dec (a = b)) := by
 unfold u3
 by_cases hl : (a.length : Int) = b.length
 ·rw [if_pos hl]
  refine listEq (by omega) fun j x y hx hy => ?_
  unfold D5
  simp only [hx, hy, oB]
  by_cases e : x = y
  ·rw [if_pos e]; exact .inl ⟨e, rfl⟩
  ·rw [if_neg e]; exact .inr ⟨e, rfl⟩
 ·rw [if_neg hl, n7 (fun h => hl (by rw [h]))]
theorem place_eq (l : List (List Int)) (s : List Int) : ∃ r, G1 l s = some r ∧ ((r = -1 ∧ s ∉ l) ∨ (0 ≤ r ∧ r < l.length ∧ ix l r = some s ∧ ∀ j, 0 ≤ j → j < r → ix l j ≠ some s)) := by
 unfold G1
 rcases F2 (body := P3 l s) (n := (l.length : Int)) (fun j => if dec (ix l j = some s) = true then some j else none) (by omega) (fun j h0 h1 _ => by
  obtain ⟨x, hx, _⟩ := i9 (l := l) h0 h1
  unfold P3
  simp only [hx, oB, ints_eq]
  by_cases e : x = s
  ·rw [ifP e, ifP (by rw [e])]
  ·rw [ifN e, ifN (by simpa using e)]) with ⟨h1, h2⟩ | ⟨j, o, h0, h1, h2, h3, h4⟩
 ·rw [h1]
  refine ⟨-1, rfl, .inl ⟨rfl, fun hs => ?_⟩⟩
  obtain ⟨i, i0, i1, hi⟩ := M3 hs
  have := h2 i i0 i1
  rw [ifP hi] at this
  cases this
 ·rw [h4]
  split at h2
  ·rename_i e
   cases h2
   refine ⟨_, rfl, .inr ⟨h0, h1, g9.1 e, fun i i0 i1 => ?_⟩⟩
   have := h3 i i0 i1
   split at this
   ·cases this
   ·rename_i e
    exact fun h => e (i6 h)
  ·cases h2
/-! ### Ordered lists -/
abbrev Ord (l : List (List Int)) : Prop := l.Pairwise llt
theorem Ord.ext : ∀ {l m : List (List Int)}, Ord l → Ord m → (∀ x, x ∈ l ↔ x ∈ m) → l = m
 | [], [], _, _, _ => rfl
 | [], b :: m, _, _, h => absurd ((h b).2 (by simp)) (by simp)
 | a :: l, [], _, _, h => absurd ((h a).1 (by simp)) (by simp)
 | a :: l, b :: m, hl, hm, h => by
  obtain ⟨l1, l2⟩ := List.pairwise_cons.1 hl
  obtain ⟨m1, m2⟩ := List.pairwise_cons.1 hm
  have hab : a = b := by
   rcases List.mem_cons.1 ((h a).1 (by simp)) with e | e
   ·exact e
   ·rcases List.mem_cons.1 ((h b).2 (by simp)) with e' | e'
    ·exact e'.symm
    ·exact (llt_asymm (l1 b e') (m1 a e)).elim
  subst hab
  rw [Ord.ext l2 m2 fun x => ⟨fun hx => ?_, fun hx => ?_⟩]
  ·rcases List.mem_cons.1 ((h x).1 (by simp [hx])) with e | e
   ·subst e; exact absurd (l1 x hx) (M9 x)
   ·exact e
  ·rcases List.mem_cons.1 ((h x).2 (by simp [hx])) with e | e
   ·subst e; exact absurd (m1 x hx) (M9 x)
   ·exact e
def ddN (l : List (List Int)) : Nat → List (List Int)
 | 0 => []
 | m + 1 => ddN l m ++ if decide (m = 0 ∨ l[m]? ≠ l[m - 1]?) = true then l[m]?.toList else []
theorem ddN_spec {l : List (List Int)} (hs : l.Pairwise fun a b => ¬ llt b a) : ∀ m, m ≤ l.length → Ord (ddN l m) ∧ ∀ x, x ∈ ddN l m ↔ x ∈ l.take m := by
 intro m
 induction m with
 | zero => intro _; simp [ddN]
 | succ m ih =>
  intro hm
  obtain ⟨h1, h2⟩ := ih (by omega)
  have hlt : m < l.length := by omega
  have ht : l.take (m + 1) = l.take m ++ [l[m]] := by rw [List.take_add_one]; simp [hlt]
  rw [ddN, ht]
  by_cases hk : m = 0 ∨ l[m]? ≠ l[m - 1]?
  ·rw [if_pos (by simpa using hk)]
   simp only [List.getElem?_eq_getElem hlt, Option.toList_some]
   refine ⟨List.pairwise_append.2 ⟨h1, by simp, fun a ha b hb => ?_⟩, fun x => by rw [List.mem_append, List.mem_append, h2]⟩
   simp only [List.mem_singleton] at hb
   subst hb
   have ha' := (h2 a).1 ha
   obtain ⟨i, hi, rfl⟩ := List.mem_iff_getElem.1 ha'
   rw [List.length_take] at hi
   rw [List.getElem_take]
   rcases hk with hk | hk
   ·omega
   ·have hm1 : m - 1 < l.length := by omega
    rw [List.getElem?_eq_getElem hlt, List.getElem?_eq_getElem hm1] at hk
    have e1 : ¬ llt l[m] l[m - 1] := List.pairwise_iff_getElem.1 hs (m - 1) m hm1 hlt (by omega)
    have e2 : llt l[m - 1] l[m] := by
     rcases Q6 l[m - 1] l[m] with h | h | h
     ·exact h
     ·exact absurd (by rw [h]) hk
     ·exact absurd h e1
    by_cases hi2 : i = m - 1
    ·subst hi2; exact e2
    ·have e3 : ¬ llt l[m - 1] l[i] := List.pairwise_iff_getElem.1 hs i (m - 1) (by omega) hm1 (by omega)
     rcases Q6 l[i] l[m] with h | h | h
     ·exact h
     ·rw [h] at e3; exact absurd e2 e3
     ·exact absurd (Q5 e2 h) e3
  ·rw [if_neg (by simpa using hk), List.append_nil]
   refine ⟨h1, fun x => ?_⟩
   rw [h2, List.mem_append]
   refine ⟨.inl, fun h => ?_⟩
   rcases h with h | h
   ·exact h
   ·simp only [List.mem_singleton] at h
    subst h
    have hm0 : m ≠ 0 := fun e => hk (.inl e)
    have he : l[m]? = l[m - 1]? := Classical.not_not.1 fun e => hk (.inr e)
    rw [List.getElem?_eq_getElem hlt, List.getElem?_eq_getElem (show m - 1 < l.length by omega)] at he
    rw [Option.some.inj he, List.mem_take_iff_getElem]
    exact ⟨m - 1, by omega, rfl⟩
theorem ddN_len (l : List (List Int)) : ∀ m, (ddN l m).length ≤ m
 | 0 => by simp [ddN]
 | m + 1 => by
  have := ddN_len l m
  rw [ddN, List.length_append]
  split
  ·have : (l[m]?.toList).length ≤ 1 := by cases l[m]? <;> simp
   omega
  ·simp; omega
theorem ddN_all {l : List (List Int)} : ∀ m, m ≤ l.length → (∀ i, 0 < i → i < m → l[i]? ≠ l[i - 1]?) → ddN l m = l.take m
 | 0, _, _ => by simp [ddN]
 | m + 1, hm, h => by
  rw [ddN, ddN_all m (by omega) fun i h0 h1 => h i h0 (by omega), if_pos, List.take_add_one]
  rw [decide_eq_true_eq]
  by_cases e : m = 0
  ·exact .inl e
  ·exact .inr (h m (by omega) (by omega))
theorem compactF_eq {l : List (List Int)} (hl : l.length ≤ 1000000) : n8 l = some (ddN l l.length) := by
 unfold n8
 by_cases c0 : (l.length : Int) < 2
 ·rw [if_pos c0, ddN_all l.length (Nat.le_refl _) fun i h0 h1 => by omega, List.take_length]
 ·rw [if_neg c0]
  have key := rngN_inv (body := l7 l) (fun j _ => ∀ i : Nat, 0 < i → (i : Int) < j → l[i]? ≠ l[i - 1]?) (fun o => o = ddN l l.length) ((l.length : Int) - 1).toNat 1 () (fun i h0 h1 => by omega) (fun j _ j0 j1 hP => by
   obtain ⟨a, ha, ga⟩ := i9 (l := l) (i := j) (by omega) (by omega)
   obtain ⟨b, hb, gb⟩ := i9 (l := l) (i := j - 1) (by omega) (by omega)
   unfold l7
   simp only [ha, hb, oB, equal_eq]
   have ej : (j - 1).toNat = j.toNat - 1 := by omega
   rw [ej] at gb
   by_cases c : a = b
   ·rw [ifP c]
    subst c
    right
    rw [show cutV (l.length : Int) j (l.length : Int) = some () by rw [cutV, if_pos (by omega)]]
    simp only [oB]
    obtain ⟨⟨cs, kv⟩, r1, r2, r3, r4, r5, r6⟩ := forN_inv (body := m8 l j) (fun k2 p => p.1.length = l.length ∧ j ≤ p.2 ∧ p.2 ≤ j + k2 - 1 ∧ p.1.take p.2.toNat = ddN l (j + k2).toNat ∧ ∀ i : Nat, j + k2 - 1 ≤ i → p.1[i]? = l[i]?) ((l.length : Int) - j - 1).toNat 1 (l, j) ⟨rfl, by simp, by dsimp only; omega, by
      dsimp only
      rw [show (j + 1).toNat = j.toNat + 1 by omega, ddN, if_neg, List.append_nil, ddN_all j.toNat (by omega) fun i h0 h1 => hP i h0 (by omega)]
      rw [decide_eq_true_eq]
      rintro (h | h)
      ·omega
      ·exact h (ga.trans gb.symm), fun i _ => rfl⟩ (fun k2 ⟨cs, kv⟩ k0 k1 ⟨g1, g2, g3, g4, g5⟩ => by
      dsimp only at g1 g2 g3 g4 g5 ⊢
      obtain ⟨x, hx, gx⟩ := i9 (l := l) (i := j + k2) (by omega) (by omega)
      obtain ⟨y, hy, gy⟩ := i9 (l := l) (i := j + k2 - 1) (by omega) (by omega)
      have iv : ∀ i : Int, 0 ≤ i → i < (l.length : Int) - j → ixV cs (0 + j) ((l.length : Int) - j) i = ix cs (j + i) := fun i h0 h1 => by
       rw [ixV, if_pos (by omega), Int.zero_add]
      have same : ∀ i : Int, j + k2 - 1 ≤ i → ix cs i = ix l i := fun i hi => by
       have := g5 i.toNat (by omega)
       simp only [ix]
       rw [this]
      unfold m8
      dsimp only
      rw [iv k2 (by omega) (by omega), iv (k2 - 1) (by omega) (by omega), show j + (k2 - 1) = j + k2 - 1 by omega, same _ (by omega), same _ (by omega), hx, hy]
      simp only [oB, equal_eq, C7]
      have ek : (j + (k2 + 1)).toNat = (j + k2).toNat + 1 := by omega
      have ek1 : (j + k2 - 1).toNat = (j + k2).toNat - 1 := by omega
      rw [ek1] at gy
      by_cases cx : x = y
      ·rw [ifNN cx]
       refine ⟨_, rfl, g1, g2, by omega, ?_, fun i hi => g5 i (by omega)⟩
       dsimp only
       rw [ek, ddN, if_neg, List.append_nil]
       ·exact g4
       ·rw [decide_eq_true_eq]
        rintro (h | h)
        ·omega
        ·exact h (by rw [gx, gy, cx])
      ·rw [ifP cx]
       obtain ⟨z, hz, gz⟩ := i9 (l := cs) (i := kv) (by omega) (by omega)
       simp only [hz, oB]
       rw [k8 (by omega) (by omega)]
       refine ⟨_, rfl, by rw [List.length_set]; exact g1, by omega, by omega, ?_, fun i hi => ?_⟩
       ·dsimp only
        rw [ek, ddN, if_pos, gx, show (kv + 1).toNat = kv.toNat + 1 by omega, List.take_add_one, List.getElem?_set, if_pos rfl, if_pos (by omega), List.take_set_of_le (Nat.le_refl _), g4]
        rw [decide_eq_true_eq]
        exact .inr (by rw [gx, gy]; simpa using cx)
       ·dsimp only
        rw [List.getElem?_set, if_neg (by omega)]
        exact g5 i (by omega))
    have ef : forR 1 ((l.length : Int) - j) (m8 l j) (l, j) = some (cs, kv) := r1
    dsimp only at r2 r3 r4 r5 r6
    rw [ef]
    simp only [oB]
    have hcl : (clrL cs (0 + kv) ((cs.length : Int) - kv) []).length = cs.length := by simp [clrL]; omega
    rw [show cutV (cs.length : Int) kv (cs.length : Int) = some () by rw [cutV, if_pos (by omega)]]
    simp only [oB, hcl]
    rw [show cutV (cs.length : Int) 0 kv = some () by rw [cutV, if_pos (by omega)]]
    refine ⟨_, rfl, ?_⟩
    have e1 : r9 (clrL cs (0 + kv) ((cs.length : Int) - kv) []) 0 kv = cs.take kv.toNat := by
     simp only [r9, clrL, Int.zero_add, Int.toNat_zero, List.drop_zero]
     rw [List.append_assoc, List.take_append_of_le_length (by simp; omega), List.take_take, Nat.min_self]
    rw [e1, r5]
    congr 1
    omega
   ·rw [ifN c]
    left
    refine ⟨(), rfl, fun i h0 h1 => ?_⟩
    by_cases e : (i : Int) = j
    ·have : i = j.toNat := by omega
     subst this
     rw [ga, gb]
     simpa using c
    ·exact hP i h0 (by omega))
  rcases key with ⟨_, h1, h2⟩ | ⟨o, h1, rfl⟩
  ·have : rngX 1 (l.length : Int) (l7 l) () = some (.inl ()) := h1
   rw [this]
   simp only [oB]
   rw [ddN_all l.length (Nat.le_refl _) fun i h0 h1 => h2 i h0 (by omega), List.take_length]
  ·have : rngX 1 (l.length : Int) (l7 l) () = some (.inr (ddN l l.length)) := h1
   rw [this]; rfl
theorem normal_eq {l : List (List Int)} (hl : l.length ≤ 1000000) : ∃ r, G4 l = some r ∧ Ord r ∧ (∀ x, x ∈ r ↔ x ∈ l) ∧ r.length ≤ l.length := by
 unfold G4
 rw [sortFL_eq (by omega) cmp_ok]
 simp only [oB]
 have hlen : (l.mergeSort fun x y => decide (¬ cmpL y x < 0)).length = l.length := by simp
 rw [compactF_eq (by rw [hlen]; exact hl)]
 have hs : (l.mergeSort fun x y => decide (¬ cmpL y x < 0)).Pairwise fun a b => ¬ llt b a := by
  have := List.pairwise_mergeSort (le := fun x y : List Int => decide (¬ cmpL y x < 0)) (fun a b c h1 h2 => by
   simp only [decide_eq_true_eq, S2] at h1 h2 ⊢
   intro h
   rcases Q6 b a with g | g | g
   ·exact h1 g
   ·subst g; exact h2 h
   ·exact h2 (Q5 h g)) (fun a b => by
   simp only [Bool.or_eq_true, decide_eq_true_eq, S2]
   by_cases h : llt b a
   ·exact .inr fun g => llt_asymm h g
   ·exact .inl h) l
  exact this.imp fun h => by simpa [S2] using h
 obtain ⟨h1, h2⟩ := ddN_spec hs _ (Nat.le_refl _)
 refine ⟨_, rfl, h1, fun x => ?_, ?_⟩
 ·rw [h2, List.take_length]; simp
 ·have := ddN_len (l.mergeSort fun x y => decide (¬ cmpL y x < 0)) (l.mergeSort fun x y => decide (¬ cmpL y x < 0)).length
  rw [hlen] at this
  rw [hlen]; exact this
end Ab
end
section
namespace Ab
open Go
inductive Ed : Nat → List Int → List Int → Prop
 | nil : Ed 0 [] []
 | keep {n : Nat} {x : Int} {a b : List Int} (h : Ed n a b) : Ed n (x :: a) (x :: b)
 | del {n : Nat} {x : Int} {a b : List Int} (h : Ed n a b) : Ed (n + 1) (x :: a) b
 | ins {n : Nat} {y : Int} {a b : List Int} (h : Ed n a b) : Ed (n + 1) a (y :: b)
theorem Ed.symm {n : Nat} {a b : List Int} (h : Ed n a b) : Ed n b a := by
 induction h with
 | nil => exact .nil
 | keep _ ih => exact .keep ih
 | del _ ih => exact .ins ih
 | ins _ ih => exact .del ih
theorem Ed.refl : ∀ a : List Int, Ed 0 a a
 | [] => .nil
 | _ :: a => .keep (Ed.refl a)
theorem Ed.eq {n : Nat} {a b : List Int} (h : Ed n a b) : n = 0 → a = b := by
 induction h with
 | nil => intro _; rfl
 | keep _ ih => intro h; rw [ih h]
 | del => intro h; omega
 | ins => intro h; omega
theorem Ed.trans {n m : Nat} {a b c : List Int} (h : Ed n a b) (k : Ed m b c) : ∃ q, q ≤ n + m ∧ Ed q a c := by
 induction h generalizing m c with
 | nil => exact ⟨m, by omega, k⟩
 | @keep n x a b h ih =>
  generalize hb : x :: b = b' at k
  induction k with
  | nil => cases hb
  | keep k _ =>
   cases hb
   obtain ⟨q, h1, h2⟩ := ih k
   exact ⟨q, h1, .keep h2⟩
  | del k _ =>
   cases hb
   obtain ⟨q, h1, h2⟩ := ih k
   exact ⟨q + 1, by omega, .del h2⟩
  | ins k ihk =>
   obtain ⟨q, h1, h2⟩ := ihk hb
   exact ⟨q + 1, by omega, .ins h2⟩
 | del h ih =>
  obtain ⟨q, h1, h2⟩ := ih k
  exact ⟨q + 1, by omega, .del h2⟩
 | @ins n y a b h ih =>
  generalize hb : y :: b = b' at k
  induction k with
  | nil => cases hb
  | keep k _ =>
   cases hb
   obtain ⟨q, h1, h2⟩ := ih k
   exact ⟨q + 1, by omega, .ins h2⟩
  | del k _ =>
   cases hb
   obtain ⟨q, h1, h2⟩ := ih k
   exact ⟨q, by omega, h2⟩
  | ins k ihk =>
   obtain ⟨q, h1, h2⟩ := ihk hb
   exact ⟨q + 1, by omega, .ins h2⟩
theorem Ed.keepR {n : Nat} {a b : List Int} (x : Int) (h : Ed n a b) : Ed n (a ++ [x]) (b ++ [x]) := by
 induction h with
 | nil => exact .keep .nil
 | keep _ ih => exact .keep ih
 | del _ ih => exact .del ih
 | ins _ ih => exact .ins ih
theorem Ed.delR {n : Nat} {a b : List Int} (x : Int) (h : Ed n a b) : Ed (n + 1) (a ++ [x]) b := by
 induction h with
 | nil => exact .del .nil
 | keep _ ih => exact .keep ih
 | del _ ih => exact .del ih
 | ins _ ih => exact .ins ih
theorem Ed.insR {n : Nat} {a b : List Int} (x : Int) (h : Ed n a b) : Ed (n + 1) a (b ++ [x]) := by
 induction h with
 | nil => exact .ins .nil
 | keep _ ih => exact .keep ih
 | del _ ih => exact .del ih
 | ins _ ih => exact .ins ih
theorem Ed.rev {n : Nat} {a b : List Int} (h : Ed n a b) : Ed n a.reverse b.reverse := by
 induction h with
 | nil => exact .nil
 | keep _ ih => simpa using ih.keepR _
 | del _ ih => simpa using ih.delR _
 | ins _ ih => simpa using ih.insR _
def dmG (x : Int) (f : List Int → Nat) (n : Nat) : List Int → Nat
 | [] => n
 | y :: b => if x = y then min (min (f (y :: b)) (dmG x f n b) + 1) (f b) else min (f (y :: b)) (dmG x f n b) + 1
def dm : List Int → List Int → Nat
 | [], b => b.length
 | x :: a, b => dmG x (dm a) (a.length + 1) b
theorem dm_nil : ∀ a : List Int, dm a [] = a.length
 | [] => rfl
 | _ :: _ => rfl
theorem W7 (x y : Int) (a b : List Int) : dm (x :: a) (y :: b) = if x = y then min (min (dm a (y :: b)) (dm (x :: a) b) + 1) (dm a b) else min (dm a (y :: b)) (dm (x :: a) b) + 1 := rfl
theorem Ed.all : ∀ b : List Int, Ed b.length [] b
 | [] => .nil
 | _ :: b => .ins (Ed.all b)
theorem Ed.none : ∀ b : List Int, Ed b.length b []
 | [] => .nil
 | _ :: b => .del (Ed.none b)
theorem dm_ed : ∀ a b : List Int, Ed (dm a b) a b
 | [], b => Ed.all b
 | x :: a, [] => Ed.none (x :: a)
 | x :: a, y :: b => by
  have h1 := (dm_ed a (y :: b)).del (x := x)
  have h2 := (dm_ed (x :: a) b).ins (y := y)
  have h3 := dm_ed a b
  rw [W7]
  have hmin : Ed (min (dm a (y :: b)) (dm (x :: a) b) + 1) (x :: a) (y :: b) := by
   rcases Nat.le_total (dm a (y :: b)) (dm (x :: a) b) with h | h
   ·rw [Nat.min_eq_left h]; exact h1
   ·rw [Nat.min_eq_right h]; exact h2
  by_cases hxy : x = y
  ·subst hxy
   rw [if_pos rfl]
   rcases Nat.le_total (min (dm a (x :: b)) (dm (x :: a) b) + 1) (dm a b) with h | h
   ·rw [Nat.min_eq_left h]; exact hmin
   ·rw [Nat.min_eq_right h]; exact .keep h3
  ·rw [if_neg hxy]; exact hmin
termination_by a b => a.length + b.length
theorem dm_le {n : Nat} {a b : List Int} (h : Ed n a b) : dm a b ≤ n := by
 induction h with
 | nil => exact Nat.le_refl _
 | keep _ ih => rw [W7, if_pos rfl]; omega
 | @del n x a b h ih =>
  cases b with
  | nil => rw [dm_nil] at ih ⊢; simp; omega
  | cons y b =>
   rw [W7]
   split <;> omega
 | @ins n y a b h ih =>
  cases a with
  | nil => simp only [dm, List.length_cons] at ih ⊢; omega
  | cons x a =>
   rw [W7]
   split <;> omega
theorem dm_len (a b : List Int) : dm a b ≤ a.length + b.length := by
 have h : Ed (b.length + a.length) a b := by
  induction a with
  | nil => exact Ed.all b
  | cons x a ih => exact .del ih
 have := dm_le h
 omega
theorem dm_rev (a b : List Int) : dm a.reverse b.reverse = dm a b := by
 have h1 := dm_le (dm_ed a b).rev
 have h2 := dm_le (dm_ed a.reverse b.reverse).rev
 simp only [List.reverse_reverse] at h2
 omega
/-! ### Distance -/
def N4 (m : Nat) (f : Nat → Nat) (row : List Int) : Prop := row.length = m + 1 ∧ ∀ k, k ≤ m → row[k]? = some (f k : Int)
theorem N4.ix {m : Nat} {f : Nat → Nat} {row : List Int} (h : N4 m f row) {k : Nat} (hk : k ≤ m) : ix row (k : Int) = some (f k : Int) := by rw [o6]; exact h.2 k hk
theorem N4.set {m : Nat} {f : Nat → Nat} {row : List Int} (h : N4 m f row) (k v : Nat) : N4 m (fun i => if i = k then v else f i) (row.set k (v : Int)) := by
 refine ⟨by rw [List.length_set]; exact h.1, fun i hi => ?_⟩
 rw [List.getElem?_set]
 by_cases e : k = i
 ·subst e; simp [h.1]; omega
 ·rw [if_neg e, h.2 i hi]; simp [show ¬ i = k from fun e' => e e'.symm]
theorem N4.congr {m : Nat} {f g : Nat → Nat} {row : List Int} (h : N4 m f row) (hg : ∀ k, k ≤ m → f k = g k) : N4 m g row := ⟨h.1, fun k hk => by rw [h.2 k hk, hg k hk]⟩
def rk (l : List Int) (k : Nat) : List Int := (l.take k).reverse
theorem rk_succ {l : List Int} {k : Nat} {x : Int} (h : l[k]? = some x) : rk l (k + 1) = x :: rk l k := by
 have hl := (List.getElem?_eq_some_iff.1 h)
 obtain ⟨hl, rfl⟩ := hl
 simp only [rk, List.take_succ_eq_append_getElem hl, List.reverse_append]
 rfl
theorem rk_len {l : List Int} {k : Nat} (h : k ≤ l.length) : (rk l k).length = k := by simp [rk]; omega
theorem rk_all (l : List Int) : rk l l.length = l.reverse := by simp [rk]
theorem distance_in {a b : List Int} (ha : a.length ≤ 60) (hb : b.length ≤ 60) {i : Nat} {x : Int} (hx : a[i]? = some x) {row : List Int} (h : N4 b.length (fun k => dm (rk a i) (rk b k)) row) :
  ∃ row', B6 a b (i : Int) row = some row' ∧ N4 b.length (fun k => dm (rk a (i + 1)) (rk b k)) row' := by
 have hi := (List.getElem?_eq_some_iff.1 hx).1
 unfold B6
 have e0 : ix row 0 = some (dm (rk a i) (rk b 0) : Int) := h.ix (k := 0) (Nat.zero_le _)
 have ex : ix a (i : Int) = some x := by rw [o6]; exact hx
 have ra := rk_succ hx
 have b1 : ∀ (p q : Nat), p ≤ a.length → q ≤ b.length → dm (rk a p) (rk b q) ≤ 120 := fun p q hp hq => by
  have := dm_len (rk a p) (rk b q)
  rw [rk_len hp, rk_len hq] at this
  omega
 have d0 : dm (rk a (i + 1)) (rk b 0) = dm (rk a i) (rk b 0) + 1 := by
  have e : rk b 0 = [] := by simp [rk]
  rw [e, dm_nil, dm_nil, rk_len (by omega), rk_len (by omega)]
 simp only [ex, e0, oB]
 rw [k8 (by omega) (by have := b1 i 0 (by omega) (by omega); omega)]
 obtain ⟨⟨r', dg⟩, h1, h2⟩ := C9 (body := F6 b x) (n := (b.length : Int)) (s := (row.set (0 : Int).toNat ((dm (rk a i) (rk b 0) : Nat) + 1 : Int), (dm (rk a i) (rk b 0) : Int)))
  (fun j s => ∃ jn : Nat, j = jn ∧ N4 b.length (fun k => if k ≤ jn then dm (rk a (i + 1)) (rk b k) else dm (rk a i) (rk b k)) s.1 ∧ s.2 = (dm (rk a i) (rk b jn) : Int)) (by omega)
  ⟨0, rfl, (h.set 0 (dm (rk a i) (rk b 0) + 1)).congr (fun k hk => by
   by_cases e : k = 0
   ·subst e; simp [d0]
   ·rw [if_neg e, if_neg (by omega)]), rfl⟩
  (fun j s h0 hj hP => by
   obtain ⟨jn, rfl, hr, hd⟩ := hP
   obtain ⟨r, dg⟩ := s
   simp only at hr hd
   subst hd
   have hjn : jn < b.length := by omega
   obtain ⟨y, hy1, hy2⟩ := i9 (l := b) (i := (jn : Int)) (by omega) (by omega)
   rw [Int.toNat_natCast] at hy2
   have rb := rk_succ hy2
   have q1 : ix r (jn : Int) = some (dm (rk a (i + 1)) (rk b jn) : Int) := by rw [hr.ix (by omega), if_pos (Nat.le_refl _)]
   have q2 : ix r ((jn : Int) + 1) = some (dm (rk a i) (rk b (jn + 1)) : Int) := by
    have := hr.ix (k := jn + 1) (by omega)
    rw [if_neg (by omega)] at this
    exact this
   have m1 := b1 (i + 1) jn (by omega) (by omega)
   have m2 := b1 i (jn + 1) (by omega) (by omega)
   have m3 := b1 i jn (by omega) (by omega)
   have dc := W7 x y (rk a i) (rk b jn)
   rw [← rb, ← ra] at dc
   refine ⟨(r.set (jn + 1) (dm (rk a (i + 1)) (rk b (jn + 1)) : Int), (dm (rk a i) (rk b (jn + 1)) : Int)), ?_, jn + 1, by omega, ?_, rfl⟩
   ·unfold F6
    simp only [hy1, q1, q2, oB]
    rw [k8 (by omega) (by omega)]
    rw [show (((jn : Int) + 1).toNat) = jn + 1 by omega]
    by_cases hxy : x = y
    ·rw [if_pos hxy] at dc ⊢
     simp only [oB]
     rw [show min (min (dm (rk a (i + 1)) (rk b jn) : Int) (dm (rk a i) (rk b (jn + 1)) : Int) + 1) (dm (rk a i) (rk b jn) : Int) = (dm (rk a (i + 1)) (rk b (jn + 1)) : Int) by rw [dc]; omega]
    ·rw [if_neg hxy] at dc ⊢
     simp only [oB]
     rw [show min (dm (rk a (i + 1)) (rk b jn) : Int) (dm (rk a i) (rk b (jn + 1)) : Int) + 1 = (dm (rk a (i + 1)) (rk b (jn + 1)) : Int) by rw [dc]; omega]
   ·refine (hr.set (jn + 1) _).congr fun k hk => ?_
    by_cases e : k = jn + 1
    ·subst e; simp
    ·rw [if_neg e]
     by_cases e2 : k ≤ jn
     ·rw [if_pos e2, if_pos (by omega)]
     ·rw [if_neg e2, if_neg (by omega)])
 obtain ⟨jn, hjn, hr, hd⟩ := h2
 have hjn' : jn = b.length := by omega
 subst hjn'
 refine ⟨r', ?_, hr.congr fun k hk => by rw [if_pos hk]⟩
 rw [show (((dm (rk a i) (rk b 0) : Nat) : Int) + 1) = ((dm (rk a i) (rk b 0) : Nat) + 1 : Int) from rfl, h1]
 rfl
theorem distance_eq {a b : List Int} (ha : a.length ≤ 60) (hb : b.length ≤ 60) : E6 a b = some ((dm a b : Int), ⟨0, 0⟩) := by
 unfold E6
 have c1 : ¬ (60 : Int) < a.length := by omega
 have c2 : ¬ (60 : Int) < b.length := by omega
 simp only [c1, c2, decide_false, Bool.or_self, if_false, Bool.false_eq_true]
 rw [k8 (by omega) (by omega)]
 have hmk : mkL 8 ((b.length : Int) + 1) (0 : Int) = some (List.replicate (b.length + 1) 0) := by
  unfold mkL
  rw [if_pos ⟨by omega, by omega, by omega⟩]
  rw [show ((b.length : Int) + 1).toNat = b.length + 1 by omega]
 simp only [hmk, oB, List.length_replicate]
 obtain ⟨row, h1, h2⟩ := C9 (body := E0) (n := ((b.length + 1 : Nat) : Int)) (s := List.replicate (b.length + 1) (0 : Int))
  (fun j s => ∃ jn : Nat, j = jn ∧ s.length = b.length + 1 ∧ ∀ k, k < jn → s[k]? = some (k : Int)) (by omega) ⟨0, rfl, by simp, fun k hk => by omega⟩
  (fun j s h0 hj hP => by
   obtain ⟨jn, rfl, hl, hk⟩ := hP
   obtain ⟨y, hy1, hy2⟩ := i9 (l := s) (i := (jn : Int)) (by omega) (by omega)
   refine ⟨s.set jn (jn : Int), ?_, jn + 1, by omega, by simpa using hl, fun k hk' => ?_⟩
   ·unfold E0
    simp only [hy1, oB, Int.toNat_natCast]
   ·rw [List.getElem?_set]
    by_cases e : jn = k
    ·subst e; simp; omega
    ·rw [if_neg e]; exact hk k (by omega))
 obtain ⟨jn, hjn, hl, hk⟩ := h2
 have hrow : N4 b.length (fun k => dm (rk a 0) (rk b k)) row := ⟨hl, fun k hk' => by
  have e : rk a 0 = [] := by simp [rk]
  rw [hk k (by omega), e]
  simp only [dm, rk_len hk']⟩
 rw [h1]
 simp only [oB]
 obtain ⟨row', g1, g2⟩ := C9 (body := B6 a b) (n := (a.length : Int)) (s := row)
  (fun j s => ∃ jn : Nat, j = jn ∧ N4 b.length (fun k => dm (rk a jn) (rk b k)) s) (by omega) ⟨0, rfl, hrow⟩
  (fun j s h0 hj hP => by
   obtain ⟨jn, rfl, hr⟩ := hP
   obtain ⟨x, hx1, hx2⟩ := i9 (l := a) (i := (jn : Int)) (by omega) (by omega)
   rw [Int.toNat_natCast] at hx2
   obtain ⟨r', k1, k2⟩ := distance_in ha hb hx2 hr
   exact ⟨r', k1, jn + 1, by omega, k2⟩)
 obtain ⟨jn, hjn, hr⟩ := g2
 have e : jn = a.length := by omega
 subst e
 rw [g1]
 simp only [oB]
 rw [hr.ix (Nat.le_refl _)]
 simp only [rk_all, dm_rev, oB]
end Ab
end
section
namespace Ab
open Go
def lcG (x : Int) (f : List Int → Nat) : List Int → Nat
 | [] => 0
 | y :: b => if x = y then max (max (f (y :: b)) (lcG x f b)) (f b + 1) else max (f (y :: b)) (lcG x f b)
def lc : List Int → List Int → Nat
 | [], _ => 0
 | x :: a, b => lcG x (lc a) b
theorem lc_nil : ∀ a : List Int, lc a [] = 0
 | [] => rfl
 | _ :: _ => rfl
theorem lc_cons (x y : Int) (a b : List Int) : lc (x :: a) (y :: b) = if x = y then max (max (lc a (y :: b)) (lc (x :: a) b)) (lc a b + 1) else max (lc a (y :: b)) (lc (x :: a) b) := rfl
theorem dm_lc : ∀ a b : List Int, dm a b + 2 * lc a b = a.length + b.length
 | [], b => by simp [dm, lc]
 | x :: a, [] => by rw [dm_nil, lc_nil]; simp
 | x :: a, y :: b => by
  have h1 := dm_lc a (y :: b)
  have h2 := dm_lc (x :: a) b
  have h3 := dm_lc a b
  rw [W7, lc_cons]
  simp only [List.length_cons] at h1 h2 ⊢
  by_cases e : x = y
  ·rw [if_pos e, if_pos e]; omega
  ·rw [if_neg e, if_neg e]; omega
termination_by a b => a.length + b.length
theorem lc_le (a b : List Int) : lc a b ≤ a.length := by
 have h := dm_lc a b
 have hs : dm a b + a.length ≥ b.length := by
  have key : ∀ {n : Nat} {a b : List Int}, Ed n a b → b.length ≤ a.length + n := fun h => by
   induction h <;> simp only [List.length_cons, List.length_nil] <;> omega
  have := key (dm_ed a b); omega
 omega
theorem drop_cons {l : List Int} {k : Nat} {x : Int} (h : l[k]? = some x) : l.drop k = x :: l.drop (k + 1) := by
 obtain ⟨hl, rfl⟩ := List.getElem?_eq_some_iff.1 h
 exact List.drop_eq_getElem_cons hl
structure Tab (a b : List Int) (i j : Nat) (t : List (List Int)) : Prop where
 len : t.length = a.length + 1
 row : ∀ k r, i ≤ k → t[k]? = some r → r.length = b.length + 1
 low : ∀ k r, i < k → t[k]? = some r → ∀ q, q ≤ b.length → r[q]? = some (lc (a.drop k) (b.drop q) : Int)
 cur : ∀ r, t[i]? = some r → ∀ q, j ≤ q → q ≤ b.length → r[q]? = some (lc (a.drop i) (b.drop q) : Int)
theorem Tab.get {a b : List Int} {i j : Nat} {t : List (List Int)} (h : Tab a b i j t) {k : Nat} (hk : k ≤ a.length) : ∃ r, ix t (k : Int) = some r ∧ t[k]? = some r := by
 obtain ⟨r, h1, h2⟩ := i9 (l := t) (i := (k : Int)) (by omega) (by rw [h.len]; omega)
 exact ⟨r, h1, by simpa using h2⟩
theorem apart_in {a b : List Int} (ha : a.length ≤ 60) (hb : b.length ≤ 60) {i j : Nat} (hi : i < a.length) (hj : j < b.length) {t : List (List Int)} (h : Tab a b i (j + 1) t) :
  ∃ t', y8 a b (i : Int) (t, (j : Int)) = some (.inl (t', (j : Int) - 1)) ∧ Tab a b i j t' := by
 obtain ⟨r, r1, r2⟩ := h.get (Nat.le_of_lt hi)
 obtain ⟨s, s1, s2⟩ := h.get (k := i + 1) (by omega)
 obtain ⟨x, x1, x2⟩ := i9 (l := a) (i := (i : Int)) (by omega) (by omega)
 obtain ⟨y, y1, y2⟩ := i9 (l := b) (i := (j : Int)) (by omega) (by omega)
 rw [Int.toNat_natCast] at x2 y2
 have hr := h.row i r (Nat.le_refl _) r2
 have hs := h.row (i + 1) s (by omega) s2
 have da := drop_cons x2
 have db := drop_cons y2
 have c := lc_cons x y (a.drop (i + 1)) (b.drop (j + 1))
 rw [← da, ← db] at c
 have k1 : ix s (j : Int) = some (lc (a.drop (i + 1)) (b.drop j) : Int) := by rw [o6]; exact h.low (i + 1) s (by omega) s2 j (by omega)
 have k2 : ix s ((j : Int) + 1) = some (lc (a.drop (i + 1)) (b.drop (j + 1)) : Int) := by
  have := h.low (i + 1) s (by omega) s2 (j + 1) (by omega)
  rw [← o6] at this; exact this
 have k3 : r[j + 1]? = some (lc (a.drop i) (b.drop (j + 1)) : Int) := h.cur r r2 (j + 1) (Nat.le_refl _) (by omega)
 obtain ⟨v0, v1, _⟩ := i9 (l := r) (i := (j : Int)) (by omega) (by omega)
 have bd : ∀ p q, lc (a.drop p) (b.drop q) ≤ 60 := fun p q => by
  have := lc_le (a.drop p) (b.drop q)
  simp only [List.length_drop] at this
  omega
 have b1 := bd (i + 1) j; have b2 := bd (i + 1) (j + 1); have b3 := bd i (j + 1)
 -- rows written at (i, j)
 have wset : ∀ (t0 : List (List Int)) (r0 : List Int) (v : Int), t0.length = a.length + 1 → t0[i]? = some r0 → r0.length = b.length + 1 → (∀ k, k ≠ i → t0[k]? = t[k]?) → (∀ q, q ≠ j → r0[q]? = r[q]?) →
   (t0.set i (r0.set j v)).length = a.length + 1 ∧ (t0.set i (r0.set j v))[i]? = some (r0.set j v) ∧ (r0.set j v).length = b.length + 1 ∧ (∀ k, k ≠ i → (t0.set i (r0.set j v))[k]? = t[k]?) ∧ (∀ q, q ≠ j → (r0.set j v)[q]? = r[q]?) ∧ (r0.set j v)[j]? = some v :=
  fun t0 r0 v g1 g2 g3 g4 g5 => ⟨by simpa using g1, by rw [List.getElem?_set]; simp; omega, by simpa using g3, fun k hk => by rw [List.getElem?_set, if_neg (fun e => hk e.symm)]; exact g4 k hk, fun q hq => by rw [List.getElem?_set, if_neg (fun e => hq e.symm)]; exact g5 q hq, by rw [List.getElem?_set]; simp; omega⟩
 have fin : ∀ (t0 : List (List Int)) (r0 : List Int), t0.length = a.length + 1 → t0[i]? = some r0 → r0.length = b.length + 1 → (∀ k, k ≠ i → t0[k]? = t[k]?) → (∀ q, q ≠ j → r0[q]? = r[q]?) → r0[j]? = some (lc (a.drop i) (b.drop j) : Int) → Tab a b i j t0 :=
  fun t0 r0 g1 g2 g3 g4 g5 g6 =>
  {len := g1
   row := fun k r' hk hr' => by
    by_cases e : k = i
    ·subst e; rw [g2] at hr'; cases hr'; exact g3
    ·rw [g4 k e] at hr'; exact h.row k r' hk hr'
   low := fun k r' hk hr' q hq => by
    rw [g4 k (by omega)] at hr'
    exact h.low k r' hk hr' q hq
   cur := fun r' hr' q hq hq' => by
    rw [g2] at hr'; cases hr'
    by_cases e : q = j
    ·subst e; exact g6
    ·rw [g5 q e]; exact h.cur r r2 q (by omega) hq' }
 have e1 : w64 ((i : Int) + 1) = ((i + 1 : Nat) : Int) := k8 (by omega) (by omega)
 have e2 : w64 ((j : Int) + 1) = (j : Int) + 1 := k8 (by omega) (by omega)
 have e3 : w64 ((j : Int) - 1) = (j : Int) - 1 := k8 (by omega) (by omega)
 have t1 := wset t r (lc (a.drop (i + 1)) (b.drop j) : Int) h.len r2 hr (fun _ _ => rfl) (fun _ _ => rfl)
 generalize hT1 : t.set i (r.set j (lc (a.drop (i + 1)) (b.drop j) : Int)) = T1 at t1
 generalize hR1 : r.set j (lc (a.drop (i + 1)) (b.drop j) : Int) = R1 at t1 hT1
 obtain ⟨p1, p2, p3, p4, p5, p6⟩ := t1
 have i1 : ix T1 (i : Int) = some R1 := by rw [o6]; exact p2
 have j1 : ix R1 ((j : Int) + 1) = some (lc (a.drop i) (b.drop (j + 1)) : Int) := by
  rw [show ((j : Int) + 1) = ((j + 1 : Nat) : Int) by omega, o6, p5 _ (by omega)]; exact k3
 have j2 : ix R1 (j : Int) = some (lc (a.drop (i + 1)) (b.drop j) : Int) := by rw [o6]; exact p6
 -- the second row: the greater of the two
 have step2 : ∃ T2 R2, (Option.bind (ix T1 (i : Int)) fun a54 => Option.bind (ix a54 (w64 ((j : Int) + 1))) fun a58 => Option.bind (ix T1 (i : Int)) fun a62 => Option.bind (ix a62 (j : Int)) fun a65 => if a65 < a58 then Option.bind (ix T1 (i : Int)) fun a70 => Option.bind (ix T1 (i : Int)) fun a75 => Option.bind (ix a75 (w64 ((j : Int) + 1))) fun a79 => Option.bind (ix a70 (j : Int)) fun a81 => some (T1.set i (a70.set j a79)) else some T1) = some T2 ∧
   T2.length = a.length + 1 ∧ T2[i]? = some R2 ∧ R2.length = b.length + 1 ∧ (∀ k, k ≠ i → T2[k]? = t[k]?) ∧ (∀ q, q ≠ j → R2[q]? = r[q]?) ∧ R2[j]? = some ((max (lc (a.drop (i + 1)) (b.drop j)) (lc (a.drop i) (b.drop (j + 1))) : Nat) : Int) := by
  simp only [i1, e2, j1, j2, oB]
  by_cases hlt : (lc (a.drop (i + 1)) (b.drop j) : Int) < (lc (a.drop i) (b.drop (j + 1)) : Int)
  ·rw [if_pos hlt]
   obtain ⟨q1, q2, q3, q4, q5, q6⟩ := wset T1 R1 (lc (a.drop i) (b.drop (j + 1)) : Int) p1 p2 p3 p4 p5
   exact ⟨_, _, rfl, q1, q2, q3, q4, q5, by rw [q6]; congr 2; omega⟩
  ·rw [if_neg hlt]
   exact ⟨T1, R1, rfl, p1, p2, p3, p4, p5, by rw [p6]; congr 2; omega⟩
 obtain ⟨T2, R2, g0, g1, g2, g3, g4, g5, g6⟩ := step2
 have i2 : ix T2 (i : Int) = some R2 := by rw [o6]; exact g2
 have i3 : ix T2 ((i + 1 : Nat) : Int) = some s := by rw [o6, g4 _ (by omega)]; exact s2
 have j3 : ix R2 (j : Int) = some ((max (lc (a.drop (i + 1)) (b.drop j)) (lc (a.drop i) (b.drop (j + 1))) : Nat) : Int) := by rw [o6]; exact g6
 unfold y8
 dsimp only
 rw [if_pos (by simp; omega)]
 simp only [r1, e1, s1, k1, v1, oB, Int.toNat_natCast, hR1, hT1]
 rw [g0]
 simp only [oB, x1, y1, i3, e2, k2, i2, j3]
 by_cases hxy : x = y
 ·rw [if_pos hxy] at c ⊢
  simp only [oB]
  rw [k8 (by omega) (by omega)]
  by_cases hlt : ((max (lc (a.drop (i + 1)) (b.drop j)) (lc (a.drop i) (b.drop (j + 1))) : Nat) : Int) < (lc (a.drop (i + 1)) (b.drop (j + 1)) : Int) + 1
  ·simp only [hlt, decide_true, if_true, oB, e3]
   obtain ⟨q1, q2, q3, q4, q5, q6⟩ := wset T2 R2 ((lc (a.drop (i + 1)) (b.drop (j + 1)) : Int) + 1) g1 g2 g3 g4 g5
   exact ⟨_, rfl, fin _ _ q1 q2 q3 q4 q5 (by rw [q6]; congr 1; omega)⟩
  ·simp only [hlt, decide_false, Bool.false_eq_true, if_false, oB, e3]
   exact ⟨T2, rfl, fin T2 R2 g1 g2 g3 g4 g5 (by rw [g6]; congr 1; omega)⟩
 ·rw [if_neg hxy] at c ⊢
  simp only [oB, Bool.false_eq_true, if_false, e3]
  exact ⟨T2, rfl, fin T2 R2 g1 g2 g3 g4 g5 (by rw [g6]; congr 1; omega)⟩
theorem apart_row {a b : List Int} (ha : a.length ≤ 60) (hb : b.length ≤ 60) {i : Nat} (hi : i ≤ a.length) {t : List (List Int)} (hl : t.length = a.length + 1) (hrow : ∀ k r, i < k → t[k]? = some r → r.length = b.length + 1)
  (hlow : ∀ k r, i < k → t[k]? = some r → ∀ q, q ≤ b.length → r[q]? = some (lc (a.drop k) (b.drop q) : Int)) :
  ∃ t', D8 a b (t, (i : Int)) = some (.inl (t', (i : Int) - 1)) ∧ Tab a b i 0 t' := by
 have hmk : mkL 8 (w64 ((b.length : Int) + 1)) (0 : Int) = some (List.replicate (b.length + 1) 0) := by
  rw [k8 (by omega) (by omega)]
  unfold mkL
  rw [if_pos ⟨by omega, by omega, by omega⟩]
  rw [show ((b.length : Int) + 1).toNat = b.length + 1 by omega]
 obtain ⟨r, r1, r2⟩ := i9 (l := t) (i := (i : Int)) (by omega) (by omega)
 have hT : Tab a b i b.length (t.set i (List.replicate (b.length + 1) 0)) :=
  {len := by simpa using hl
   row := fun k r hk hr => by
    rw [List.getElem?_set] at hr
    split at hr
    ·split at hr <;> cases hr
     simp
    ·exact hrow k r (by omega) hr
   low := fun k r hk hr => by
    rw [List.getElem?_set, if_neg (by omega)] at hr
    exact hlow k r hk hr
   cur := fun r hr q hq hq' => by
    rw [List.getElem?_set, if_pos rfl] at hr
    split at hr <;> cases hr
    have : q = b.length := by omega
    subst this
    rw [List.drop_length, lc_nil]; simp }
 unfold D8
 dsimp only
 rw [if_pos (by omega)]
 simp only [hmk, r1, oB, Int.toNat_natCast]
 have e3 : w64 ((i : Int) - 1) = (i : Int) - 1 := k8 (by omega) (by omega)
 by_cases hia : i < a.length
 ·obtain ⟨t', h1, h2⟩ := G8 (body := y8 a b (i : Int)) (s := (t.set i (List.replicate (b.length + 1) 0), (b.length : Int) - 1)) (fun s => ∃ j : Nat, j ≤ b.length ∧ s.2 = (j : Int) - 1 ∧ Tab a b i j s.1) (fun o => Tab a b i 0 o) (fun s => (s.2 + 1).toNat) ⟨b.length, Nat.le_refl _, rfl, hT⟩
   (fun s ⟨j, hj, hs, hP⟩ => by
    obtain ⟨t0, j0⟩ := s
    simp only at hs hP
    subst hs
    cases j with
    | zero =>
     right
     refine ⟨t0, ?_, hP⟩
     unfold y8
     dsimp only
     rw [if_neg (by simp)]
    | succ j =>
     left
     obtain ⟨t', g1, g2⟩ := apart_in ha hb hia (by omega) hP
     refine ⟨(t', (j : Int) - 1), by rw [show (((j + 1 : Nat) : Int) - 1) = (j : Int) by omega]; exact g1, ⟨j, by omega, rfl, g2⟩, by simp only; omega⟩)
  rw [h1]
  simp only [oB, e3]
  exact ⟨t', rfl, h2⟩
 ·have he : i = a.length := by omega
  have hl2 : Loop (y8 a b (i : Int)) (t.set i (List.replicate (b.length + 1) 0), (b.length : Int) - 1) = some (t.set i (List.replicate (b.length + 1) 0)) := S7.2 ⟨1, by
   simp only [A5]
   unfold y8
   dsimp only
   rw [if_neg (by simp; omega)]⟩
  rw [hl2]
  simp only [oB, e3]
  refine ⟨_, rfl, { len := hT.len, row := hT.row, low := hT.low, cur := fun r hr q _ hq => ?_ }⟩
  rw [List.getElem?_set, if_pos rfl] at hr
  split at hr <;> cases hr
  rw [he, List.drop_length]
  simp only [lc]
  rw [List.getElem?_replicate, if_pos (by omega)]; rfl
theorem apart_eq {a b : List Int} (ha : a.length ≤ 60) (hb : b.length ≤ 60) : N0 a b = some (dm a b : Int) := by
 have hmk : mkL 24 (w64 ((a.length : Int) + 1)) ([] : List Int) = some (List.replicate (a.length + 1) []) := by
  rw [k8 (by omega) (by omega)]
  unfold mkL
  rw [if_pos ⟨by omega, by omega, by omega⟩]
  rw [show ((a.length : Int) + 1).toNat = a.length + 1 by omega]
 unfold N0
 simp only [hmk, oB]
 obtain ⟨t', h1, h2⟩ := G8 (body := D8 a b) (s := (List.replicate (a.length + 1) ([] : List Int), (a.length : Int)))
  (fun s => ∃ i : Nat, i ≤ a.length + 1 ∧ s.2 = (i : Int) - 1 ∧ s.1.length = a.length + 1 ∧ (∀ k r, i ≤ k → s.1[k]? = some r → r.length = b.length + 1) ∧ ∀ k r, i ≤ k → s.1[k]? = some r → ∀ q, q ≤ b.length → r[q]? = some (lc (a.drop k) (b.drop q) : Int))
  (fun o => ∃ r, ix o 0 = some r ∧ ix r 0 = some (lc a b : Int)) (fun s => (s.2 + 1).toNat)
  ⟨a.length + 1, Nat.le_refl _, by simp, by simp, fun k r hk hr => by
   have := (List.getElem?_eq_some_iff.1 hr).1
   simp only [List.length_replicate] at this; omega, fun k r hk hr => by
   have := (List.getElem?_eq_some_iff.1 hr).1
   simp only [List.length_replicate] at this; omega⟩
  (fun s ⟨i, hi, hs, hl, hrow, hlow⟩ => by
   obtain ⟨t0, j0⟩ := s
   simp only at hs hl hrow hlow
   subst hs
   cases i with
   | zero =>
    right
    obtain ⟨r, r1, r2⟩ := i9 (l := t0) (i := (0 : Int)) (by omega) (by omega)
    refine ⟨t0, ?_, r, r1, ?_⟩
    ·unfold D8
     dsimp only
     rw [if_neg (by simp)]
    ·have := hlow 0 r (Nat.le_refl _) (by simpa using r2) 0 (Nat.zero_le _)
     rw [show (0 : Int) = ((0 : Nat) : Int) from rfl, o6, this]
     simp
   | succ i =>
    left
    obtain ⟨t', g1, g2⟩ := apart_row ha hb (i := i) (by omega) hl (fun k r hk => hrow k r (by omega)) (fun k r hk => hlow k r (by omega))
    refine ⟨(t', (i : Int) - 1), by rw [show (((i + 1 : Nat) : Int) - 1) = (i : Int) by omega]; exact g1, ⟨i, by omega, rfl, g2.len, g2.row, fun k r hk hr q hq => ?_⟩, by simp only; omega⟩
    by_cases e : k = i
    ·subst e; exact g2.cur r hr q (Nat.zero_le _) hq
    ·exact g2.low k r (by omega) hr q hq)
 obtain ⟨r, r1, r2⟩ := h2
 rw [h1]
 simp only [oB, r1, r2]
 have := dm_lc a b
 have := lc_le a b
 have q1 : w64 ((a.length : Int) + b.length) = (a.length : Int) + b.length := k8 (by omega) (by omega)
 have q2 : w64 (2 * (lc a b : Int)) = 2 * (lc a b : Int) := k8 (by omega) (by omega)
 rw [q1, q2, k8 (by omega) (by omega)]
 congr 1
 omega
end Ab
end
section
namespace Ab
open Go
def dg (x : Int) : List Int := if x < 10 then [48 + x] else [48 + x / 10, 48 + x % 10]
def encS (s : List Int) : List Int := s.flatMap (fun x => dg x ++ [44]) ++ [59]
def encK (l : List (List Int)) : List Int := l.flatMap encS
def small (s : List Int) : Prop := ∀ x ∈ s, 0 ≤ x ∧ x < 100
theorem dg_split {x y : Int} (hx : 0 ≤ x ∧ x < 100) (hy : 0 ≤ y ∧ y < 100) {r r' : List Int} (h : dg x ++ 44 :: r = dg y ++ 44 :: r') : x = y ∧ r = r' := by
 unfold dg at h
 split at h <;> split at h <;> simp only [List.cons_append, List.nil_append, List.cons.injEq] at h
 ·exact ⟨by omega, h.2.2⟩
 ·exfalso; omega
 ·exfalso; omega
 ·exact ⟨by omega, h.2.2.2⟩
theorem dg_head {x : Int} (hx : 0 ≤ x ∧ x < 100) : ∃ a l, dg x = a :: l ∧ 48 ≤ a ∧ a < 58 := by
 unfold dg
 split
 ·exact ⟨_, _, rfl, by omega, by omega⟩
 ·exact ⟨_, _, rfl, by omega, by omega⟩
theorem U1 (x : Int) (s : List Int) : encS (x :: s) = dg x ++ 44 :: encS s := by simp [encS]
theorem encS_inj : ∀ {s s' r r' : List Int}, small s → small s' → encS s ++ r = encS s' ++ r' → s = s' ∧ r = r'
 | [], [], r, r', _, _, h => by simp [encS] at h; exact ⟨rfl, h⟩
 | [], y :: s', r, r', _, h2, h => by
  obtain ⟨a, l, ha, h3, h4⟩ := dg_head (h2 y (by simp))
  rw [U1, ha] at h
  simp only [encS, List.flatMap_nil, List.nil_append, List.cons_append, List.cons.injEq] at h
  omega
 | x :: s, [], r, r', h1, _, h => by
  obtain ⟨a, l, ha, h3, h4⟩ := dg_head (h1 x (by simp))
  rw [U1, ha] at h
  simp only [encS, List.flatMap_nil, List.nil_append, List.cons_append, List.cons.injEq] at h
  omega
 | x :: s, y :: s', r, r', h1, h2, h => by
  rw [U1, U1, List.append_assoc, List.append_assoc, List.cons_append, List.cons_append] at h
  obtain ⟨rfl, g⟩ := dg_split (h1 x (by simp)) (h2 y (by simp)) h
  obtain ⟨e1, e2⟩ := encS_inj (s := s) (s' := s') (fun z hz => h1 z (List.mem_cons_of_mem _ hz)) (fun z hz => h2 z (List.mem_cons_of_mem _ hz)) g
  exact ⟨by rw [e1], e2⟩
theorem encK_inj : ∀ {l l' : List (List Int)}, (∀ s ∈ l, small s) → (∀ s ∈ l', small s) → encK l = encK l' → l = l'
 | [], [], _, _, _ => rfl
 | [], s :: l', _, _, h => by
  have h := congrArg List.length h
  simp only [encK, encS, List.flatMap_nil, List.flatMap_cons, List.length_append, List.length_nil, List.length_cons] at h
  omega
 | s :: l, [], _, _, h => by
  have h := congrArg List.length h
  simp only [encK, encS, List.flatMap_nil, List.flatMap_cons, List.length_append, List.length_nil, List.length_cons] at h
  omega
 | s :: l, s' :: l', h1, h2, h => by
  have h : encS s ++ encK l = encS s' ++ encK l' := h
  obtain ⟨e1, e2⟩ := encS_inj (h1 s (List.mem_cons_self ..)) (h2 s' (List.mem_cons_self ..)) h
  have e3 := encK_inj (l := l) (l' := l') (fun z hz => h1 z (List.mem_cons_of_mem _ hz)) (fun z hz => h2 z (List.mem_cons_of_mem _ hz)) e2
  rw [e1, e3]
theorem dg_byte {x : Int} (hx : 0 ≤ x ∧ x < 100) : ∀ a ∈ dg x, 0 ≤ a ∧ a < 256 := by
 intro a ha
 unfold dg at ha
 split at ha <;> simp at ha <;> omega
theorem encS_byte {s : List Int} (h : small s) : ∀ a ∈ encS s, 0 ≤ a ∧ a < 256 := by
 intro a ha
 simp only [encS, List.mem_append, List.mem_flatMap, List.mem_singleton] at ha
 rcases ha with ⟨x, hx, h1 | h1⟩ | h1
 ·exact dg_byte (h x hx) a h1
 ·omega
 ·omega
theorem encK_byte {l : List (List Int)} (h : ∀ s ∈ l, small s) : ∀ a ∈ encK l, 0 ≤ a ∧ a < 256 := by
 intro a ha
 simp only [encK, List.mem_flatMap] at ha
 obtain ⟨s, hs, h1⟩ := ha
 exact encS_byte (h s hs) a h1
theorem strB_inj {l l' : List Int} (h1 : ∀ a ∈ l, 0 ≤ a ∧ a < 256) (h2 : ∀ a ∈ l', 0 ≤ a ∧ a < 256) (h : strB l = strB l') : l = l' := by
 have h3 : l.map (fun n => UInt8.ofNat n.toNat) = l'.map (fun n => UInt8.ofNat n.toNat) := by
  have := congrArg ByteArray.data h
  simpa [strB] using this
 have back : ∀ {m : List Int}, (∀ a ∈ m, 0 ≤ a ∧ a < 256) → (m.map (fun n => UInt8.ofNat n.toNat)).map (fun b => (b.toNat : Int)) = m := by
  intro m hm
  rw [List.map_map]
  conv => rhs; rw [← List.map_id m]
  apply List.map_congr_left
  intro a ha
  have := hm a ha
  simp only [Function.comp_apply, id_eq, UInt8.toNat_ofNat']
  omega
 rw [← back h1, ← back h2, h3]
def keyK (l : List (List Int)) : ByteArray := strB (encK l)
theorem keyK_inj {l l' : List (List Int)} (h1 : ∀ s ∈ l, small s) (h2 : ∀ s ∈ l', small s) (h : keyK l = keyK l') : l = l' := encK_inj h1 h2 (strB_inj (encK_byte h1) (encK_byte h2) h)
/-! ### Maps -/
theorem Y3 {K V : Type} [DecidableEq K] (k k' : K) (v : V) : ∀ m : List (K × V), mget (mset m k v) k' = if k' = k then some v else mget m k'
 | [] => by
  simp only [mset, mget]
 | p :: r => by
  simp only [mset]
  by_cases h : k = p.1
  ·rw [if_pos h]
   simp only [mget]
   by_cases h2 : k' = k
   ·rw [if_pos h2, if_pos h2]
   ·rw [if_neg h2, if_neg h2, if_neg (by rw [← h]; exact h2)]
  ·rw [if_neg h]
   simp only [mget]
   rw [Y3 k k' v r]
   by_cases h2 : k' = p.1
   ·rw [if_pos h2, if_pos h2, if_neg (fun e => h (e.symm.trans h2))]
   ·rw [if_neg h2, if_neg h2]
end Ab
end
section
namespace Ab
open Go
theorem ad6 {α β : Type} {l : List α} {body : Int → List β → Option (List β)} (g : α → List β) (N : Nat) (c0 : List β)
  (hb : ∀ j a c, ix l j = some a → c.length + (g a).length ≤ N → body j c = some (c ++ g a)) (hN : c0.length + (l.flatMap g).length ≤ N) :
  forR 0 (l.length : Int) body c0 = some (c0 ++ l.flatMap g) := by
 obtain ⟨s', h1, h2⟩ := C9 (body := body) (n := (l.length : Int)) (s := c0) (fun j c => c = c0 ++ (l.take j.toNat).flatMap g) (by omega) (by simp) (fun j c h0 h1 hP => by
  obtain ⟨a, g1, g2⟩ := i9 h0 h1
  have e : (j + 1).toNat = j.toNat + 1 := by omega
  have ht : l.take (j + 1).toNat = l.take j.toNat ++ [a] := by rw [e, List.take_add_one, g2]; rfl
  refine ⟨c ++ g a, hb j a c g1 ?_, ?_⟩
  ·have hs : l = l.take j.toNat ++ [a] ++ l.drop (j + 1).toNat := by rw [← ht, List.take_append_drop]
   have hl : (l.flatMap g).length = ((l.take j.toNat).flatMap g).length + (g a).length + ((l.drop (j + 1).toNat).flatMap g).length := by
    conv => lhs; rw [hs]
    simp [List.flatMap_append]; omega
   rw [hP, List.length_append]; omega
  ·rw [ht, List.flatMap_append, hP]; simp)
 rw [h1, h2]
 simp
theorem small_eq : ∀ n : Fin 100, (internal_strconv_small (n : Nat)).map strL = some (dg (n : Nat)) := by decide +kernel
theorem appendInt_eq {x : Int} (hx : 0 ≤ x ∧ x < 100) {l : List Int} (hl : l.length ≤ 1000000) : s9 x 10 l = some (l ++ dg x) := by
 have h := small_eq ⟨x.toNat, by omega⟩
 rw [show (((⟨x.toNat, by omega⟩ : Fin 100) : Nat) : Int) = x by simp; omega] at h
 obtain ⟨b, h1, h2⟩ := Option.map_eq_some_iff.1 h
 first
  | unfold s9 s6 q8
  | unfold s9 internal_strconv_AppendInt_w2 internal_strconv_AppendUint_w3
 rw [if_neg (by omega), IntKind.wrap_u64, Int.emod_eq_of_lt (by omega) (by omega)]
 simp only [oB, if_true]
 rw [if_pos hx.2, k8 (by omega) (by omega), h1]
 simp only [oB, h2]
 have : (dg x).length ≤ 2 := by unfold dg; split <;> simp
 rw [app, if_pos (by omega)]
 rfl
theorem dg_len (x : Int) : (dg x).length ≤ 2 := by unfold dg; split <;> simp
theorem key_eq {l : List (List Int)} (hs : ∀ s ∈ l, small s) (hN : (encK l).length ≤ 900000) : A6 l = some (keyK l) := by
 unfold A6
 rw [ad6 encS 900000 [] (fun j s c hj hc => by
  unfold U9
  rw [hj]
  simp only [oB]
  have hlen : (encS s).length = (s.flatMap fun x => dg x ++ [44]).length + 1 := by simp [encS]
  rw [ad6 (fun x => dg x ++ [44]) 900000 c (fun i x c' hi hc' => by
   unfold V2
   rw [hi]
   simp only [List.length_append, List.length_singleton] at hc'
   simp only [oB, appendInt_eq (hs s (p8 hj) x (p8 hi)) (l := c') (by omega)]
   rw [app, if_pos (by simp; omega)]
   simp) (by omega)]
  simp only [oB]
  rw [app, if_pos (by rw [List.length_append]; simp only [List.length_singleton]; omega)]
  simp [encS]) (by simpa [encK] using hN)]
 rfl
theorem ac6 : ∀ s : List Int, (encS s).length ≤ 3 * s.length + 1
 | [] => by simp [encS]
 | x :: s => by
  have := ac6 s
  have := dg_len x
  rw [U1]
  simp only [List.length_append, List.length_cons]
  omega
theorem key2_eq {s a : List Int} (hs : small s) (ha : small a) (h1 : s.length ≤ 1000) (h2 : a.length ≤ 1000) : A6 [s, a] = some (keyK [s, a]) := by
 refine key_eq (by simp [hs, ha]) ?_
 have := ac6 s; have := ac6 a
 simp only [encK, List.flatMap_cons, List.flatMap_nil, List.length_append, List.append_nil]
 omega
end Ab
end
section
namespace Ab
open Go
theorem U5 {α : Type} [DecidableEq α] : ∀ {c S : List α}, c.Nodup → (∀ x ∈ c, x ∈ S) → c.length ≤ S.length
 | [], _, _, _ => Nat.zero_le _
 | a :: c, S, h, hs => by
  obtain ⟨h1, h2⟩ := List.nodup_cons.1 h
  have ha := hs a (by simp)
  have := U5 (c := c) (S := S.erase a) h2 fun x hx => by
   have hne : x ≠ a := fun e => h1 (e ▸ hx)
   exact (List.mem_erase_of_ne hne).2 (hs x (List.mem_cons_of_mem _ hx))
  rw [List.length_erase_of_mem ha] at this
  have : 0 < S.length := List.length_pos_of_mem ha
  simp only [List.length_cons]
  omega
section
variable {α : Type}
def Dn (G L : α → Prop) (nx : α → List α) : Nat → α → Prop
 | 0, s => G s
 | k + 1, s => G s ∨ (L s ∧ ∀ y ∈ nx s, Dn G L nx k y)
variable {G L : α → Prop} {nx : α → List α}
theorem Dn.goal {k : Nat} {s : α} (h : G s) : Dn G L nx k s := by
 cases k with
 | zero => exact h
 | succ k => exact .inl h
theorem Dn.succ : ∀ {k : Nat} {s : α}, Dn G L nx k s → Dn G L nx (k + 1) s
 | 0, s, h => .inl h
 | k + 1, s, h => by
  rcases h with h | ⟨h1, h2⟩
  ·exact .inl h
  ·exact .inr ⟨h1, fun y hy => (h2 y hy).succ⟩
theorem Dn.mono {k m : Nat} {s : α} (h : Dn G L nx k s) (hm : k ≤ m) : Dn G L nx m s := by
 induction hm with
 | refl => exact h
 | step _ ih => exact ih.succ
def Ht (G L : α → Prop) (nx : α → List α) (k : Nat) (s : α) : Prop := Dn G L nx k s ∧ ∀ j, j < k → ¬ Dn G L nx j s
theorem Ht.unique {k m : Nat} {s : α} (h : Ht G L nx k s) (h' : Ht G L nx m s) : k = m := by
 rcases Nat.lt_trichotomy k m with c | c | c
 ·exact absurd h.1 (h'.2 k c)
 ·exact c
 ·exact absurd h'.1 (h.2 m c)
theorem Ht.le {k m : Nat} {s : α} (h : Ht G L nx k s) (h' : Dn G L nx m s) : k ≤ m := by
 rcases Nat.lt_or_ge m k with c | c
 ·exact absurd h' (h.2 m c)
 ·exact c
theorem Ht.of_dn : ∀ {k : Nat} {s : α}, Dn G L nx k s → ∃ m, m ≤ k ∧ Ht G L nx m s
 | 0, s, h => ⟨0, Nat.le_refl _, h, fun j hj => by omega⟩
 | k + 1, s, h => by
  by_cases c : Dn G L nx k s
  ·obtain ⟨m, h1, h2⟩ := Ht.of_dn c
   exact ⟨m, by omega, h2⟩
  ·exact ⟨k + 1, Nat.le_refl _, h, fun j hj hd => c (hd.mono (by omega))⟩
theorem Ht.zero {s : α} (h : G s) : Ht G L nx 0 s := ⟨h, fun j hj => by omega⟩
theorem Ht.goal {k : Nat} {s : α} (h : Ht G L nx k s) (hg : G s) : k = 0 := h.unique (.zero hg)
theorem Ht.step {k : Nat} {s : α} (h : Ht G L nx k s) (hg : ¬ G s) (hne : ∀ s, L s → nx s ≠ []) : ∃ m, k = m + 1 ∧ L s ∧ (∀ y ∈ nx s, ∃ j, j ≤ m ∧ Ht G L nx j y) ∧ ∃ y ∈ nx s, Ht G L nx m y := by
 cases k with
 | zero => exact absurd h.1 hg
 | succ m =>
  rcases h.1 with g | ⟨h1, h2⟩
  ·exact absurd g hg
  ·refine ⟨m, rfl, h1, fun y hy => Ht.of_dn (h2 y hy), ?_⟩
   cases m with
   | zero =>
    obtain ⟨y, hy⟩ := List.exists_mem_of_ne_nil _ (hne s h1)
    exact ⟨y, hy, h2 y hy, fun j hj => by omega⟩
   | succ m =>
    have hn := h.2 (m + 1) (by omega)
    have : ∃ y ∈ nx s, ¬ Dn G L nx m y := Classical.byContradiction fun hc => hn (.inr ⟨h1, fun y hy => Classical.byContradiction fun hy2 => hc ⟨y, hy, hy2⟩⟩)
    obtain ⟨y, hy, hy2⟩ := this
    exact ⟨y, hy, h2 y hy, fun j hj hd => hy2 (hd.mono (by omega))⟩
end
end Ab
end
