/-
  Texts that the proof stands on.
-/
import Derived.Test.YtfjhmljchkhpnaaGreatDoorKRwRepFails4
set_option linter.all false
section
namespace Ab
open Go Go.Proofs
open Tryz
set_option maxHeartbeats 4000000
set_option linter.all false
attribute [local irreducible] AWP AOps thn inB Done f7 w6 Sub
theorem ak8 {t : d8} {plan : List Int} {r : (List Int) × Int × Bool × k8} (h : M4 t plan = some r) : f7 prog 5 [.agg (tT t), .c (row 1 intI plan)] (.tup [.c (row 1 intI r.1), .c (int r.2.1), .c (bool r.2.2.1), .agg [int r.2.2.2.code, int r.2.2.2.index]]) := by
 unfold f7
 refine FnOk.enter (rs := [.t 4, .t 5, .t 6, .cell 7 27 2]) func5 Z ntmps5 results5 Z ⟨trivial, trivial, trivial, rv _ Z, Y⟩ (by kernel_rfl) Z ?_
 unfold M4 at h
 refine AWP.q (.u (W.box Z Z Z Z Z Z (.v Z Z (.v Z Z (.v Z Z (W.alloc Z Z Z Z (.nil (b5 (.q (.q ?_))))))))))
 obtain ⟨a16, ha16, h⟩ := bind_some h
 refine AWP.u (W.loadAgg Z Z Z Z Z Z Z (.j Z Z (.aa Z Z Z Z (am8 ha16) Z (W.alloc Z Z Z Z (W.storeAgg Z Z Z Z Z Z Z (.nil (b5 (.q (.u (W.loadAgg Z Z Z Z Z Z Z (W.build Z Z Z Z (.neqP Z Z Z Z Z Z Z (.nil (b5 (.ag Z h (fun hc3 h => ?_) (fun hc3 h => ?_))))))))))))))))
 ·refine AWP.q (.drawEI [4] mixed Z Z Z ?_)
  refine d5.consN Z Z (fun E => W.loadAgg Z Z Z Z Z Z Z .N) Z (.consN Z Z (fun E => AOps.v Z Z .N) Z (.consN Z Z (fun E => AOps.v Z Z .N) Z (.consN Z Z (fun E => AOps.v Z Z .N) Z ?_)))
  apply d5.consE (v := .undef); exact Z; exact Z; intro E
  refine W.storeAgg Z Z Z Z Z Z Z .N
  exact Z
  exact Z
  refine d5.done Z ?_ ?_
  ·refine c9.cons Z Z ?_ ?_
   refine b7.go Z Z (fun E => W.loadAgg Z Z Z Z Z Z Z .N) ?_
   refine b7.skip Z (b7.nil)
   refine c9.cons Z Z ?_ ?_
   refine b7.go Z Z (fun E => AOps.v Z Z .N) ?_
   refine b7.skip Z (b7.nil)
   refine c9.cons Z Z ?_ ?_
   refine b7.go Z Z (fun E => AOps.v Z Z .N) ?_
   refine b7.skip Z (b7.nil)
   refine c9.cons Z Z ?_ ?_
   refine b7.go Z Z (fun E => AOps.v Z Z .N) ?_
   refine b7.skip Z (b7.nil)
   refine c9.skip Z (c9.nil)
  dsimp only [j8]
  refine b5 (.nilrow 1 4 Z (.ret (e8 ?_)))
  obtain rfl := oi h
  exact Done.ret Z Z
 ·refine AWP.skip (b5 (.q (.q ?_)))
  obtain ⟨a25, ha25, a26, ha26, h⟩ := b2 h
  refine AWP.sub (s' := ⟨[(0, .agg (tT t)), (1, .c (row 1 intI plan)), (2, .c (.ptr 0 0 0)), (4, .c (.imm (.val nL))), (5, .c (int 0)), (6, .c (bool false)), (7, .c (.ptr 1 0 0)), (8, .c (.ptr 2 0 0)), (14, .agg (tT t)), (15, .c (row 1 intI plan)), (16, .agg [int a16.code, int a16.index]), (17, .agg [int a16.code, int a16.index]), (18, .agg [int 0, int 0]), (19, .c (bool (!((decide (a16.code = 0)) && (decide (a16.index = 0))))))], [.one (.cells 4 [(tT t)]), .one (.cells 2 [[int 0, int 0]]), .one (.cells 2 [[int a16.code, int a16.index]]), .dead, .dead]⟩) (Sub.cut ⟨Z, Z, Z, Z, Z, Z, Z, Z, Z, Z, Z, Z, Z, Z, Y⟩ Z ⟨.one Z, .one Z, .one Z, .dead, .dead, Y⟩ Z) (.drawTI [.c (.ptr 0 0 1), .c (row 1 intI t.init), .c (.own 3 0 ([t.init].length)), .agg (tT t), .c (.fn 42 [.ptr 4 0 0]), .c (bool a26), .c (bool (!a26))] [2, 4, 5] [([], [.one (.cells 4 [(tT t)]), .one (.cells 2 [[int 0, int 0]]), .one (.cells 2 [[int a16.code, int a16.index]]), .dead, .dead]), ([2], [.one (.cells 4 [(tT t)]), .one (.cells 2 [[int 0, int 0]]), .one (.cells 2 [[int a16.code, int a16.index]]), .one (vec 1 g9 [t.init]), .dead]), ([4], [.one (.cells 4 [(tT t)]), .one (.cells 2 [[int 0, int 0]]), .one (.cells 2 [[int a16.code, int a16.index]]), .dead, .one (.cells 4 [(tT t)])]), ([2, 4], [.one (.cells 4 [(tT t)]), .one (.cells 2 [[int 0, int 0]]), .one (.cells 2 [[int a16.code, int a16.index]]), .one (vec 1 g9 [t.init]), .one (.cells 4 [(tT t)])]), ([2, 4, 5], [.one (.cells 4 [(tT t)]), .one (.cells 2 [[int 0, int 0]]), .one (.cells 2 [[int a16.code, int a16.index]]), .dead, .one (.cells 4 [(tT t)])])] [.one (.cells 4 [(tT t)]), .one (.cells 2 [[int 0, int 0]]), .one (.cells 2 [[int a16.code, int a16.index]]), .dead, .one (.cells 4 [(tT t)])] mixed Z Z Z Z Z ?_ ?_)
  ·refine K9.cons ?_ ?_
   ·apply j7.go; exact Z; exact Z; exact Z; intro E hE; (refine W.fieldAddr Z Z Z Z ?_); exact AOps.nil ⟨Z, Z⟩
    apply j7.go; exact Z; exact Z; exact Z; intro E hE; (refine AOps.E Z Z Z Z Z Z ?_); exact AOps.nil ⟨Z, Z⟩
    apply j7.eff; exact Z; exact Z; exact Z; exact Z; intro E hE; (refine AOps.newAt 3 (.c (.own 3 0 ([t.init].length))) (vec 1 g9 [t.init]) (.inl Z) Z hE Z Z Z Z (.vec) (.vec) Z Z Z ⟨.one Z, .one Z, .one Z, .dead, .dead, Y⟩ (fun hh => by (refine S.lit (f := g9) (l := [t.init]) (ess := [[row 1 intI t.init]]) Z Z Z Z Z Z Z ⟨⟨.inl Z, Y⟩, Y⟩ Z Z Z ?_; exact hh)) ?_); exact AOps.nil ⟨Z, Z⟩
    apply j7.go; exact Z; exact Z; exact Z; intro E hE; (refine W.loadAgg Z Z Z Z Z Z Z ?_); exact AOps.nil ⟨Z, Z⟩
    apply j7.eff; exact Z; exact Z; exact Z; exact Z; intro E hE; (refine AOps.newAt 4 (.c (.fn 42 [.ptr 4 0 0])) (.cells 4 [(tT t)]) (.inl Z) Z hE Z Z Z Z (.one Z) (.one Z) Z Z Z ⟨.one Z, .one Z, .one Z, .dead, .dead, Y⟩ (fun hh => by (refine AOps.callF (r2 := .c (.fn 42 [.ptr 5 0 0])) (σ'' := [.one (.cells 4 [(tT t)]), .one (.cells 2 [[int 0, int 0]]), .one (.cells 2 [[int a16.code, int a16.index]]), .dead, .dead, .one (.cells 4 [(tT t)])]) Z Z Z (FnOk.lend [] (ag1 ha25) Z Z Z Z Z Z (by exact trivial) Z (by exact trivial) Z Z (by exact ⟨(.old Z Z Z), (.old Z Z Z), (.old Z Z Z), .dead, .dead, (.new 0 Z Z (.one Z)), Y⟩)) ?_; exact hh)) ?_); exact AOps.nil ⟨Z, Z⟩
    refine j7.no Z (j7.no Z (j7.nil))
   refine K9.cons ?_ ?_
   ·refine j7.no Z (j7.no Z (j7.no Z ?_))
    apply j7.go; exact Z; exact Z; exact Z; intro E hE; (refine W.loadAgg Z Z Z Z Z Z Z ?_); exact AOps.nil ⟨Z, Z⟩
    apply j7.eff; exact Z; exact Z; exact Z; exact Z; intro E hE; (refine AOps.newAt 4 (.c (.fn 42 [.ptr 4 0 0])) (.cells 4 [(tT t)]) (.inl Z) Z hE Z Z Z Z (.one Z) (.one Z) Z Z Z ⟨.one Z, .one Z, .one Z, .vec, .dead, Y⟩ (fun hh => by (refine AOps.callF (r2 := .c (.fn 42 [.ptr 5 0 0])) (σ'' := [.one (.cells 4 [(tT t)]), .one (.cells 2 [[int 0, int 0]]), .one (.cells 2 [[int a16.code, int a16.index]]), .one (vec 1 g9 [t.init]), .dead, .one (.cells 4 [(tT t)])]) Z Z Z (FnOk.lend [] (ag1 ha25) Z Z Z Z Z Z (by exact trivial) Z (by exact trivial) Z Z (by exact ⟨(.old Z Z Z), (.old Z Z Z), (.old Z Z Z), (.old Z Z Z), .dead, (.new 0 Z Z (.one Z)), Y⟩)) ?_; exact hh)) ?_); exact AOps.nil ⟨Z, Z⟩
    refine j7.no Z (j7.no Z (j7.nil))
   refine K9.cons ?_ ?_
   ·apply j7.go; exact Z; exact Z; exact Z; intro E hE; (refine W.fieldAddr Z Z Z Z ?_); exact AOps.nil ⟨Z, Z⟩
    apply j7.go; exact Z; exact Z; exact Z; intro E hE; (refine AOps.E Z Z Z Z Z Z ?_); exact AOps.nil ⟨Z, Z⟩
    apply j7.eff; exact Z; exact Z; exact Z; exact Z; intro E hE; (refine AOps.newAt 3 (.c (.own 3 0 ([t.init].length))) (vec 1 g9 [t.init]) (.inl Z) Z hE Z Z Z Z (.vec) (.vec) Z Z Z ⟨.one Z, .one Z, .one Z, .dead, .one Z, Y⟩ (fun hh => by (refine S.lit (f := g9) (l := [t.init]) (ess := [[row 1 intI t.init]]) Z Z Z Z Z Z Z ⟨⟨.inl Z, Y⟩, Y⟩ Z Z Z ?_; exact hh)) ?_); exact AOps.nil ⟨Z, Z⟩
    refine j7.no Z (j7.no Z (j7.no Z (j7.no Z (j7.nil))))
   refine K9.cons ?_ ?_
   ·refine j7.no Z (j7.no Z (j7.no Z (j7.no Z (j7.no Z ?_))))
    apply j7.eff; exact Z; exact Z; exact Z; exact Z; intro E hE; (refine AOps.callF (r2 := .c (bool a26)) (σ'' := [.one (.cells 4 [(tT t)]), .one (.cells 2 [[int 0, int 0]]), .one (.cells 2 [[int a16.code, int a16.index]]), .dead, .one (.cells 4 [(tT t)])]) Z Z Z (FnOk.lend [3, 4] (ak1 ha26) Z Z Z Z Z Z (by exact ⟨.vec, (.one Z), Y⟩) Z (by exact ⟨(.live Z .vec), (.live Z (.one Z)), Y⟩) Z Z (by exact ⟨(.old Z Z Z), (.old Z Z Z), (.old Z Z Z), .dead, (.new 1 Z Z (.one Z)), Y⟩)) ?_); exact AOps.nil ⟨Z, Z⟩
    refine j7.no Z (j7.nil)
   refine K9.cons ?_ ?_
   ·refine j7.no Z (j7.no Z (j7.no Z (j7.no Z (j7.no Z (j7.no Z ?_)))))
    apply j7.go; exact Z; exact Z; exact Z; intro E hE; (refine AOps.not Z Z ?_); exact AOps.nil ⟨Z, Z⟩
    exact j7.nil
   exact K9.nil
  dsimp only [j8]
  refine b5 (.ag Z h (fun hc4 h => ?_) (fun hc4 h => ?_))
  ·refine AWP.q (.u (W.build Z Z Z Z (.v Z Z (.v Z Z (.v Z Z (W.storeAgg Z Z Z Z Z Z Z (.nil (b5 (.nilrow 1 4 Z (.ret (e8 ?_)))))))))))
   obtain rfl := oi h
   exact Done.ret Z Z
  ·refine AWP.skip (b5 (.q (.u (W.loadAgg Z Z Z Z Z Z Z (.j Z Z (W.makeMap Value.string vI Z Z Z (W.buildP Z Z Z Z (W.box Z Z Z Z Z Z (.v Z Z (.nil (b5 (.q (.virtB 5 d6 (b := 6) (o := 5) Z Z Z Z Z Z (.virtBM 1 intI (b := 6) (o := 6) Z Z Z Z Z Z Z Z ?_))))))))))))))
   obtain ⟨a38, ha38, h⟩ := bind_some h
   refine AWP.u (.j Z Z (W.fieldAddr Z Z Z Z (.E Z Z Z Z Z Z (W.build Z Z Z Z (.callF (r2 := .tup []) (σ'' := [.one (.cells 4 [(tT t)]), .one (.cells 2 [[int 0, int 0]]), .one (.cells 2 [[int a16.code, int a16.index]]), .dead, .one (.cells 4 [(tT t)]), .one (mapB Value.string vI a38.1), .one (.cells 8 [[int t.facts, row 1 intI t.init, row 1 intI t.goal, row 4 d7 t.operators, row 1 intI plan, .own 9 0 a38.2.1.length, .own 10 0 a38.2.2.length, .map 5]]), .dead, .dead, .one (vec 5 d6 a38.2.1), mat (10, []) 1 intI a38.2.2]) Z Z Z (FnOk.lend [6, 7, 8, 5] (B7 ha38) Z Z Z Z Z Z (by exact ⟨(.one Z), .vec, (.mat Z), (.one Z), Y⟩) Z (by exact ⟨(.live Z (.one Z)), (.live Z .vec), (.live Z .mat), (.live Z (.one Z)), Y⟩) Z Z (by exact ⟨(.old Z Z Z), (.old Z Z Z), (.old Z Z Z), .dead, (.old Z Z Z), (.new 3 Z Z (.one Z)), (.new 0 Z Z (.one Z)), .dead, .dead, (.new 4 Z Z .vec), (.new 5 Z Z .mat), Y⟩)) (.nil (b5 (.q (.q (.u (.v Z Z (.nil (b5 (.J ?_))))))))))))))
   obtain ⟨oo, ho1, h⟩ := bind_some h
   refine AWP.loopS ho1 (fun (c5, c6, c7, change8) => ⟨[(1, .c (row 1 intI plan)), (2, .c (.ptr 0 0 0)), (7, .c (.ptr 1 0 0)), (9, .c (.ptr 6 0 0)), (10, .c (int change8))], [.one (.cells 4 [(tT t)]), .one (.cells 2 [[int 0, int 0]]), .dead, .dead, .dead, .one (mapB Value.string vI c5), .one (.cells 8 [[int t.facts, row 1 intI t.init, row 1 intI t.goal, row 4 d7 t.operators, row 1 intI plan, .own 9 0 c6.length, .own 10 0 c7.length, .map 5]]), .dead, .dead, .one (vec 5 d6 c6), mat (10, []) 1 intI c7]⟩) (fun o e st => match o with | .inl _ => e = .exit 0 ∧ Sub [] st ⟨[(7, .c (.ptr 1 0 0))], [.dead, .one (.cells 2 [[int 0, int 0]])]⟩ | .inr x => e = .ret ∧ Done [.t 4, .t 5, .t 6, .cell 7 27 2] (fun t _ => t = .tup [.c (row 1 intI x.1), .c (int x.2.1), .c (bool x.2.2.1), .agg [int x.2.2.2.code, int x.2.2.2.index]]) .ret st) ?_ ?_ ?_
   ·try dsimp only
    exact Sub.cut ⟨Z, Z, Z, Z, Z, Y⟩ Z ⟨.one Z, .one Z, .dead, .dead, .dead, .one Z, .one Z, .dead, .dead, .vec, .mat Z, Y⟩ Z
   ·intro s o h
    obtain ⟨c5, c6, c7, change8⟩ := s
    unfold N0 at h
    try dsimp only at h ⊢
    refine AWP.q (.q (.u (.j Z Z (.j Z Z (.ac Z Z Z (W.fieldAddr Z Z Z Z (.E Z Z Z Z Z Z (S.lenM Z Z Z (fun hl44 => .F Z Z Z (.nil (b5 (.ite Z h (fun hc9 h => ?_) (fun hc9 h => ?_)))))))))))))
    ·refine AWP.skip (b5 (.q (.J (.q (.u (.v Z Z (.nil (b5 (.J ?_)))))))))
     obtain ⟨oo, ho2, h⟩ := bind_some h
     refine AWP.loopS ho2 (fun (c10, c11, c12, j13) => ⟨[(1, .c (row 1 intI plan)), (2, .c (.ptr 0 0 0)), (7, .c (.ptr 1 0 0)), (9, .c (.ptr 6 0 0)), (10, .c (int change8)), (11, .c (int j13))], [.one (.cells 4 [(tT t)]), .one (.cells 2 [[int 0, int 0]]), .dead, .dead, .dead, .one (mapB Value.string vI c10), .one (.cells 8 [[int t.facts, row 1 intI t.init, row 1 intI t.goal, row 4 d7 t.operators, row 1 intI plan, .own 9 0 c11.length, .own 10 0 c12.length, .map 5]]), .dead, .dead, .one (vec 5 d6 c11), mat (10, []) 1 intI c12]⟩) (fun o e st => match o with | .inl (c14, c15, c16) => e = .exit 2 ∧ Sub [] st ⟨[(1, .c (row 1 intI plan)), (2, .c (.ptr 0 0 0)), (7, .c (.ptr 1 0 0)), (9, .c (.ptr 6 0 0)), (10, .c (int change8))], [.one (.cells 4 [(tT t)]), .one (.cells 2 [[int 0, int 0]]), .dead, .dead, .dead, .one (mapB Value.string vI c14), .one (.cells 8 [[int t.facts, row 1 intI t.init, row 1 intI t.goal, row 4 d7 t.operators, row 1 intI plan, .own 9 0 c15.length, .own 10 0 c16.length, .map 5]]), .dead, .dead, .one (vec 5 d6 c15), mat (10, []) 1 intI c16]⟩ | .inr x => e = .ret ∧ Done [.t 4, .t 5, .t 6, .cell 7 27 2] (fun t _ => t = .tup [.c (row 1 intI x.1), .c (int x.2.1), .c (bool x.2.2.1), .agg [int x.2.2.2.code, int x.2.2.2.index]]) .ret st) ?_ ?_ ?_
     ·try dsimp only
      exact Sub.env ⟨Z, Z, Z, Z, Z, Z, Y⟩
     ·intro s o h
      obtain ⟨c10, c11, c12, j13⟩ := s
      unfold N7 at h
      try dsimp only at h ⊢
      refine AWP.q (.q ?_)
      obtain ⟨a54, ha54, h⟩ := bind_some h
      refine AWP.u (.j Z Z (.j Z Z (.ac Z Z Z (W.fieldAddr Z Z Z Z (.E Z Z Z Z Z Z (.j Z Z (S.idxH ha54 Z Z Z (by simp) Z Z (S.loadM ha54 Z Z Z Z (S.lenO Z (mat_get Z ha54) Z (fun hl56 => .F Z Z Z (.nil (b5 (.ite Z h (fun hc17 h => ?_) (fun hc17 h => ?_))))))))))))))
      ·refine AWP.skip (b5 (.q (.J (.q ?_))))
       obtain ⟨a65, ha65, a68, ha68, h⟩ := b2 h
       refine AWP.u (.j Z Z (.ac Z Z Z (W.fieldAddr Z Z Z Z (.E Z Z Z Z Z Z (.j Z Z (S.idxH ha65 Z Z Z (by simp) Z Z (S.loadM ha65 Z Z Z Z (.j Z Z (S.idxO ha68 Z Z (mat_get Z ha65) Z Z (S.loadO ha68 Z Z (mat_get Z ha65) Z Z (.v Z Z (.nil (b5 (.q ?_))))))))))))))
       obtain ⟨t18, hx19, h⟩ := bind_some h
       refine AWP.seqJ (⟨[(1, .c (row 1 intI plan)), (2, .c (.ptr 0 0 0)), (7, .c (.ptr 1 0 0)), (9, .c (.ptr 6 0 0)), (10, .c (int change8)), (11, .c (int j13)), (12, .c (int a68)), (93, .c (bool t18))], [.one (.cells 4 [(tT t)]), .one (.cells 2 [[int 0, int 0]]), .dead, .dead, .dead, .one (mapB Value.string vI c10), .one (.cells 8 [[int t.facts, row 1 intI t.init, row 1 intI t.goal, row 4 d7 t.operators, row 1 intI plan, .own 9 0 c11.length, .own 10 0 c12.length, .map 5]]), .dead, .dead, .one (vec 5 d6 c11), mat (10, []) 1 intI c12]⟩) ?_ ?_
       ·obtain ⟨a75, ha75, hx19⟩ := bind_some hx19
        rcases bft (decide (a75.fat = (plan.length : Int))) with hb20 | hb20
        ·replace hx19 := I8 hb20 hx19
         obtain ⟨a87, ha87, a92, ha92, hx19⟩ := b2 hx19
         refine AWP.drawI mixed Z ?_
         refine i9.consF Z (fun E => AOps.j Z Z .N) Z (.consF Z (fun E => AOps.ac Z Z Z .N) Z (.consF Z (fun E => W.fieldAddr Z Z Z Z .N) Z (.consF Z (fun E => AOps.E Z Z Z Z Z Z .N) Z (.consF Z (fun E => AOps.j Z Z .N) Z (.consF Z (fun E => S.idxO ha75 Z Z Z Z Z .N) Z (.consF Z (fun E => W.fieldAddr Z Z Z Z .N) Z (.consF Z (fun E => S.loadO ha75 Z Z Z Z Z .N) Z (.consF Z (fun E => AOps.j Z Z .N) Z (.consF Z (fun E => S.len Z Z (fun hl79 => .nil ⟨Z, Z⟩)) Z (.consF Z (fun E => AOps.eql Z Z Z .N) Z (.consF Z (fun E => AOps.j Z Z .N) Z (.consF Z (fun E => AOps.z Z Z Z hb20 (.j Z Z .N)) Z (.consF Z (fun E => AOps.z Z Z Z hb20 (.ac Z Z Z .N)) Z (.consF Z (fun E => AOps.z Z Z Z hb20 (W.fieldAddr Z Z Z Z .N)) Z (.consF Z (fun E => AOps.z Z Z Z hb20 (.E Z Z Z Z Z Z .N)) Z (.consF Z (fun E => AOps.z Z Z Z hb20 (.j Z Z .N)) Z (.consF Z (fun E => AOps.z Z Z Z hb20 (S.idxO ha87 Z Z Z Z Z .N)) Z (.consF Z (fun E => AOps.z Z Z Z hb20 (W.fieldAddr Z Z Z Z .N)) Z (.consF Z (fun E => AOps.z Z Z Z hb20 (S.loadO ha87 Z Z Z Z Z .N)) Z (.consF Z (fun E => AOps.z Z Z Z hb20 (W.fieldAddr Z Z Z Z .N)) Z (.consF Z (fun E => AOps.z Z Z Z hb20 (.E Z Z Z Z Z Z .N)) Z (.consF Z (fun E => AOps.z Z Z Z hb20 (.aa Z Z Z Z (S6 ha92) Z .N)) Z (.consF Z (fun E => AOps.O Z hb20 Z Z .N) Z ?_)))))))))))))))))))))))
         refine i9.done ?_
         dsimp only [j8]
         obtain rfl := oi hx19
         refine b5 (Sub.env ⟨Z, Z, Z, Z, Z, Z, Z, Z, Y⟩)
        ·replace hx19 := J1 hb20 hx19
         refine AWP.drawI mixed Z ?_
         refine i9.consF Z (fun E => AOps.j Z Z .N) Z (.consF Z (fun E => AOps.ac Z Z Z .N) Z (.consF Z (fun E => W.fieldAddr Z Z Z Z .N) Z (.consF Z (fun E => AOps.E Z Z Z Z Z Z .N) Z (.consF Z (fun E => AOps.j Z Z .N) Z (.consF Z (fun E => S.idxO ha75 Z Z Z Z Z .N) Z (.consF Z (fun E => W.fieldAddr Z Z Z Z .N) Z (.consF Z (fun E => S.loadO ha75 Z Z Z Z Z .N) Z (.consF Z (fun E => AOps.j Z Z .N) Z (.consF Z (fun E => S.len Z Z (fun hl79 => .nil ⟨Z, Z⟩)) Z (.consF Z (fun E => AOps.eql Z Z Z .N) Z (.consF Z (fun E => AOps.j Z Z .N) Z (.consF Z (fun E => AOps.B Z Z Z hb20 .N) Z (.consF Z (fun E => AOps.B Z Z Z hb20 .N) Z (.consF Z (fun E => AOps.B Z Z Z hb20 .N) Z (.consF Z (fun E => AOps.B Z Z Z hb20 .N) Z (.consF Z (fun E => AOps.B Z Z Z hb20 .N) Z (.consF Z (fun E => AOps.B Z Z Z hb20 .N) Z (.consF Z (fun E => AOps.B Z Z Z hb20 .N) Z (.consF Z (fun E => AOps.B Z Z Z hb20 .N) Z (.consF Z (fun E => AOps.B Z Z Z hb20 .N) Z (.consF Z (fun E => AOps.B Z Z Z hb20 .N) Z (.consF Z (fun E => AOps.B Z Z Z hb20 .N) Z (.consF Z (fun E => AOps.U Z hb20 Z Z .N) Z ?_)))))))))))))))))))))))
         refine i9.done ?_
         dsimp only [j8]
         obtain rfl := oi hx19
         refine b5 (Sub.env ⟨Z, Z, Z, Z, Z, Z, Z, Z, Y⟩)
       ·refine AWP.ag Z h (fun hc21 h => ?_) (fun hc21 h => ?_)
        ·refine AWP.q ?_
         obtain ⟨a96, ha96, h⟩ := bind_some h
         refine AWP.u (.j Z Z (.j Z Z (.callF (r2 := .c (row 1 intI a96)) (σ'' := [.one (.cells 4 [(tT t)]), .one (.cells 2 [[int 0, int 0]]), .dead, .dead, .dead, .one (mapB Value.string vI c10), .one (.cells 8 [[int t.facts, row 1 intI t.init, row 1 intI t.goal, row 4 d7 t.operators, row 1 intI plan, .own 9 0 c11.length, .own 10 0 c12.length, .map 5]]), .dead, .dead, .one (vec 5 d6 c11), mat (10, []) 1 intI c12]) Z Z Z (FnOk.lend [6, 9, 10, 5] (ad9 ha96) Z Z Z Z Z Z (by exact ⟨(.one Z), .vec, (.mat Z), (.one Z), Y⟩) Z (by exact ⟨(.live Z (.one Z)), (.live Z .vec), (.live Z .mat), (.live Z (.one Z)), Y⟩) Z Z (by exact ⟨(.old Z Z Z), (.old Z Z Z), .dead, .dead, .dead, (.new 3 Z Z (.one Z)), (.new 0 Z Z (.one Z)), .dead, .dead, (.new 1 Z Z .vec), (.new 2 Z Z .mat), Y⟩)) (.v Z Z (.nil (b5 (.q (.q (.u (.j Z Z (S.len Z Z (fun hl98 => .gtr Z Z Z (.nil (b5 (.ite Z h (fun hc22 h => ?_) (fun hc22 h => ?_))))))))))))))))
         ·refine AWP.q (.u (W.build Z Z Z Z (.v Z Z (.v Z Z (.v Z Z (W.storeAgg Z Z Z Z Z Z Z (.nil (b5 (.nilrow 1 4 Z (.ret (e8 (e8 (l7 (e8 ?_))))))))))))))
          obtain rfl := oi h
          refine e8 ⟨_, Z, Z, ?_⟩
          exact Done.ret Z Z
         ·refine AWP.skip (b5 (.q (.u (.j Z Z (.j Z Z (W.build Z Z Z Z (.v Z Z (.v Z Z (.v Z Z (W.storeAgg Z Z Z Z Z Z Z (.nil (b5 (.ret (e8 (l7 (e8 ?_))))))))))))))))
          obtain rfl := oi h
          refine e8 ⟨_, Z, Z, ?_⟩
          exact Done.ret Z Z
        ·refine AWP.skip (b5 ?_)
         obtain ⟨a106, ha106, h⟩ := bind_some h
         refine AWP.u (.j Z Z (.j Z Z (.callF (r2 := .tup []) (σ'' := [.one (.cells 4 [(tT t)]), .one (.cells 2 [[int 0, int 0]]), .dead, .dead, .dead, .one (mapB Value.string vI a106.1), .one (.cells 8 [[int t.facts, row 1 intI t.init, row 1 intI t.goal, row 4 d7 t.operators, row 1 intI plan, .own 21 0 a106.2.1.length, .own 22 0 a106.2.2.length, .map 5]]), .dead, .dead, .dead, .dead, .dead, .dead, .dead, .dead, .dead, .dead, .dead, .dead, .dead, .dead, .one (vec 5 d6 a106.2.1), mat (22, []) 1 intI a106.2.2]) Z Z Z (FnOk.lend [6, 9, 10, 5] (ad3 ha106) Z Z Z Z Z Z (by exact ⟨(.one Z), .vec, (.mat Z), (.one Z), Y⟩) Z (by exact ⟨(.live Z (.one Z)), (.live Z .vec), (.live Z .mat), (.live Z (.one Z)), Y⟩) Z Z (by exact ⟨(.old Z Z Z), (.old Z Z Z), .dead, .dead, .dead, (.new 3 Z Z (.one Z)), (.new 0 Z Z (.one Z)), .dead, .dead, .dead, .dead, .dead, .dead, .dead, .dead, .dead, .dead, .dead, .dead, .dead, .dead, (.new 14 Z Z .vec), (.new 15 Z Z .mat), Y⟩)) (.nil (e7 (b5 (.u (.j Z Z (S.add Z Z Z (.v Z Z (.nil ?_)))))))))))
         obtain rfl := oi h
         refine b5 ⟨_, Z, ?_⟩
         exact (Sub.move (env' := [(1, .c (row 1 intI plan)), (2, .c (.ptr 0 0 0)), (7, .c (.ptr 1 0 0)), (9, .c (.ptr 6 0 0)), (10, .c (int change8)), (11, .c (int (w64 (j13 + 1))))]) (σ' := [.one (.cells 4 [(tT t)]), .one (.cells 2 [[int 0, int 0]]), .dead, .dead, .dead, .one (mapB Value.string vI a106.1), .one (.cells 8 [[int t.facts, row 1 intI t.init, row 1 intI t.goal, row 4 d7 t.operators, row 1 intI plan, .own 9 0 a106.2.1.length, .own 22 0 a106.2.2.length, .map 5]]), .dead, .dead, .one (vec 5 d6 a106.2.1), .dead, .dead, .dead, .dead, .dead, .dead, .dead, .dead, .dead, .dead, .dead, .dead, mat (22, []) 1 intI a106.2.2]) 9 21 Z Z Z ⟨Z, Z, Z, Z, Z, Z, Y⟩ Z ⟨⟨Z, Z⟩, ⟨Z, Z⟩, trivial, trivial, trivial, ⟨Z, Z⟩, ⟨Z, Z⟩, trivial, trivial, ⟨Blk.im_ok _ _ _, i5 Z⟩, trivial, trivial, trivial, trivial, trivial, trivial, trivial, trivial, trivial, trivial, trivial, trivial, .mat Z Z Z, Y⟩).trans ((Sub.moveM (env' := [(1, .c (row 1 intI plan)), (2, .c (.ptr 0 0 0)), (7, .c (.ptr 1 0 0)), (9, .c (.ptr 6 0 0)), (10, .c (int change8)), (11, .c (int (w64 (j13 + 1))))]) (σ' := [.one (.cells 4 [(tT t)]), .one (.cells 2 [[int 0, int 0]]), .dead, .dead, .dead, .one (mapB Value.string vI a106.1), .one (.cells 8 [[int t.facts, row 1 intI t.init, row 1 intI t.goal, row 4 d7 t.operators, row 1 intI plan, .own 9 0 a106.2.1.length, .own 10 0 a106.2.2.length, .map 5]]), .dead, .dead, .one (vec 5 d6 a106.2.1), mat (10, []) 1 intI a106.2.2, .dead, .dead, .dead, .dead, .dead, .dead, .dead, .dead, .dead, .dead, .dead]) 10 22 Z Z Z ⟨Z, Z, Z, Z, Z, Z, Y⟩ Z ⟨(.one Z Z), (.one Z Z), .dead, .dead, .dead, (.one Z Z), (.one Z Z), .dead, .dead, (.vec Z), (.mat Z Z Z), .dead, .dead, .dead, .dead, .dead, .dead, .dead, .dead, .dead, .dead, .dead, Y⟩).trans (Sub.cut ⟨Z, Z, Z, Z, Z, Z, Y⟩ Z ⟨.one Z, .one Z, .dead, .dead, .dead, .one Z, .one Z, .dead, .dead, .vec, .mat Z, Y⟩ Z))
      ·refine AWP.exit (d9 ?_)
       obtain rfl := oi h
       refine d9 ⟨_, Z, Z, ?_⟩
       exact Sub.env ⟨Z, Z, Z, Z, Z, Y⟩
     ·intro e s hq
      rcases oo with ⟨c14, c15, c16⟩ | x
      ·try dsimp only at h hq
       obtain ⟨rfl, hs⟩ := hq
       refine ⟨_, hs, ?_⟩
       refine k6 (e7 (b5 (.u (.j Z Z (S.add Z Z Z (.v Z Z (.nil ?_)))))))
       obtain rfl := oi h
       refine b5 ⟨_, Z, ?_⟩
       exact Sub.env ⟨Z, Z, Z, Z, Z, Y⟩
      ·try dsimp only at h hq
       obtain ⟨rfl, hs⟩ := hq
       refine ⟨_, Sub.refl _ _, ?_⟩
       refine l7 (l7 (e8 ?_))
       obtain rfl := oi h
       refine e8 ⟨_, Z, Z, ?_⟩
       exact hs
    ·refine AWP.exit (d9 ?_)
     obtain rfl := oi h
     refine d9 ⟨_, Z, Z, ?_⟩
     exact Sub.cut ⟨Z, Y⟩ Z ⟨.dead, .one Z, Y⟩ Z
   ·intro e s hq
    rcases oo with u | x
    ·try dsimp only at h hq
     obtain ⟨rfl, hs⟩ := hq
     refine ⟨_, hs, ?_⟩
     refine k6 (b5 (.q (.u (W.build Z Z Z Z (.v Z Z (.v Z Z (.v Z Z (W.storeAgg Z Z Z Z Z Z Z (.nil (b5 (.nilrow 1 4 Z (.ret ?_))))))))))))
     obtain rfl := oi h
     exact Done.ret Z Z
    ·try dsimp only at h hq
     obtain ⟨rfl, hs⟩ := hq
     refine ⟨_, Sub.refl _ _, ?_⟩
     refine l7 (e8 ?_)
     obtain rfl := oi h
     exact hs
theorem y6 {sv : List Int} {r : Int} (h : H5 sv = some r) : f7 prog 74 [.c (row 1 intI sv)] (.c (.imm (.val (.int .u32 r)))) := by
 unfold f7
 refine FnOk.enter (rs := [.t 2]) func74 Z ntmps74 results74 Z ⟨trivial, Y⟩ (by kernel_rfl) Z ?_
 unfold H5 at h
 refine AWP.q (.u (.v Z Z (.nil (b5 (.q (.u (.v Z Z (.nil (b5 (.q (.q (.u (.j Z Z (S.len Z Z (fun hl7 => .j Z Z (.nil (b5 (.J ?_))))))))))))))))))
 obtain ⟨w2, ho1, h⟩ := bind_some h
 refine AWP.forS ho1 (fun t3 w2 => ⟨[(3, .c (.imm (.val (.int .u32 w2)))), (6, .c (row 1 intI sv)), (7, .c (int (sv.length : Int))), (8, .c (int t3))], []⟩) (fun w2 e st => e = .exit 0 ∧ Sub [] st ⟨[(3, .c (.imm (.val (.int .u32 w2))))], []⟩) ?_ ?_ ?_ ?_
 ·try dsimp only
  exact Sub.env ⟨Z, Z, Z, Z, Y⟩
 ·intro t3 w2 hlot3 hltt3 _
  try dsimp only
  refine AWP.q (.u (.F Z Z Z (.nil (b5 (.q (.ad Z hltt3 (.exit (d9 (d9 ⟨Z, ?_⟩)))))))))
  exact Sub.env ⟨Z, Y⟩
 ·intro t3 w2 o hlot3 hltt3 h
  unfold V7 at h
  try dsimp only at h ⊢
  refine AWP.q (.u (.F Z Z Z (.nil (b5 (.q (.ae Z hltt3 (.skip (b5 (.q (.J (.q ?_)))))))))))
  obtain ⟨a10, ha10, h⟩ := bind_some h
  refine AWP.u (S.idx ha10 Z Z Z Z (.af Z Z Z Z (.v Z Z (.nil (b5 ?_)))))
  obtain ⟨u14, hu14, h⟩ := bind_some h
  refine AWP.u (.j Z Z (.j Z Z (S.shl hu14 Z Z Z (.bits Z Z Z (by simp) (.v Z Z (.nil (e7 (b5 (.u (.add Z Z Z (by omega) (.j Z Z (.nil ?_))))))))))))
  obtain rfl := oi h
  refine b5 (Sub.env ⟨Z, Z, Z, Z, Y⟩)
 ·intro e s hq
  obtain ⟨rfl, hs⟩ := hq
  refine ⟨_, hs, ?_⟩
  refine k6 (b5 (.q (.u (.j Z Z (.v Z Z (.nil (b5 (.ret ?_))))))))
  obtain rfl := oi h
  exact Done.ret Z Z
theorem ak0 {w : Int} {r : (List Int)} (h : P2 w = some r) : w6 prog 59 [.c (.imm (.val (.int .u32 w)))] 1 (List.map intI r) := by
 unfold w6
 refine FnOk.enter (rs := [.t 2]) func59 Z ntmps59 results59 Z ⟨trivial, Y⟩ (by kernel_rfl) Z ?_
 unfold P2 at h
 refine AWP.q (.u (.v Z Z (.nil (b5 (.q (.u (.v Z Z (.nil (b5 (.q (.q (.u (.j Z Z (.nil (b5 (.J (.virtV 1 intI 3 Z Z Z ?_)))))))))))))))))
 obtain ⟨c2, ho1, h⟩ := bind_some h
 refine AWP.forS ho1 (fun t3 c2 => ⟨[(0, .c (.imm (.val (.int .u32 w)))), (3, .c (.own 0 0 c2.length)), (5, .c (int t3))], [.one (vec 1 intI c2)]⟩) (fun c2 e st => e = .exit 0 ∧ Sub [] st ⟨[(3, .c (.own 0 0 c2.length))], [.one (vec 1 intI c2)]⟩) ?_ ?_ ?_ ?_
 ·try dsimp only
  exact Sub.env ⟨Z, (J4 (by first | rfl | simp only [List.length_set])), Z, Y⟩
 ·intro t3 c2 hlot3 hltt3 _
  try dsimp only
  refine AWP.q (.u (.F Z Z Z (.nil (b5 (.q (.ad Z hltt3 (.exit (d9 (d9 ⟨Z, ?_⟩)))))))))
  exact Sub.env ⟨Z, Y⟩
 ·intro t3 c2 o hlot3 hltt3 h
  unfold S9 at h
  try dsimp only at h ⊢
  refine AWP.q (.u (.F Z Z Z (.nil (b5 (.q (.ae Z hltt3 (.skip (b5 ?_))))))))
  obtain ⟨c4, hx5, h⟩ := bind_some h
  refine AWP.seqJ (⟨[(0, .c (.imm (.val (.int .u32 w)))), (3, .c (.own 2 0 c4.length)), (5, .c (int t3))], [.dead, .dead, .one (vec 1 intI c4)]⟩) ?_ ?_
  ·refine AWP.J (.q (.u (.j Z Z (.v Z Z (.nil (b5 (.q (.u (.j Z Z (.j Z Z (.shr Z Z Z (by first | decide | omega) Z (.bits Z Z Z (by simp) (.eql Z Z Z (.nil (b5 (.ite Z hx5 (fun hc6 hx5 => ?_) (fun hc6 hx5 => ?_)))))))))))))))))
   ·obtain ⟨a16, ha16, hx5⟩ := bind_some hx5
    refine AWP.u (.j Z Z (.j Z Z (S.lit (f := intI) (l := [t3]) (ess := [[int t3]]) Z Z Z Z Z Z Z ⟨⟨.inl Z, Y⟩, Y⟩ Z Z Z (S.append (f := intI) ha16 Z Z Z Z Z Z (.own Z Z) Z Z Z Z (.v Z Z (.nil (e7 ?_)))))))
    obtain rfl := oi hx5
    refine b5 (Sub.cut ⟨Z, Z, Z, Y⟩ Z ⟨.dead, .dead, .vec, Y⟩ Z)
   ·refine AWP.skip (e7 ?_)
    obtain rfl := oi hx5
    refine b5 ((Sub.move (env' := [(0, .c (.imm (.val (.int .u32 w)))), (3, .c (.own 2 0 c2.length)), (5, .c (int t3))]) (σ' := [.dead, .dead, .one (vec 1 intI c2)]) 2 0 Z Z Z ⟨Z, Z, Z, Y⟩ Z ⟨trivial, trivial, ⟨Blk.im_ok _ _ _, i5 Z⟩, Y⟩).trans (Sub.env ⟨Z, Z, Z, Y⟩))
  ·refine AWP.u (.add Z Z Z (by omega) (.j Z Z (.nil ?_)))
   obtain rfl := oi h
   refine b5 ((Sub.move (env' := [(0, .c (.imm (.val (.int .u32 w)))), (3, .c (.own 0 0 c4.length)), (5, .c (int (t3 + 1)))]) (σ' := [.one (vec 1 intI c4), .dead]) 0 2 Z Z Z ⟨Z, Z, Z, Y⟩ Z ⟨⟨Blk.im_ok _ _ _, i5 Z⟩, trivial, Y⟩).trans (Sub.cut ⟨Z, Z, Z, Y⟩ Z ⟨.vec, Y⟩ Z))
 ·intro e s hq
  obtain ⟨rfl, hs⟩ := hq
  refine ⟨_, hs, ?_⟩
  refine k6 (b5 (.q (.u (.j Z Z (.v Z Z (.nil (b5 (.ret ?_))))))))
  obtain rfl := oi h
  exact Done.ret Z (Fresh.mk Z Z)
theorem an7 {av : Int} {bv : Int} {r : Int} (h : F5 av bv = some r) : f7 prog 57 [.c (.imm (.val (.int .u32 av))), .c (.imm (.val (.int .u32 bv)))] (.c (int r)) := by
 unfold f7
 refine FnOk.enter (rs := [.t 4]) func57 Z ntmps57 results57 Z ⟨trivial, Y⟩ (by kernel_rfl) Z ?_
 unfold F5 at h
 refine AWP.q (.u (.v Z Z (.nil (b5 (.q ?_)))))
 obtain ⟨a6, ha6, a8, ha8, a9, ha9, h⟩ := b3 h
 refine AWP.u (.j Z Z (S.fresh Z Z Z Z (ak0 ha6) Z Z (.j Z Z (S.fresh Z Z Z Z (ak0 ha8) Z Z (.callL Z Z (.cons (.c (.own Z Z)) (.cons (.c (.own Z Z)) .nil)) Z (Q8 ha9) Z (.v Z Z (.nil (b5 (.ret ?_)))))))))
 obtain rfl := oi h
 exact Done.ret Z Z
theorem space_Of_w_ok {t : d8} {r : Int × Int × (List i6)} (h : aa4 t = some r) : FnOk prog 54 [.agg (tT t)] (am6 t) (fun tt ss => tt = .c (.ptr 1 0 0) ∧ ss = [.dead, .one (.cells 3 [[.imm (.val (.int .u32 r.1)), .imm (.val (.int .u32 r.2.1)), .own 2 0 r.2.2.length]]), .one (vec 4 d3 r.2.2)]) := by
 refine FnOk.enter (rs := [.t 2]) func54 Z ntmps54 results54 Z ⟨trivial, Y⟩ (by kernel_rfl) Z ?_
 refine AWP.weak ?_
 unfold aa4 at h
 refine AWP.q (.u (W.box Z Z Z Z Z Z (.v Z Z (.nil (b5 (.q ?_))))))
 obtain ⟨a8, ha8, a11, ha11, h⟩ := b2 h
 refine AWP.drawEI [7] mixed Z Z Z ?_
 refine d5.consN Z Z (fun E => W.fieldAddr Z Z Z Z .N) Z (.consN Z Z (fun E => AOps.E Z Z Z Z Z Z .N) Z (.consN Z Z (fun E => AOps.aa Z Z Z Z (y6 ha8) Z .N) Z (.consN Z Z (fun E => W.fieldAddr Z Z Z Z .N) Z (.consN Z Z (fun E => AOps.E Z Z Z Z Z Z .N) Z (.consN Z Z (fun E => AOps.aa Z Z Z Z (y6 ha11) Z .N) Z (.consN Z Z (fun E => W.build Z Z Z Z .N) Z ?_))))))
 apply d5.consE; exact Z; exact Z; intro E
 refine W.box Z Z Z Z Z Z .N
 exact Z
 exact Z
 refine d5.consN Z Z (fun E => AOps.v Z Z .N) Z ?_
 refine d5.done Z ?_ ?_
 ·refine c9.cons Z Z ?_ ?_
  refine b7.go Z Z (fun E => W.fieldAddr Z Z Z Z .N) ?_
  refine b7.skip Z (b7.nil)
  refine c9.cons Z Z ?_ ?_
  refine b7.go Z Z (fun E => AOps.E Z Z Z Z Z Z .N) ?_
  refine b7.skip Z (b7.nil)
  refine c9.cons Z Z ?_ ?_
  refine b7.go Z Z (fun E => AOps.aa Z Z Z Z (y6 ha8) Z .N) ?_
  refine b7.skip Z (b7.nil)
  refine c9.cons Z Z ?_ ?_
  refine b7.go Z Z (fun E => W.fieldAddr Z Z Z Z .N) ?_
  refine b7.skip Z (b7.nil)
  refine c9.cons Z Z ?_ ?_
  refine b7.go Z Z (fun E => AOps.E Z Z Z Z Z Z .N) ?_
  refine b7.skip Z (b7.nil)
  refine c9.cons Z Z ?_ ?_
  refine b7.go Z Z (fun E => AOps.aa Z Z Z Z (y6 ha11) Z .N) ?_
  refine b7.skip Z (b7.nil)
  refine c9.cons Z Z ?_ ?_
  refine b7.go Z Z (fun E => W.build Z Z Z Z .N) ?_
  refine b7.skip Z (b7.nil)
  refine c9.skip Z ?_
  refine c9.cons Z Z ?_ ?_
  refine b7.skip Z ?_
  refine b7.go Z Z (fun E => AOps.v Z Z .N) ?_
  exact b7.nil
  exact c9.nil
 dsimp only [j8]
 refine b5 (.q (.q (.u (W.fieldAddr Z Z Z Z (.E Z Z Z Z Z Z (S.len Z Z (fun hl16 => .j Z Z (.nil (b5 (.J (.virtB 4 d3 (b := 1) (o := 2) Z Z Z Z Z Z ?_)))))))))))
 obtain ⟨c55, ho1, h⟩ := bind_some h
 refine AWP.forS ho1 (fun t56 c55 => ⟨[(3, .c (.ptr 1 0 0)), (15, .c (row 4 d7 t.operators)), (16, .c (int (t.operators.length : Int))), (17, .c (int t56))], [.dead, .one (.cells 3 [(wW a8 a11 2 c55.length)]), .one (vec 4 d3 c55)]⟩) (fun c55 e st => e = .exit 0 ∧ Sub (am6 t) st ⟨[(3, .c (.ptr 1 0 0))], [.dead, .one (.cells 3 [(wW a8 a11 2 c55.length)]), .one (vec 4 d3 c55)]⟩) ?_ ?_ ?_ ?_
 ·try dsimp only
  exact Sub.cut ⟨Z, Z, Z, Z, Y⟩ Z ⟨.dead, (.eq Z (by first | rfl | (simp only [List.length_set]; done))), .vec, Y⟩ Z
 ·intro t56 c55 hlot56 hltt56 _
  try dsimp only
  refine AWP.q (.u (.F Z Z Z (.nil (b5 (.q (.ad Z hltt56 (.exit (d9 (d9 ⟨Z, ?_⟩)))))))))
  exact Sub.env ⟨Z, Y⟩
 ·intro t56 c55 o hlot56 hltt56 h
  unfold V8 at h
  try dsimp only at h ⊢
  refine AWP.q (.u (.F Z Z Z (.nil (b5 (.q (.ae Z hltt56 (.skip (b5 (.q (.J (.q ?_)))))))))))
  obtain ⟨a19, ha19, h⟩ := bind_some h
  refine AWP.u (S.idx ha19 Z Z Z Z (W.loadIAgg Z Z Z Z Z (W.alloc Z Z Z Z (W.storeAgg Z Z Z Z Z Z Z (.nil (b5 ?_))))))
  obtain ⟨a28, ha28, a31, ha31, a34, ha34, h⟩ := b3 h
  obtain ⟨a39, ha39, h⟩ := bind_some h
  refine AWP.drawEI [17, 18, 21] mixed Z Z Z ?_
  refine d5.consN Z Z (fun E => AOps.j Z Z .N) Z (.consN Z Z (fun E => AOps.j Z Z .N) Z (.consN Z Z (fun E => AOps.ac Z Z Z .N) Z (.consN Z Z (fun E => W.fieldAddr Z Z Z Z .N) Z (.consN Z Z (fun E => AOps.E Z Z Z Z Z Z .N) Z (.consN Z Z (fun E => W.fieldAddr Z Z Z Z .N) Z (.consN Z Z (fun E => AOps.E Z Z Z Z Z Z .N) Z (.consN Z Z (fun E => AOps.aa Z Z Z Z (y6 ha28) Z .N) Z (.consN Z Z (fun E => W.fieldAddr Z Z Z Z .N) Z (.consN Z Z (fun E => AOps.E Z Z Z Z Z Z .N) Z (.consN Z Z (fun E => AOps.aa Z Z Z Z (y6 ha31) Z .N) Z (.consN Z Z (fun E => W.fieldAddr Z Z Z Z .N) Z (.consN Z Z (fun E => AOps.E Z Z Z Z Z Z .N) Z (.consN Z Z (fun E => AOps.aa Z Z Z Z (y6 ha34) Z .N) Z (.consN Z Z (fun E => W.fieldAddr Z Z Z Z .N) Z (.consN Z Z (fun E => AOps.E Z Z Z Z Z Z .N) Z (.consN Z Z (fun E => W.build Z Z Z Z .N) Z ?_))))))))))))))))
  apply d5.consE; exact Z; exact Z; intro E
  refine S.lit (f := d3) (l := [(⟨a28, a31, a34, a19.cost⟩ : i6)]) (ess := [[.imm (.val (.int .u32 a28)), .imm (.val (.int .u32 a31)), .imm (.val (.int .u32 a34)), int a19.cost]]) Z Z Z Z Z Z Z ⟨⟨.inl Z, .inl Z, .inl Z, .inl Z, Y⟩, Y⟩ Z Z Z .N
  exact Z
  exact Z
  apply d5.consE; exact Z; exact Z; intro E
  refine S.append (f := d3) ha39 Z Z Z Z Z Z (.own Z Z) Z Z Z Z .N
  exact Z
  exact Z
  refine d5.consN Z Z (fun E => AOps.ac Z Z Z .N) Z (.consN Z Z (fun E => W.fieldAddr Z Z Z Z .N) Z ?_)
  apply d5.consE (v := .undef); exact Z; exact Z; intro E
  refine W.store Z Z Z Z Z .N
  exact Z
  exact Z
  refine d5.done Z ?_ ?_
  ·refine c9.cons Z Z ?_ ?_
   refine b7.go Z Z (fun E => AOps.j Z Z .N) ?_
   refine b7.go Z Z (fun E => AOps.j Z Z .N) ?_
   refine b7.go Z Z (fun E => AOps.j Z Z .N) ?_
   refine b7.skip Z (b7.nil)
   refine c9.cons Z Z ?_ ?_
   refine b7.go Z Z (fun E => AOps.j Z Z .N) ?_
   refine b7.go Z Z (fun E => AOps.j Z Z .N) ?_
   refine b7.skip Z (b7.skip Z (b7.nil))
   refine c9.cons Z Z ?_ ?_
   refine b7.go Z Z (fun E => AOps.ac Z Z Z .N) ?_
   refine b7.go Z Z (fun E => AOps.ac Z Z Z .N) ?_
   refine b7.skip Z (b7.skip Z (b7.nil))
   refine c9.cons Z Z ?_ ?_
   refine b7.go Z Z (fun E => W.fieldAddr Z Z Z Z .N) ?_
   refine b7.go Z Z (fun E => W.fieldAddr Z Z Z Z .N) ?_
   refine b7.skip Z (b7.skip Z (b7.nil))
   refine c9.cons Z Z ?_ ?_
   refine b7.go Z Z (fun E => AOps.E Z Z Z Z Z Z .N) ?_
   refine b7.go Z Z (fun E => AOps.E Z Z Z Z Z Z .N) ?_
   refine b7.skip Z (b7.skip Z (b7.nil))
   refine c9.cons Z Z ?_ ?_
   refine b7.go Z Z (fun E => W.fieldAddr Z Z Z Z .N) ?_
   refine b7.skip Z (b7.skip Z (b7.skip Z (b7.nil)))
   refine c9.cons Z Z ?_ ?_
   refine b7.go Z Z (fun E => AOps.E Z Z Z Z Z Z .N) ?_
   refine b7.skip Z (b7.skip Z (b7.skip Z (b7.nil)))
   refine c9.cons Z Z ?_ ?_
   refine b7.go Z Z (fun E => AOps.aa Z Z Z Z (y6 ha28) Z .N) ?_
   refine b7.skip Z (b7.skip Z (b7.skip Z (b7.nil)))
   refine c9.cons Z Z ?_ ?_
   refine b7.go Z Z (fun E => W.fieldAddr Z Z Z Z .N) ?_
   refine b7.skip Z (b7.skip Z (b7.skip Z (b7.nil)))
   refine c9.cons Z Z ?_ ?_
   refine b7.go Z Z (fun E => AOps.E Z Z Z Z Z Z .N) ?_
   refine b7.skip Z (b7.skip Z (b7.skip Z (b7.nil)))
   refine c9.cons Z Z ?_ ?_
   refine b7.go Z Z (fun E => AOps.aa Z Z Z Z (y6 ha31) Z .N) ?_
   refine b7.skip Z (b7.skip Z (b7.skip Z (b7.nil)))
   refine c9.cons Z Z ?_ ?_
   refine b7.go Z Z (fun E => W.fieldAddr Z Z Z Z .N) ?_
   refine b7.skip Z (b7.skip Z (b7.skip Z (b7.nil)))
   refine c9.cons Z Z ?_ ?_
   refine b7.go Z Z (fun E => AOps.E Z Z Z Z Z Z .N) ?_
   refine b7.skip Z (b7.skip Z (b7.skip Z (b7.nil)))
   refine c9.cons Z Z ?_ ?_
   refine b7.go Z Z (fun E => AOps.aa Z Z Z Z (y6 ha34) Z .N) ?_
   refine b7.skip Z (b7.skip Z (b7.skip Z (b7.nil)))
   refine c9.cons Z Z ?_ ?_
   refine b7.go Z Z (fun E => W.fieldAddr Z Z Z Z .N) ?_
   refine b7.skip Z (b7.skip Z (b7.skip Z (b7.nil)))
   refine c9.cons Z Z ?_ ?_
   refine b7.go Z Z (fun E => AOps.E Z Z Z Z Z Z .N) ?_
   refine b7.skip Z (b7.skip Z (b7.skip Z (b7.nil)))
   refine c9.cons Z Z ?_ ?_
   refine b7.go Z Z (fun E => W.build Z Z Z Z .N) ?_
   refine b7.skip Z (b7.skip Z (b7.skip Z (b7.nil)))
   refine c9.skip Z (c9.skip Z ?_)
   refine c9.cons Z Z ?_ ?_
   refine b7.skip Z (b7.skip Z ?_)
   refine b7.go Z Z (fun E => AOps.ac Z Z Z .N) ?_
   refine b7.skip Z (b7.nil)
   refine c9.cons Z Z ?_ ?_
   refine b7.skip Z (b7.skip Z ?_)
   refine b7.go Z Z (fun E => W.fieldAddr Z Z Z Z .N) ?_
   refine b7.skip Z (b7.nil)
   refine c9.skip Z (c9.nil)
  dsimp only [j8]
  refine e7 (b5 (.j (env' := [(3, .c (.ptr 1 0 0)), (15, .c (row 4 d7 t.operators)), (16, .c (int (t.operators.length : Int))), (17, .c (int t56))]) (σ' := [.dead, .one (.cells 3 [(wW a8 a11 2 a39.length)]), .one (vec 4 d3 a39), .one (.cells 4 [[row 1 intI a19.pre, row 1 intI a19.add, row 1 intI a19.del, int a19.cost]]), .one (vec 4 d3 [(⟨a28, a31, a34, a19.cost⟩ : i6)])]) 2 5 Z Z Z ⟨Z, Z, Z, Z, Y⟩ Z ⟨trivial, ⟨Z, Z⟩, ⟨Blk.im_ok _ _ _, i5 Z⟩, ⟨Z, Z⟩, ⟨Blk.im_ok _ _ _, i5 Z⟩, Y⟩ (.u (.add Z Z Z (by omega) (.j Z Z (.nil ?_))))))
  obtain rfl := oi h
  refine b5 (Sub.cut ⟨Z, Z, Z, Z, Y⟩ Z ⟨.dead, .one Z, .vec, Y⟩ Z)
 ·intro e s hq
  obtain ⟨rfl, hs⟩ := hq
  refine ⟨_, hs, ?_⟩
  refine k6 (b5 (.q (.u (.j Z Z (.v Z Z (.nil (b5 (.ret ?_))))))))
  obtain rfl := oi h
  exact ⟨⟨[(2, .c (.ptr 1 0 0))], [.dead, .one (.cells 3 [(wW a8 a11 2 c55.length)]), .one (vec 4 d3 c55)]⟩, Sub.env ⟨Z, Y⟩, Done.ret Z ⟨Z, Z⟩⟩
theorem M1 {start : Int} {goal : Int} {l : List i6} {r : Unit} (h : w7 start goal l = some r) : FnOk prog 36 [.c (.ptr 0 0 0)] (aj4 start goal l) (fun tt ss => tt = .c (.imm (.val (.int .u32 start))) ∧ ss = [.one (.cells 3 [(wW start goal 1 l.length)]), .one (vec 4 d3 l)]) := by
 refine FnOk.enter (rs := [.t 2]) func36 Z ntmps36 results36 Z ⟨trivial, Y⟩ (by kernel_rfl) Z ?_
 refine AWP.weak ?_
 unfold w7 at h
 refine AWP.q (.u (.v Z Z (.nil (b5 (.q (.u (.j Z Z (.ac Z Z Z (W.fieldAddr Z Z Z Z (.E Z Z Z Z Z Z (.v Z Z (.nil (b5 (.ret ?_))))))))))))))
 obtain rfl := oi h
 exact ⟨⟨[(2, .c (.imm (.val (.int .u32 start))))], [.one (.cells 3 [(wW start goal 1 l.length)]), .one (vec 4 d3 l)]⟩, Sub.env ⟨Z, Y⟩, Done.ret Z ⟨Z, Z⟩⟩
theorem U3 {sv : Int} {start : Int} {goal : Int} {l : List i6} {r : Unit} (h : B1 sv start goal l = some r) : FnOk prog 63 [.c (.ptr 0 0 0), .c (.imm (.val (.int .u32 sv)))] (aj5 sv start goal l) (fun tt ss => tt = .c (.fn 80 [.ptr 2 0 0, .ptr 3 0 0]) ∧ ss = [.one (.cells 3 [(wW start goal 1 l.length)]), .one (vec 4 d3 l), .one (.cells 1 [[.ptr 0 0 0]]), .one (.cells 1 [[.imm (.val (.int .u32 sv))]])]) := by
 refine FnOk.enter (rs := [.t 4]) func63 Z ntmps63 results63 Z ⟨trivial, Y⟩ (by kernel_rfl) Z ?_
 refine AWP.weak ?_
 unfold B1 at h
 refine AWP.q (.u (W.box Z Z Z Z Z Z (W.box Z Z Z Z Z Z (.v Z Z (.nil (b5 (.q (.u (.makeFunc Z Z (.v Z Z (.nil (b5 (.ret ?_)))))))))))))
 obtain rfl := oi h
 exact ⟨⟨[(4, .c (.fn 80 [.ptr 2 0 0, .ptr 3 0 0]))], [.one (.cells 3 [(wW start goal 1 l.length)]), .one (vec 4 d3 l), .one (.cells 1 [[.ptr 0 0 0]]), .one (.cells 1 [[.imm (.val (.int .u32 sv))]])]⟩, Sub.env ⟨Z, Y⟩, Done.ret Z ⟨Z, Z⟩⟩
theorem ak6 {start : Int} {goal : Int} {l : List i6} {r : (List Int) × Bool} (h : F0 start goal l = some r) : FnOk prog 55 [.c (.ifc 66 [.ptr 0 0 0] false)] (M8 start goal l) (fun tt ss => tt = .tup [.c (.own 12 0 r.1.length), .c (bool r.2)] ∧ ss = [.one (.cells 3 [(wW start goal 1 l.length)]), .one (vec 4 d3 l), .dead, .dead, .dead, .dead, .dead, .dead, .dead, .dead, .dead, .dead, .one (vec 1 eU32 r.1)]) := by
 refine FnOk.enter (rs := [.t 2, .t 3]) func55 Z ntmps55 results55 Z ⟨trivial, trivial, Y⟩ (by kernel_rfl) Z ?_
 refine AWP.weak ?_
 unfold F0 at h
 refine AWP.q (.u (.v Z Z (.v Z Z (.nil (b5 (.q ?_))))))
 obtain ⟨a12, ha12, h⟩ := bind_some h
 refine AWP.u (.j Z Z (S.invokeP (r2 := .c (.imm (.val (.int .u32 start)))) (σ'' := [.one (.cells 3 [(wW start goal 1 l.length)]), .one (vec 4 d3 l)]) Z Z Z (FnOk.lend [0, 1] (M1 ha12) Z Z Z Z Z Z (by exact ⟨(.one Z), .vec, Y⟩) Z (by exact ⟨(.live Z (.one Z)), (.live Z .vec), Y⟩) Z Z (by exact ⟨(.new 0 Z Z (.one Z)), (.new 1 Z Z .vec), Y⟩)) (S.lit (f := eU32) (l := [start]) (ess := [[.imm (.val (.int .u32 start))]]) Z Z Z Z Z Z Z ⟨⟨.inl Z, Y⟩, Y⟩ Z Z Z (W.alloc Z Z Z Z (W.store Z Z Z Z Z (.nil (b5 (.q ?_))))))))
 obtain ⟨a16, ha16, h⟩ := bind_some h
 refine AWP.u (W.makeMap vU noV Z Z Z (.j Z Z (S.invokeP (r2 := .c (.imm (.val (.int .u32 start)))) (σ'' := [.one (.cells 3 [(wW start goal 1 l.length)]), .one (vec 4 d3 l), .one (vec 1 eU32 [start]), .one (.cells 1 [[.own 2 0 ([start].length)]]), .one (mapB vU noV ([] : List (Int × Unit)))]) Z Z Z (FnOk.lend [0, 1] (M1 ha16) Z Z Z Z Z Z (by exact ⟨(.one Z), .vec, Y⟩) Z (by exact ⟨(.live Z (.one Z)), (.live Z .vec), Y⟩) Z Z (by exact ⟨(.new 0 Z Z (.one Z)), (.new 1 Z Z .vec), (.old Z Z Z), (.old Z Z Z), (.old Z Z Z), Y⟩)) (S.build0 Z Z Z (W.insertU (fk := vU) (k := start) E3 Z Z Z Z Z (.j Z Z (W.alloc Z Z Z Z (W.store Z Z Z Z Z (.nil (b5 (.q (.u (.v Z Z (.nil (b5 (.q (.J (.virtV 1 eU32 6 Z Z Z ?_))))))))))))))))))
 obtain ⟨oo, ho1, h⟩ := bind_some h
 refine AWP.loopS ho1 (fun (c56, c57, c58) => ⟨[(0, .c (.ifc 66 [.ptr 0 0 0] false)), (4, .c (.ptr 3 0 0)), (5, .c (.ptr 5 0 0)), (6, .c (.own 6 0 c58.length))], [.one (.cells 3 [(wW start goal 1 l.length)]), .one (vec 4 d3 l), .one (vec 1 eU32 c56), .one (.cells 1 [[.own 2 0 c56.length]]), .one (mapB vU noV c57), .one (.cells 1 [[.map 4]]), .one (vec 1 eU32 c58)]⟩) (fun o e st => match o with | .inl c59 => e = .exit 0 ∧ Sub (M8 start goal l) st ⟨[(6, .c (.own 6 0 c59.length))], [.one (.cells 3 [(wW start goal 1 l.length)]), .one (vec 4 d3 l), .dead, .dead, .dead, .dead, .one (vec 1 eU32 c59)]⟩ | .inr x => e = .ret ∧ ∃ J, Sub (M8 start goal l) st J ∧ Done [.t 2, .t 3] (fun tt ss => tt = .tup [.c (.own 12 0 x.1.length), .c (bool x.2)] ∧ ss = [.one (.cells 3 [(wW start goal 1 l.length)]), .one (vec 4 d3 l), .dead, .dead, .dead, .dead, .dead, .dead, .dead, .dead, .dead, .dead, .one (vec 1 eU32 x.1)]) .ret J) ?_ ?_ ?_
 ·try dsimp only
  exact Sub.env ⟨Z, Z, Z, (J4 (by first | rfl | simp only [List.length_set])), Y⟩
 ·intro s o h
  obtain ⟨c56, c57, c58⟩ := s
  unfold G1 at h
  try dsimp only at h ⊢
  refine AWP.q (.q (.u (.E Z Z Z Z Z Z (S.lenO Z Z Z (fun hl20 => .gtr Z Z Z (.nil (b5 (.ite Z h (fun hc60 h => ?_) (fun hc60 h => ?_)))))))))
  ·refine AWP.skip (b5 (.J (.q ?_)))
   obtain ⟨a26, ha26, h⟩ := bind_some h
   refine AWP.u (.E Z Z Z Z Z Z (.E Z Z Z Z Z Z (S.lenO Z Z Z (fun hl24 => .sub' Z Z Z (by omega) (S.idxO ha26 Z Z Z Z Z (S.loadO ha26 Z Z Z Z Z (.v Z Z (.nil (b5 (.q ?_))))))))))
   obtain ⟨u32, hu32, h⟩ := bind_some h
   refine AWP.u (.E Z Z Z Z Z Z (.E Z Z Z Z Z Z (S.lenO Z Z Z (fun hl30 => .sub' Z Z Z (by omega) (S.vTo (P1 c56) hu32 Z Z Z Z Z Z (.sub (Sub.reown (env' := [(0, .c (.ifc 66 [.ptr 0 0 0] false)), (4, .c (.ptr 3 0 0)), (5, .c (.ptr 5 0 0)), (6, .c (.own 6 0 c58.length)), (7, .c (.imm (.val (.int .u32 a26)))), (20, .c (int (c56.length : Int))), (21, .c (bool (decide (0 < (c56.length : Int))))), (24, .c (int (c56.length : Int))), (25, .c (int ((c56.length : Int) - 1))), (27, .c (.imm (.val (.int .u32 a26)))), (30, .c (int (c56.length : Int))), (31, .c (int ((c56.length : Int) - 1))), (32, .c (.own 7 0 ((n3 c56 0 ((c56.length : Int) - 1)).length)))]) 32 (vw_to (P1 c56) hu32) Z Z Z Z Z Z Z Z (by exact ⟨.inr Z, .inr Z, .inr Z, .inr Z, .inr Z, .inr Z, .inr Z, .inr Z, .inr Z, .inr Z, .inr Z, .inr Z, .inl ⟨Z, Z⟩, Y⟩)) (W.store Z Z Z Z Z (.nil (b5 (.q (.j (env' := [(0, .c (.ifc 66 [.ptr 0 0 0] false)), (4, .c (.ptr 3 0 0)), (5, .c (.ptr 5 0 0)), (6, .c (.own 6 0 c58.length)), (7, .c (.imm (.val (.int .u32 a26))))]) (σ' := [.one (.cells 3 [(wW start goal 1 l.length)]), .one (vec 4 d3 l), .one (vec 1 eU32 (n3 c56 0 ((c56.length : Int) - 1))), .one (.cells 1 [[.own 2 0 ((n3 c56 0 ((c56.length : Int) - 1)).length)]]), .one (mapB vU noV c57), .one (.cells 1 [[.map 4]]), .one (vec 1 eU32 c58)]) 2 7 Z Z Z ⟨Z, Z, Z, Z, Z, Y⟩ Z ⟨⟨Z, Z⟩, ⟨Blk.im_ok _ _ _, i5 Z⟩, ⟨Blk.im_ok _ _ _, i5 Z⟩, ⟨Z, Z⟩, ⟨Z, Z⟩, ⟨Z, Z⟩, ⟨Blk.im_ok _ _ _, i5 Z⟩, Y⟩ ?_)))))))))))
   obtain ⟨a36, ha36, h⟩ := bind_some h
   refine AWP.u (.j Z Z (.j Z Z (S.lit (f := eU32) (l := [a26]) (ess := [[.imm (.val (.int .u32 a26))]]) Z Z Z Z Z Z Z ⟨⟨.inl Z, Y⟩, Y⟩ Z Z Z (S.append (f := eU32) ha36 Z Z Z Z Z Z (.own Z Z) Z Z Z Z (.v Z Z (.nil (b5 (.q (.q (.j (env' := [(0, .c (.ifc 66 [.ptr 0 0 0] false)), (4, .c (.ptr 3 0 0)), (5, .c (.ptr 5 0 0)), (6, .c (.own 6 0 a36.length)), (7, .c (.imm (.val (.int .u32 a26))))]) (σ' := [.one (.cells 3 [(wW start goal 1 l.length)]), .one (vec 4 d3 l), .one (vec 1 eU32 (n3 c56 0 ((c56.length : Int) - 1))), .one (.cells 1 [[.own 2 0 ((n3 c56 0 ((c56.length : Int) - 1)).length)]]), .one (mapB vU noV c57), .one (.cells 1 [[.map 4]]), .one (vec 1 eU32 a36), .one (vec 1 eU32 [a26])]) 6 8 Z Z Z ⟨Z, Z, Z, Z, Z, Y⟩ Z ⟨⟨Z, Z⟩, ⟨Blk.im_ok _ _ _, i5 Z⟩, ⟨Blk.im_ok _ _ _, i5 Z⟩, ⟨Z, Z⟩, ⟨Z, Z⟩, ⟨Z, Z⟩, ⟨Blk.im_ok _ _ _, i5 Z⟩, ⟨Blk.im_ok _ _ _, i5 Z⟩, Y⟩ ?_))))))))))
   obtain ⟨a39, ha39, h⟩ := bind_some h
   refine AWP.u (.j Z Z (.j Z Z (S.invokeP (r2 := .c (.fn 80 [.ptr 8 0 0, .ptr 9 0 0])) (σ'' := [.one (.cells 3 [(wW start goal 1 l.length)]), .one (vec 4 d3 l), .one (vec 1 eU32 (n3 c56 0 ((c56.length : Int) - 1))), .one (.cells 1 [[.own 2 0 ((n3 c56 0 ((c56.length : Int) - 1)).length)]]), .one (mapB vU noV c57), .one (.cells 1 [[.map 4]]), .one (vec 1 eU32 a36), .one (vec 1 eU32 [a26]), .one (.cells 1 [[.ptr 0 0 0]]), .one (.cells 1 [[.imm (.val (.int .u32 a26))]])]) Z Z Z (FnOk.lend [0, 1] (U3 ha39) Z Z Z Z Z Z (by exact ⟨(.one Z), .vec, Y⟩) Z (by exact ⟨(.live Z (.one Z)), (.live Z .vec), Y⟩) Z Z (by exact ⟨(.new 0 Z Z (.one Z)), (.new 1 Z Z .vec), (.old Z Z Z), (.old Z Z Z), (.old Z Z Z), (.old Z Z Z), (.old Z Z Z), (.old Z Z Z), (.new 2 Z Z (.one Z)), (.new 3 Z Z (.one Z)), Y⟩)) (.nil (b5 (.J ?_))))))
   obtain ⟨xr61, hr61, h⟩ := bind_some h
   refine AWP.rangeB [(4, none), (5, none)] Z Z Z (fun as61 bo61 hA61 hB61 => ⟨[.one (.cells 3 [(wW start goal 1 l.length)]), .one (vec 4 d3 l), .one (vec 1 eU32 (n3 c56 0 ((c56.length : Int) - 1))), .one (.cells 1 [[.own 2 0 ((n3 c56 0 ((c56.length : Int) - 1)).length)]]), .one (mapB vU noV c57), .one (.cells 1 [[.map 4]]), .one (vec 1 eU32 a36), .one (vec 1 eU32 [a26]), .one (.cells 1 [[.ptr 0 0 0]]), .one (.cells 1 [[.imm (.val (.int .u32 a26))]]), .one (j6 63 [40] as61 bo61 .ready none [(4, none), (5, none)] [.ptr 3 0 0, .ptr 5 0 0])], fun tt ss => tt = .tup [] ∧ ss = [.one (.cells 3 [(wW start goal 1 l.length)]), .one (vec 4 d3 l), .dead, .one (.cells 1 [[.own 11 0 xr61.2.length]]), .one (mapB vU noV xr61.1), .one (.cells 1 [[.map 4]]), .one (vec 1 eU32 a36), .one (vec 1 eU32 [a26]), .one (.cells 1 [[.ptr 0 0 0]]), .one (.cells 1 [[.imm (.val (.int .u32 a26))]]), .one (j6 63 [40] as61 bo61 .ready none [(4, none), (5, none)] [.ptr 3 0 0, .ptr 5 0 0]), .one (vec 1 eU32 xr61.2)], Z, ?_, ?_⟩)
   ·refine FnOk.enter (rs := []) func80 Z ntmps80 results80 Z trivial (by kernel_rfl) Z ?_
    refine AWP.weak ?_
    unfold F9 at hr61
    try dsimp only at hr61
    refine AWP.j (env' := [(0, .c (.yld 10)), (1, .c (.ptr 8 0 0)), (2, .c (.ptr 9 0 0))]) (σ' := [.one (.cells 3 [(wW start goal 1 l.length)]), .one (vec 4 d3 l), .dead, .one (.cells 1 [[.own 11 0 ((n3 c56 0 ((c56.length : Int) - 1)).length)]]), .one (mapB vU noV c57), .one (.cells 1 [[.map 4]]), .one (vec 1 eU32 a36), .one (vec 1 eU32 [a26]), .one (.cells 1 [[.ptr 0 0 0]]), .one (.cells 1 [[.imm (.val (.int .u32 a26))]]), .one (j6 63 [40] as61 bo61 .ready none [(4, none), (5, none)] [.ptr 3 0 0, .ptr 5 0 0]), .one (vec 1 eU32 (n3 c56 0 ((c56.length : Int) - 1)))]) 11 2 Z Z Z ⟨Z, Z, Z, Y⟩ Z ⟨⟨Z, Z⟩, ⟨Blk.im_ok _ _ _, i5 Z⟩, trivial, ⟨Z, Z⟩, ⟨Z, Z⟩, ⟨Z, Z⟩, ⟨Blk.im_ok _ _ _, i5 Z⟩, ⟨Blk.im_ok _ _ _, i5 Z⟩, ⟨Z, Z⟩, ⟨Z, Z⟩, ⟨Z, Z⟩, ⟨Blk.im_ok _ _ _, i5 Z⟩, Y⟩ (.q (.u (.E Z Z Z Z Z Z (.ac Z Z Z (W.fieldAddr Z Z Z Z (.E Z Z Z Z Z Z (S.lenO Z Z Z (fun hl10 => .j Z Z (.nil (b5 (.J ?_)))))))))))
    obtain ⟨⟨c64, c65⟩, ho2, hr61⟩ := bind_some hr61
    try dsimp only at hr61
    refine AWP.forS ho2 (fun t66 (c64, c65) => ⟨[(0, .c (.yld 10)), (2, .c (.ptr 9 0 0)), (9, .c (.own 1 0 l.length)), (10, .c (int (l.length : Int))), (11, .c (int t66))], [.one (.cells 3 [(wW start goal 1 l.length)]), .one (vec 4 d3 l), .dead, .one (.cells 1 [[.own 11 0 c65.length]]), .one (mapB vU noV c64), .one (.cells 1 [[.map 4]]), .one (vec 1 eU32 a36), .one (vec 1 eU32 [a26]), .one (.cells 1 [[.ptr 0 0 0]]), .one (.cells 1 [[.imm (.val (.int .u32 a26))]]), .one (j6 63 [40] as61 bo61 .ready none [(4, none), (5, none)] [.ptr 3 0 0, .ptr 5 0 0]), .one (vec 1 eU32 c65)]⟩) (fun (c64, c65) e st => e = .exit 0 ∧ Sub ([.one (.cells 3 [(wW start goal 1 l.length)]), .one (vec 4 d3 l), .one (vec 1 eU32 (n3 c56 0 ((c56.length : Int) - 1))), .one (.cells 1 [[.own 2 0 ((n3 c56 0 ((c56.length : Int) - 1)).length)]]), .one (mapB vU noV c57), .one (.cells 1 [[.map 4]]), .one (vec 1 eU32 a36), .one (vec 1 eU32 [a26]), .one (.cells 1 [[.ptr 0 0 0]]), .one (.cells 1 [[.imm (.val (.int .u32 a26))]]), .one (j6 63 [40] as61 bo61 .ready none [(4, none), (5, none)] [.ptr 3 0 0, .ptr 5 0 0])] : b6) st ⟨[], [.one (.cells 3 [(wW start goal 1 l.length)]), .one (vec 4 d3 l), .dead, .one (.cells 1 [[.own 11 0 c65.length]]), .one (mapB vU noV c64), .one (.cells 1 [[.map 4]]), .one (vec 1 eU32 a36), .one (vec 1 eU32 [a26]), .one (.cells 1 [[.ptr 0 0 0]]), .one (.cells 1 [[.imm (.val (.int .u32 a26))]]), .one (j6 63 [40] as61 bo61 .ready none [(4, none), (5, none)] [.ptr 3 0 0, .ptr 5 0 0]), .one (vec 1 eU32 c65)]⟩) ?_ ?_ ?_ ?_
    ·try dsimp only
     exact Sub.env ⟨Z, Z, Z, Z, Z, Y⟩
    ·intro t66 s hlot66 hltt66 _
     obtain ⟨c64, c65⟩ := s
     try dsimp only
     refine AWP.q (.u (.F Z Z Z (.nil (b5 (.q (.ad Z hltt66 (.exit (d9 (d9 ⟨Z, ?_⟩)))))))))
     exact Sub.env trivial
    ·intro t66 s o hlot66 hltt66 h
     obtain ⟨c64, c65⟩ := s
     unfold F6 at h
     try dsimp only at h ⊢
     refine AWP.q (.u (.F Z Z Z (.nil (b5 (.q (.ae Z hltt66 (.skip (b5 (.q (.J (.q ?_)))))))))))
     obtain ⟨ai14, hai14, h⟩ := bind_some h
     refine AWP.u (.j Z Z (S.idxO hai14 Z Z Z Z Z (S.loadOAgg hai14 Z Z Z Z Z Z Z (W.alloc Z Z Z Z (.v Z Z (W.storeAgg Z Z Z Z Z Z Z (.nil (b5 (.q ?_)))))))))
     rcases bft (decide (Go.bits .and .u32 a26 ai14.pre = ai14.pre)) with hb67 | hb67
     ·replace h := I8 hb67 h
      refine AWP.u (.E Z Z Z Z Z Z (W.fieldAddr Z Z Z Z (.E Z Z Z Z Z Z (.bits Z Z Z (by simp) (W.fieldAddr Z Z Z Z (.E Z Z Z Z Z Z (.eql Z Z Z (.j Z Z (.z Z Z Z hb67 (.j Z Z (.z Z Z Z hb67 (.j Z Z (.z Z Z Z hb67 (W.fieldAddr Z Z Z Z (.z Z Z Z hb67 (.E Z Z Z Z Z Z (.z Z Z Z hb67 (.E Z Z Z Z Z Z (.z Z Z Z hb67 (W.fieldAddr Z Z Z Z (.z Z Z Z hb67 (.E Z Z Z Z Z Z (.z Z Z Z hb67 (.bits Z Z Z (by simp) (.z Z Z Z hb67 (W.fieldAddr Z Z Z Z (.z Z Z Z hb67 (.E Z Z Z Z Z Z (.z Z Z Z hb67 (.bits Z Z Z (by simp) (.z Z Z Z hb67 (W.build Z Z Z Z ?_))))))))))))))))))))))))))))))))
      refine AOps.z Z Z Z hb67 ?_; refine AOps.yieldB (E1 := [(8, .c (.ptr 13 0 0)), (40, .agg [int t66, int ai14.cost, .imm (.val (.int .u32 (Go.bits .or .u32 (Go.bits .andNot .u32 a26 ai14.del) ai14.add)))]), (4, .c (.ptr 3 0 0)), (5, .c (.ptr 5 0 0))]) (σ1 := [.one (.cells 3 [(wW start goal 1 l.length)]), .one (vec 4 d3 l), .dead, .one (.cells 1 [[.own 11 0 c65.length]]), .one (mapB vU noV c64), .one (.cells 1 [[.map 4]]), .one (vec 1 eU32 a36), .one (vec 1 eU32 [a26]), .one (.cells 1 [[.ptr 0 0 0]]), .one (.cells 1 [[.imm (.val (.int .u32 a26))]]), .one (j6 63 [40] as61 bo61 .ready none [(4, none), (5, none)] [.ptr 3 0 0, .ptr 5 0 0]), .one (vec 1 eU32 c65), .one (.cells 4 [[.imm (.val (.int .u32 ai14.pre)), .imm (.val (.int .u32 ai14.add)), .imm (.val (.int .u32 ai14.del)), int ai14.cost]]), .one (.cells 3 [[int t66, int ai14.cost, .imm (.val (.int .u32 (Go.bits .or .u32 (Go.bits .andNot .u32 a26 ai14.del) ai14.add)))]])]) hA61 hB61 Z Z Z Z Z Z Z Z Z Z ?_ ?_
      ·refine AWP.u (W.alloc Z Z Z Z (W.storeAgg Z Z Z Z Z Z Z (.nil ?_)))
       exact ⟨Z, Z⟩
      refine AWP.sub (s' := ⟨[(4, .c (.ptr 3 0 0)), (5, .c (.ptr 5 0 0)), (8, .c (.ptr 13 0 0))], [.one (.cells 3 [(wW start goal 1 l.length)]), .one (vec 4 d3 l), .dead, .one (.cells 1 [[.own 11 0 c65.length]]), .one (mapB vU noV c64), .one (.cells 1 [[.map 4]]), .one (vec 1 eU32 a36), .one (vec 1 eU32 [a26]), .one (.cells 1 [[.ptr 0 0 0]]), .one (.cells 1 [[.imm (.val (.int .u32 a26))]]), .one (j6 63 [40] as61 bo61 .busy none [(4, none), (5, none)] [.ptr 3 0 0, .ptr 5 0 0]), .one (vec 1 eU32 c65), .one (.cells 4 [[.imm (.val (.int .u32 ai14.pre)), .imm (.val (.int .u32 ai14.add)), .imm (.val (.int .u32 ai14.del)), int ai14.cost]]), .one (.cells 3 [[int t66, int ai14.cost, .imm (.val (.int .u32 (Go.bits .or .u32 (Go.bits .andNot .u32 a26 ai14.del) ai14.add)))]])]⟩) (Sub.env ⟨Z, Z, Z, Y⟩) (.J (.q (.u (.E Z Z Z Z Z Z (W.fieldAddr Z Z Z Z (.E Z Z Z Z Z Z (W.lookupOkU (fk := vU) (k := Go.bits .or .u32 (Go.bits .andNot .u32 a26 ai14.del) ai14.add) E3 Z Z Z Z Z (.j Z Z (.ab Z Z Z (.ab Z Z Z (W.alloc Z Z Z Z (S.store0 Z Z Z (.v Z Z (.nil (b5 (.q (.u (.j Z Z (.not Z Z (.nil (b5 (.ag Z h (fun hc68 h => ?_) (fun hc68 h => ?_)))))))))))))))))))))))
      ·refine AWP.q (.u (.E Z Z Z Z Z Z (W.fieldAddr Z Z Z Z (.E Z Z Z Z Z Z (S.build0 Z Z Z (W.mapUpdateU (fk := vU) (k := Go.bits .or .u32 (Go.bits .andNot .u32 a26 ai14.del) ai14.add) E3 Z Z Z Z Z (.nil (b5 ?_))))))))
       obtain ⟨ab58, hab58, h⟩ := bind_some h
       refine AWP.u (.E Z Z Z Z Z Z (W.fieldAddr Z Z Z Z (.E Z Z Z Z Z Z (S.lit (f := eU32) (l := [Go.bits .or .u32 (Go.bits .andNot .u32 a26 ai14.del) ai14.add]) (ess := [[.imm (.val (.int .u32 (Go.bits .or .u32 (Go.bits .andNot .u32 a26 ai14.del) ai14.add)))]]) Z Z Z Z Z Z Z ⟨⟨.inl Z, Y⟩, Y⟩ Z Z Z (S.append (f := eU32) hab58 Z Z Z Z Z Z (.own Z Z) Z Z Z Z (W.store Z Z Z Z Z (.nil (e7 (N1 Z Z (.z Z Z Z hb67 (.not Z Z (.O Z hb67 Z Z (.nil (b5 (.j (env' := [(0, .c (.yld 10)), (2, .c (.ptr 9 0 0)), (9, .c (.own 1 0 l.length)), (10, .c (int (l.length : Int))), (11, .c (int t66)), (38, .c (bool false))]) (σ' := [.one (.cells 3 [(wW start goal 1 l.length)]), .one (vec 4 d3 l), .dead, .one (.cells 1 [[.own 11 0 ab58.length]]), .one (mapB vU noV (mset c64 (Go.bits .or .u32 (Go.bits .andNot .u32 a26 ai14.del) ai14.add) ())), .one (.cells 1 [[.map 4]]), .one (vec 1 eU32 a36), .one (vec 1 eU32 [a26]), .one (.cells 1 [[.ptr 0 0 0]]), .one (.cells 1 [[.imm (.val (.int .u32 a26))]]), .one (j6 63 [40] as61 bo61 .ready none [(4, none), (5, none)] [.ptr 3 0 0, .ptr 5 0 0]), .one (vec 1 eU32 ab58), .one (.cells 4 [[.imm (.val (.int .u32 ai14.pre)), .imm (.val (.int .u32 ai14.add)), .imm (.val (.int .u32 ai14.del)), int ai14.cost]]), .one (.cells 3 [[int t66, int ai14.cost, .imm (.val (.int .u32 (Go.bits .or .u32 (Go.bits .andNot .u32 a26 ai14.del) ai14.add)))]]), .one (.cells 0 [[]]), .one (vec 1 eU32 [Go.bits .or .u32 (Go.bits .andNot .u32 a26 ai14.del) ai14.add])]) 11 16 Z Z Z ⟨Z, Z, Z, Z, Z, Z, Y⟩ Z ⟨⟨Z, Z⟩, ⟨Blk.im_ok _ _ _, i5 Z⟩, trivial, ⟨Z, Z⟩, ⟨Z, Z⟩, ⟨Z, Z⟩, ⟨Blk.im_ok _ _ _, i5 Z⟩, ⟨Blk.im_ok _ _ _, i5 Z⟩, ⟨Z, Z⟩, ⟨Z, Z⟩, ⟨Z, Z⟩, ⟨Blk.im_ok _ _ _, i5 Z⟩, ⟨Z, Z⟩, ⟨Z, Z⟩, ⟨Z, Z⟩, ⟨Blk.im_ok _ _ _, i5 Z⟩, Y⟩ (.condF Z (.skip (e7 (b5 (.u (.add Z Z Z (by omega) (.j Z Z (.nil ?_)))))))))))))))))))))))
       obtain rfl := oi h
       refine b5 (Sub.cut ⟨Z, Z, Z, Z, Z, Y⟩ Z ⟨.one Z, .vec, .dead, .one Z, .one Z, .one Z, .vec, .vec, .one Z, .one Z, .one Z, .vec, Y⟩ Z)
      ·refine AWP.skip (e7 (N1 Z Z (.z Z Z Z hb67 (.not Z Z (.O Z hb67 Z Z (.nil (b5 (.condF Z (.skip (e7 (b5 (.u (.add Z Z Z (by omega) (.j Z Z (.nil ?_)))))))))))))))
       obtain rfl := oi h
       refine b5 (Sub.cut ⟨Z, Z, Z, Z, Z, Y⟩ Z ⟨.one Z, .vec, .dead, .one Z, .one Z, .one Z, .vec, .vec, .one Z, .one Z, .one Z, .vec, Y⟩ Z)
     ·replace h := J1 hb67 h
      refine AWP.u (.E Z Z Z Z Z Z (W.fieldAddr Z Z Z Z (.E Z Z Z Z Z Z (.bits Z Z Z (by simp) (W.fieldAddr Z Z Z Z (.E Z Z Z Z Z Z (.eql Z Z Z (.j Z Z (.B Z Z Z hb67 (.B Z Z Z hb67 (.B Z Z Z hb67 (.B Z Z Z hb67 (.B Z Z Z hb67 (.B Z Z Z hb67 (.B Z Z Z hb67 (.B Z Z Z hb67 (.B Z Z Z hb67 (.B Z Z Z hb67 (.B Z Z Z hb67 (.B Z Z Z hb67 (.B Z Z Z hb67 (.B Z Z Z hb67 (.U Z hb67 Z Z (.nil (b5 (.condF Z (.skip (e7 (b5 (.u (.add Z Z Z (by omega) (.j Z Z (.nil ?_)))))))))))))))))))))))))))))))))
      obtain rfl := oi h
      refine b5 (Sub.cut ⟨Z, Z, Z, Z, Z, Y⟩ Z ⟨.one Z, .vec, .dead, .one Z, .one Z, .one Z, .vec, .vec, .one Z, .one Z, .one Z, .vec, Y⟩ Z)
    ·intro e s hq
     obtain ⟨rfl, hs⟩ := hq
     refine ⟨_, hs, ?_⟩
     refine k6 ?_
     obtain rfl := oi hr61
     exact ⟨⟨[], [.one (.cells 3 [(wW start goal 1 l.length)]), .one (vec 4 d3 l), .dead, .one (.cells 1 [[.own 11 0 c65.length]]), .one (mapB vU noV c64), .one (.cells 1 [[.map 4]]), .one (vec 1 eU32 a36), .one (vec 1 eU32 [a26]), .one (.cells 1 [[.ptr 0 0 0]]), .one (.cells 1 [[.imm (.val (.int .u32 a26))]]), .one (j6 63 [40] as61 bo61 .ready none [(4, none), (5, none)] [.ptr 3 0 0, .ptr 5 0 0]), .one (vec 1 eU32 c65)]⟩, Sub.env trivial, Done.normal Z ⟨Z, Z⟩⟩
   ·rintro tt ss ⟨rfl, rfl⟩
    obtain ⟨c62, c63⟩ := xr61
    try dsimp only at h ⊢
    refine aa3 Z Z (e7 (b5 (.q (.u (.E Z Z Z Z Z Z (S.lenMap (fk := vU) (fv := noV) Z Z Z (.gtr Z Z Z (.nil (b5 (.ite Z h (fun hc69 h => ?_) (fun hc69 h => ?_)))))))))))
    ·refine AWP.q (.u (.v Z Z (.v Z Z (.nil (b5 (.virtV 1 eU32 2 Z Z Z (.ret (l7 ?_))))))))
     obtain rfl := oi h
     refine e8 ⟨_, Z, Z, ?_⟩
     exact ⟨⟨[(2, .c (.own 12 0 ([].length))), (3, .c (bool false))], [.one (.cells 3 [(wW start goal 1 l.length)]), .one (vec 4 d3 l), .dead, .dead, .dead, .dead, .dead, .dead, .dead, .dead, .dead, .dead, .one (vec 1 eU32 [])]⟩, Sub.cut ⟨(J4 (by first | rfl | simp only [List.length_set])), Z, Y⟩ Z ⟨.one Z, .vec, .dead, .dead, .dead, .dead, .dead, .dead, .dead, .dead, .dead, .dead, .vec, Y⟩ Z, Done.ret Z ⟨Z, Z⟩⟩
    ·refine AWP.skip (e7 ?_)
     obtain rfl := oi h
     refine b5 ⟨_, Z, ?_⟩
     exact (Sub.move (env' := [(0, .c (.ifc 66 [.ptr 0 0 0] false)), (4, .c (.ptr 3 0 0)), (5, .c (.ptr 5 0 0)), (6, .c (.own 6 0 a36.length))]) (σ' := [.one (.cells 3 [(wW start goal 1 l.length)]), .one (vec 4 d3 l), .one (vec 1 eU32 c63), .one (.cells 1 [[.own 2 0 c63.length]]), .one (mapB vU noV c62), .one (.cells 1 [[.map 4]]), .one (vec 1 eU32 a36), .one (vec 1 eU32 [a26]), .one (.cells 1 [[.ptr 0 0 0]]), .one (.cells 1 [[.imm (.val (.int .u32 a26))]]), .dead]) 2 11 Z Z Z ⟨Z, Z, Z, Z, Y⟩ Z ⟨⟨Z, Z⟩, ⟨Blk.im_ok _ _ _, i5 Z⟩, ⟨Blk.im_ok _ _ _, i5 Z⟩, ⟨Z, Z⟩, ⟨Z, Z⟩, ⟨Z, Z⟩, ⟨Blk.im_ok _ _ _, i5 Z⟩, ⟨Blk.im_ok _ _ _, i5 Z⟩, ⟨Z, Z⟩, ⟨Z, Z⟩, trivial, Y⟩).trans (Sub.cut ⟨Z, Z, Z, Z, Y⟩ Z ⟨.one Z, .vec, .vec, .one Z, .one Z, .one Z, .vec, Y⟩ Z)
  ·refine AWP.exit (d9 ?_)
   obtain rfl := oi h
   refine d9 ⟨_, Z, Z, ?_⟩
   exact Sub.cut ⟨Z, Y⟩ Z ⟨.one Z, .vec, .dead, .dead, .dead, .dead, .vec, Y⟩ Z
 ·intro e s hq
  rcases oo with c59 | x
  ·try dsimp only at h hq
   obtain ⟨rfl, hs⟩ := hq
   refine ⟨_, hs, ?_⟩
   refine k6 (b5 (.q (.u (.j Z Z (.v Z Z (.v Z Z (.nil (b5 (.ret ?_)))))))))
   obtain rfl := oi h
   exact ⟨⟨[(2, .c (.own 12 0 c59.length)), (3, .c (bool true))], [.one (.cells 3 [(wW start goal 1 l.length)]), .one (vec 4 d3 l), .dead, .dead, .dead, .dead, .dead, .dead, .dead, .dead, .dead, .dead, .one (vec 1 eU32 c59)]⟩, (Sub.move (env' := [(2, .c (.own 12 0 c59.length)), (3, .c (bool true))]) (σ' := [.one (.cells 3 [(wW start goal 1 l.length)]), .one (vec 4 d3 l), .dead, .dead, .dead, .dead, .dead, .dead, .dead, .dead, .dead, .dead, .one (vec 1 eU32 c59)]) 12 6 Z Z Z ⟨Z, Z, Y⟩ Z ⟨⟨Z, Z⟩, ⟨Blk.im_ok _ _ _, i5 Z⟩, trivial, trivial, trivial, trivial, trivial, trivial, trivial, trivial, trivial, trivial, ⟨Blk.im_ok _ _ _, i5 Z⟩, Y⟩).trans (Sub.env ⟨Z, Z, Y⟩), Done.ret Z ⟨Z, Z⟩⟩
  ·try dsimp only at h hq
   obtain ⟨rfl, hs⟩ := hq
   refine ⟨_, Sub.refl _ _, ?_⟩
   refine l7 (e8 ?_)
   obtain rfl := oi h
   exact hs
theorem ad2 {t : d8} {r : (Int × Int) ⊕ (Int × Int × (List i6) × (List Int))} (h : C0 t = some r) : FnOk prog 34 [.agg (tT t)] (an6 t) (fun tt ss => (∃ v : Int × Int, r = .inl v ∧ tt = .tup [.c (.imm (.val (.pointer none))), .c (row 1 eU32 []), .agg [int v.1, int v.2]] ∧ ss = [.dead, .one (.cells 2 [[int v.1, int v.2]])]) ∨ (∃ v : Int × Int × (List i6) × (List Int), r = .inr v ∧ tt = .tup [.c (.ptr 4 0 0), .c (row 1 eU32 v.2.2.2), .agg [int 0, int 0]] ∧ ss = [.dead, .one (.cells 2 [[int 0, int 0]]), .dead, .dead, .one (.cells 3 [[.imm (.val (.int .u32 v.1)), .imm (.val (.int .u32 v.2.1)), .own 5 0 v.2.2.1.length]]), .one (vec 4 d3 v.2.2.1)])) := by
 refine FnOk.enter (rs := [.t 2, .t 3, .cell 4 27 2]) func34 Z ntmps34 results34 Z ⟨trivial, trivial, rv _ Z, Y⟩ (by kernel_rfl) Z ?_
 refine AWP.weak ?_
 unfold C0 at h
 refine AWP.q (.u (W.box Z Z Z Z Z Z (.v Z Z (.v Z Z (W.alloc Z Z Z Z (.nil (b5 (.q (.q ?_)))))))))
 obtain ⟨a10, ha10, h⟩ := bind_some h
 refine AWP.u (W.loadAgg Z Z Z Z Z Z Z (.aa Z Z Z Z (ac6 ha10) Z (W.alloc Z Z Z Z (W.storeAgg Z Z Z Z Z Z Z (.nil (b5 (.q (.u (W.loadAgg Z Z Z Z Z Z Z (W.build Z Z Z Z (.neqP Z Z Z Z Z Z Z (.nil (b5 (.ag Z h (fun hc58 h => ?_) (fun hc58 h => ?_)))))))))))))))
 ·refine AWP.q (.drawEI [3] mixed Z Z Z ?_)
  refine d5.consN Z Z (fun E => W.loadAgg Z Z Z Z Z Z Z .N) Z (.consN Z Z (fun E => AOps.v Z Z .N) Z (.consN Z Z (fun E => AOps.v Z Z .N) Z ?_))
  apply d5.consE (v := .undef); exact Z; exact Z; intro E
  refine W.storeAgg Z Z Z Z Z Z Z .N
  exact Z
  exact Z
  refine d5.done Z ?_ ?_
  ·refine c9.cons Z Z ?_ ?_
   refine b7.go Z Z (fun E => W.loadAgg Z Z Z Z Z Z Z .N) ?_
   refine b7.skip Z (b7.nil)
   refine c9.cons Z Z ?_ ?_
   refine b7.go Z Z (fun E => AOps.v Z Z .N) ?_
   refine b7.skip Z (b7.nil)
   refine c9.cons Z Z ?_ ?_
   refine b7.go Z Z (fun E => AOps.v Z Z .N) ?_
   refine b7.skip Z (b7.nil)
   refine c9.skip Z (c9.nil)
  dsimp only [j8]
  refine b5 (.nilrow 1 3 Z (.ret (e8 ?_)))
  obtain rfl := oi h
  exact ⟨⟨[(2, .c (.imm (.val (.pointer none)))), (3, .c (row 1 eU32 [])), (4, .c (.ptr 1 0 0))], [.dead, .one (.cells 2 [[int a10.code, int a10.index]])]⟩, Sub.cut ⟨Z, Z, Z, Y⟩ Z ⟨.dead, .one Z, Y⟩ Z, Done.ret Z (.inl ⟨_, Z, Z, Z⟩)⟩
 ·refine AWP.skip (b5 (.q ?_))
  obtain ⟨a16, ha16, h⟩ := bind_some h
  refine AWP.u (W.loadAgg Z Z Z Z Z Z Z (.callF (r2 := .c (.ptr 4 0 0)) (σ'' := [.one (.cells 4 [(tT t)]), .one (.cells 2 [[int 0, int 0]]), .one (.cells 2 [[int a10.code, int a10.index]]), .dead, .one (.cells 3 [[.imm (.val (.int .u32 a16.1)), .imm (.val (.int .u32 a16.2.1)), .own 5 0 a16.2.2.length]]), .one (vec 4 d3 a16.2.2)]) Z Z Z (FnOk.lend [] (space_Of_w_ok ha16) Z Z Z Z Z Z (by exact trivial) Z (by exact trivial) Z Z (by exact ⟨(.old Z Z Z), (.old Z Z Z), (.old Z Z Z), .dead, (.new 1 Z Z (.one Z)), (.new 2 Z Z .vec), Y⟩)) (.v Z Z (.nil (b5 (.q ?_))))))
  obtain ⟨a20, ha20, h⟩ := bind_some h
  refine AWP.u (.j Z Z (S.mkIfc Z Z Z (.callF (r2 := .tup [.c (.own 16 0 a20.1.length), .c (bool a20.2)]) (σ'' := [.one (.cells 4 [(tT t)]), .one (.cells 2 [[int 0, int 0]]), .one (.cells 2 [[int a10.code, int a10.index]]), .dead, .one (.cells 3 [[.imm (.val (.int .u32 a16.1)), .imm (.val (.int .u32 a16.2.1)), .own 5 0 a16.2.2.length]]), .one (vec 4 d3 a16.2.2), .dead, .dead, .dead, .dead, .dead, .dead, .dead, .dead, .dead, .dead, .one (vec 1 eU32 a20.1)]) Z Z Z (FnOk.lend [4, 5] (ak6 ha20) Z Z Z Z Z Z (by exact ⟨(.one Z), .vec, Y⟩) Z (by exact ⟨(.live Z (.one Z)), (.live Z .vec), Y⟩) Z Z (by exact ⟨(.old Z Z Z), (.old Z Z Z), (.old Z Z Z), .dead, (.new 0 Z Z (.one Z)), (.new 1 Z Z .vec), .dead, .dead, .dead, .dead, .dead, .dead, .dead, .dead, .dead, .dead, (.new 12 Z Z .vec), Y⟩)) (.j Z Z (.ab Z Z Z (.ab Z Z Z (.v Z Z (.v Z Z (.nil (b5 (.q (.q (.u (.j Z Z (.not Z Z (.nil (b5 (.ag Z h (fun hc59 h => ?_) (fun hc59 h => ?_)))))))))))))))))))
  ·refine AWP.q (.u (W.build Z Z Z Z (.v Z Z (.v Z Z (W.storeAgg Z Z Z Z Z Z Z (.nil (b5 (.nilrow 1 3 Z (.ret (e8 ?_))))))))))
   obtain rfl := oi h
   exact ⟨⟨[(2, .c (.imm (.val (.pointer none)))), (3, .c (row 1 eU32 [])), (4, .c (.ptr 1 0 0))], [.dead, .one (.cells 2 [[int 10, int (-7)]])]⟩, Sub.cut ⟨Z, Z, Z, Y⟩ Z ⟨.dead, .one Z, Y⟩ Z, Done.ret Z (.inl ⟨_, Z, Z, Z⟩)⟩
  ·refine AWP.skip (b5 (.q ?_))
   obtain ⟨a27, ha27, h⟩ := bind_some h
   refine AWP.u (.j Z Z (S.sortFU ha27 (fun hy => an7 hy) sortF_Lu32_ok (⟨_, func57, Z, Z⟩) Z Z Z Z Z Z ?_))
   refine AOps.nil (b5 (.q (.u (.j Z Z (.j Z Z (W.build Z Z Z Z (.v Z Z (.v Z Z (W.storeAgg Z Z Z Z Z Z Z (.nil (b5 (.frzV (id := 16) (l := a27) (env2 := [(2, .c (.ptr 4 0 0)), (3, .c (row 1 eU32 a27)), (4, .c (.ptr 1 0 0))]) (σ2 := [.one (.cells 4 [(tT t)]), .one (.cells 2 [[int 0, int 0]]), .one (.cells 2 [[int a10.code, int a10.index]]), .dead, .one (.cells 3 [[.imm (.val (.int .u32 a16.1)), .imm (.val (.int .u32 a16.2.1)), .own 5 0 a16.2.2.length]]), .one (vec 4 d3 a16.2.2), .dead, .dead, .dead, .dead, .dead, .dead, .dead, .dead, .dead, .dead, .dead]) Z Z (by exact ⟨⟨_, Z, .inl ⟨Z, Z⟩⟩, ⟨_, Z, .inr ⟨_, Z, (sortFU_len ha27), Z⟩⟩, ⟨_, Z, .inl ⟨Z, Z⟩⟩, Y⟩) Z (by exact ⟨⟨Z, .inl ⟨Z, Z⟩, .inl ⟨Z, Z⟩, .inl ⟨Z, Z⟩, .inl ⟨Z, Z⟩, Y⟩, ⟨Z, .inl ⟨Z, Z⟩, .inl ⟨Z, Z⟩, Y⟩, ⟨Z, .inl ⟨Z, Z⟩, .inl ⟨Z, Z⟩, Y⟩, trivial, ⟨Z, .inl ⟨Z, Z⟩, .inl ⟨Z, Z⟩, .inl ⟨Z, Z⟩, Y⟩, FrzB.vec, trivial, trivial, trivial, trivial, trivial, trivial, trivial, trivial, trivial, trivial, trivial, Y⟩) (.ret ?_)))))))))))))
   obtain rfl := oi h
   exact ⟨⟨[(2, .c (.ptr 4 0 0)), (3, .c (row 1 eU32 a27)), (4, .c (.ptr 1 0 0))], [.dead, .one (.cells 2 [[int 0, int 0]]), .dead, .dead, .one (.cells 3 [[.imm (.val (.int .u32 a16.1)), .imm (.val (.int .u32 a16.2.1)), .own 5 0 a16.2.2.length]]), .one (vec 4 d3 a16.2.2)]⟩, Sub.cut ⟨Z, Z, Z, Y⟩ Z ⟨.dead, .one Z, .dead, .dead, .one Z, .vec, Y⟩ Z, Done.ret Z (.inr ⟨_, Z, Z, Z⟩)⟩
theorem ah0 {r : Unit} (h : G2 = some r) : FnOk prog 60 [] (ag0) (fun tt ss => tt = .c (.ptr 2 0 0) ∧ ss = [.one (pmap 1 vU ([] : List (Int × Int))), pool 4 b8 ([] : List b9), .one (.cells 3 [[.own 3 0 (([] : List Int).length), .map 0, int 0]]), .one (prow 1 ([] : List Int))]) := by
 refine FnOk.enter (rs := [.t 0]) func60 Z ntmps60 results60 Z ⟨trivial, Y⟩ (by kernel_rfl) Z ?_
 refine AWP.weak ?_
 unfold G2 at h
 refine AWP.q (.u (.v Z Z (.nil (b5 (.q (.u (W.makeMapP 1 vU Z Z Z (.sub (Sub.newPool (size := 4) (f := b8) Z) (W.build Z Z Z Z (W.box Z Z Z Z Z Z (.v Z Z (.nil (b5 (.virtP 1 (b := 2) (o := 0) Z Z Z Z Z Z (.ret ?_)))))))))))))))
 obtain rfl := oi h
 exact ⟨⟨[(0, .c (.ptr 2 0 0))], [.one (pmap 1 vU ([] : List (Int × Int))), pool 4 b8 ([] : List b9), .one (.cells 3 [[.own 3 0 (([] : List Int).length), .map 0, int 0]]), .one (prow 1 ([] : List Int))]⟩, Sub.env ⟨Z, Y⟩, Done.ret Z ⟨Z, Z⟩⟩
theorem aj9 {sv : Int} {start : Int} {goal : Int} {l : List i6} {r : Unit} (h : J0 sv start goal l = some r) : FnOk prog 61 [.c (.ptr 0 0 0), .c (.imm (.val (.int .u32 sv)))] (aj1 sv start goal l) (fun tt ss => tt = .c (bool (decide (Go.bits .and .u32 sv goal = goal))) ∧ ss = [.one (.cells 3 [(wW start goal 1 l.length)]), .one (vec 4 d3 l)]) := by
 refine FnOk.enter (rs := [.t 4]) func61 Z ntmps61 results61 Z ⟨trivial, Y⟩ (by kernel_rfl) Z ?_
 refine AWP.weak ?_
 unfold J0 at h
 refine AWP.q (.u (.v Z Z (.nil (b5 (.q (.drawI mixed Z ?_))))))
 refine i9.consF Z (fun E => AOps.j Z Z .N) Z (.consF Z (fun E => AOps.j Z Z .N) Z (.consF Z (fun E => AOps.ac Z Z Z .N) Z (.consF Z (fun E => W.fieldAddr Z Z Z Z .N) Z (.consF Z (fun E => AOps.E Z Z Z Z Z Z .N) Z (.consF Z (fun E => AOps.bits Z Z Z (by simp) .N) Z (.consF Z (fun E => AOps.j Z Z .N) Z (.consF Z (fun E => AOps.ac Z Z Z .N) Z (.consF Z (fun E => W.fieldAddr Z Z Z Z .N) Z (.consF Z (fun E => AOps.E Z Z Z Z Z Z .N) Z (.consF Z (fun E => AOps.eql Z Z Z .N) Z (.consF Z (fun E => AOps.v Z Z .N) Z ?_)))))))))))
 refine i9.done ?_
 dsimp only [j8]
 refine b5 (.ret ?_)
 obtain rfl := oi h
 exact ⟨⟨[(4, .c (bool (decide (Go.bits .and .u32 sv goal = goal))))], [.one (.cells 3 [(wW start goal 1 l.length)]), .one (vec 4 d3 l)]⟩, Sub.env ⟨Z, Y⟩, Done.ret Z ⟨Z, Z⟩⟩
theorem C3 {l : List Int} {l2 : List b9} {r : Unit} (h : n8 l l2 = some r) : FnOk prog 170 [.c (.own 0 0 l.length)] (aa1 l l2) (fun tt ss => tt = .c (int (l.length : Int)) ∧ ss = [.one (prow 1 l), pool 4 b8 l2]) := by
 refine FnOk.enter (rs := [.t 2]) func170 Z ntmps170 results170 Z ⟨trivial, Y⟩ (by kernel_rfl) Z ?_
 refine AWP.weak ?_
 unfold n8 at h
 refine AWP.q (.u (.v Z Z (.nil (b5 (.q (.u (.j Z Z (.lenOwnB Z Z Z (fun hl4 => .v Z Z (.nil (b5 (.ret ?_))))))))))))
 obtain rfl := oi h
 exact ⟨⟨[(2, .c (int (l.length : Int)))], [.one (prow 1 l), pool 4 b8 l2]⟩, Sub.env ⟨Z, Y⟩, Done.ret Z ⟨Z, Z⟩⟩
theorem w5 {iv : Int} {kv : Int} {l : List Int} {l4 : List b9} {r : Bool} (h : m5 iv kv l l4 = some r) : FnOk prog 171 [.c (.own 0 0 l.length), .c (int iv), .c (int kv)] (Y9 iv kv l l4) (fun tt ss => tt = .c (bool r) ∧ ss = [.one (prow 1 l), pool 4 b8 l4]) := by
 refine FnOk.enter (rs := [.t 6]) func171 Z ntmps171 results171 Z ⟨trivial, Y⟩ (by kernel_rfl) Z ?_
 refine AWP.weak ?_
 unfold m5 at h
 refine AWP.q (.u (.v Z Z (.nil (b5 ?_))))
 obtain ⟨a9, ha9, en56, hen56, a16, ha16, h⟩ := b3 h
 obtain ⟨en57, hen57, h⟩ := bind_some h
 refine AWP.seqJ (⟨[(6, .c (bool ((decide (en56.key < en57.key)) || ((decide (en56.key = en57.key)) && (decide (en56.time < en57.time))))))], [.one (prow 1 l), pool 4 b8 l4]⟩) ?_ ?_
 ·rcases bft (decide (en56.key < en57.key)) with hb1 | hb1
  ·refine AWP.drawI mixed Z ?_
   refine i9.consF Z (fun E => AOps.j Z Z .N) Z (.consF Z (fun E => AOps.j Z Z .N) Z (.consF Z (fun E => S.idxPb Z Z Z (by simpa only [List.length_set] using n4 ha9) Z Z .N) Z (.consF Z (fun E => S.loadP ha9 Z Z Z Z .N) Z (.consF Z (fun E => S.nilCheckE Z Z (by simpa only [List.length_set] using e9 hen56) Z .N) Z (.consF Z (fun E => S.fieldE Z Z Z (by simpa only [List.length_set] using e9 hen56) Z .N) Z (.consF Z (fun E => AOps.E Z Z (n7 Z hen56) Z Z Z .N) Z (.consF Z (fun E => AOps.j Z Z .N) Z (.consF Z (fun E => AOps.j Z Z .N) Z (.consF Z (fun E => S.idxPb Z Z Z (by simpa only [List.length_set] using n4 ha16) Z Z .N) Z (.consF Z (fun E => S.loadP ha16 Z Z Z Z .N) Z (.consF Z (fun E => S.nilCheckE Z Z (by simpa only [List.length_set] using e9 hen57) Z .N) Z (.consF Z (fun E => S.fieldE Z Z Z (by simpa only [List.length_set] using e9 hen57) Z .N) Z (.consF Z (fun E => AOps.E Z Z (n7 Z hen57) Z Z Z .N) Z (.consF Z (fun E => AOps.F Z Z Z .N) Z (.consF Z (fun E => AOps.j Z Z .N) Z (.consF Z (fun E => AOps.B Z Z Z hb1 .N) Z (.consF Z (fun E => AOps.B Z Z Z hb1 .N) Z (.consF Z (fun E => AOps.B Z Z Z hb1 .N) Z (.consF Z (fun E => AOps.B Z Z Z hb1 .N) Z (.consF Z (fun E => AOps.B Z Z Z hb1 .N) Z (.consF Z (fun E => AOps.B Z Z Z hb1 .N) Z (.consF Z (fun E => AOps.B Z Z Z hb1 .N) Z (.consF Z (fun E => AOps.B Z Z Z hb1 .N) Z (.consF Z (fun E => AOps.B Z Z Z hb1 .N) Z (.consF Z (fun E => AOps.B Z Z Z hb1 .N) Z (.consF Z (fun E => AOps.B Z Z Z hb1 .N) Z (.consF Z (fun E => AOps.B Z Z Z hb1 .N) Z (.consF Z (fun E => AOps.B Z Z Z hb1 .N) Z (.consF Z (fun E => AOps.B Z Z Z hb1 .N) Z (.consF Z (fun E => AOps.B Z Z Z hb1 .N) Z (.consF Z (fun E => AOps.B Z Z Z hb1 .N) Z (.consF Z (fun E => AOps.ah Z Z Z .N) Z (.consF Z (fun E => AOps.ah Z Z Z .N) Z (.consF Z (fun E => AOps.ah Z Z Z .N) Z (.consF Z (fun E => AOps.ah Z Z Z .N) Z (.consF Z (fun E => AOps.ah Z Z Z .N) Z (.consF Z (fun E => AOps.ah Z Z Z .N) Z (.consF Z (fun E => AOps.ah Z Z Z .N) Z (.consF Z (fun E => AOps.ah Z Z Z .N) Z (.consF Z (fun E => AOps.ah Z Z Z .N) Z (.consF Z (fun E => AOps.ah Z Z Z .N) Z (.consF Z (fun E => AOps.ah Z Z Z .N) Z (.consF Z (fun E => AOps.ah Z Z Z .N) Z (.consF Z (fun E => AOps.ah Z Z Z .N) Z (.consF Z (fun E => AOps.ah Z Z Z .N) Z (.consF Z (fun E => AOps.ah Z Z Z .N) Z (.consF Z (fun E => AOps.B Z Z Z hb1 .N) Z (.consF Z (fun E => AOps.O Z hb1 Z Z .N) Z (.consF Z (fun E => AOps.v Z Z .N) Z ?_)))))))))))))))))))))))))))))))))))))))))))))))))
   refine i9.done ?_
   dsimp only [j8]
   refine b5 ?_
   simp only [V9 hb1, or_t hb1, Bool.false_or, Bool.true_or, Bool.false_and, Bool.true_and]
   exact Sub.env ⟨Z, Y⟩
  ·rcases bft (decide (en56.key = en57.key)) with hb2 | hb2
   ·refine AWP.drawI mixed Z ?_
    refine i9.consF Z (fun E => AOps.j Z Z .N) Z (.consF Z (fun E => AOps.j Z Z .N) Z (.consF Z (fun E => S.idxPb Z Z Z (by simpa only [List.length_set] using n4 ha9) Z Z .N) Z (.consF Z (fun E => S.loadP ha9 Z Z Z Z .N) Z (.consF Z (fun E => S.nilCheckE Z Z (by simpa only [List.length_set] using e9 hen56) Z .N) Z (.consF Z (fun E => S.fieldE Z Z Z (by simpa only [List.length_set] using e9 hen56) Z .N) Z (.consF Z (fun E => AOps.E Z Z (n7 Z hen56) Z Z Z .N) Z (.consF Z (fun E => AOps.j Z Z .N) Z (.consF Z (fun E => AOps.j Z Z .N) Z (.consF Z (fun E => S.idxPb Z Z Z (by simpa only [List.length_set] using n4 ha16) Z Z .N) Z (.consF Z (fun E => S.loadP ha16 Z Z Z Z .N) Z (.consF Z (fun E => S.nilCheckE Z Z (by simpa only [List.length_set] using e9 hen57) Z .N) Z (.consF Z (fun E => S.fieldE Z Z Z (by simpa only [List.length_set] using e9 hen57) Z .N) Z (.consF Z (fun E => AOps.E Z Z (n7 Z hen57) Z Z Z .N) Z (.consF Z (fun E => AOps.F Z Z Z .N) Z (.consF Z (fun E => AOps.j Z Z .N) Z (.consF Z (fun E => AOps.z Z Z Z hb1 (.j Z Z .N)) Z (.consF Z (fun E => AOps.z Z Z Z hb1 (.j Z Z .N)) Z (.consF Z (fun E => AOps.z Z Z Z hb1 (S.idxPb Z Z Z (by simpa only [List.length_set] using n4 ha9) Z Z .N)) Z (.consF Z (fun E => AOps.z Z Z Z hb1 (S.loadP ha9 Z Z Z Z .N)) Z (.consF Z (fun E => AOps.z Z Z Z hb1 (S.nilCheckE Z Z (by simpa only [List.length_set] using e9 hen56) Z .N)) Z (.consF Z (fun E => AOps.z Z Z Z hb1 (S.fieldE Z Z Z (by simpa only [List.length_set] using e9 hen56) Z .N)) Z (.consF Z (fun E => AOps.z Z Z Z hb1 (.E Z Z (n7 Z hen56) Z Z Z .N)) Z (.consF Z (fun E => AOps.z Z Z Z hb1 (.j Z Z .N)) Z (.consF Z (fun E => AOps.z Z Z Z hb1 (.j Z Z .N)) Z (.consF Z (fun E => AOps.z Z Z Z hb1 (S.idxPb Z Z Z (by simpa only [List.length_set] using n4 ha16) Z Z .N)) Z (.consF Z (fun E => AOps.z Z Z Z hb1 (S.loadP ha16 Z Z Z Z .N)) Z (.consF Z (fun E => AOps.z Z Z Z hb1 (S.nilCheckE Z Z (by simpa only [List.length_set] using e9 hen57) Z .N)) Z (.consF Z (fun E => AOps.z Z Z Z hb1 (S.fieldE Z Z Z (by simpa only [List.length_set] using e9 hen57) Z .N)) Z (.consF Z (fun E => AOps.z Z Z Z hb1 (.E Z Z (n7 Z hen57) Z Z Z .N)) Z (.consF Z (fun E => AOps.z Z Z Z hb1 (.eql Z Z Z .N)) Z (.consF Z (fun E => AOps.z Z Z Z hb1 (.j Z Z .N)) Z (.consF Z (fun E => AOps.z Z Z Z hb2 (.j Z Z .N)) Z (.consF Z (fun E => AOps.z Z Z Z hb2 (.j Z Z .N)) Z (.consF Z (fun E => AOps.z Z Z Z hb2 (S.idxPb Z Z Z (by simpa only [List.length_set] using n4 ha9) Z Z .N)) Z (.consF Z (fun E => AOps.z Z Z Z hb2 (S.loadP ha9 Z Z Z Z .N)) Z (.consF Z (fun E => AOps.z Z Z Z hb2 (S.nilCheckE Z Z (by simpa only [List.length_set] using e9 hen56) Z .N)) Z (.consF Z (fun E => AOps.z Z Z Z hb2 (S.fieldE Z Z Z (by simpa only [List.length_set] using e9 hen56) Z .N)) Z (.consF Z (fun E => AOps.z Z Z Z hb2 (.E Z Z (n7 Z hen56) Z Z Z .N)) Z (.consF Z (fun E => AOps.z Z Z Z hb2 (.j Z Z .N)) Z (.consF Z (fun E => AOps.z Z Z Z hb2 (.j Z Z .N)) Z (.consF Z (fun E => AOps.z Z Z Z hb2 (S.idxPb Z Z Z (by simpa only [List.length_set] using n4 ha16) Z Z .N)) Z (.consF Z (fun E => AOps.z Z Z Z hb2 (S.loadP ha16 Z Z Z Z .N)) Z (.consF Z (fun E => AOps.z Z Z Z hb2 (S.nilCheckE Z Z (by simpa only [List.length_set] using e9 hen57) Z .N)) Z (.consF Z (fun E => AOps.z Z Z Z hb2 (S.fieldE Z Z Z (by simpa only [List.length_set] using e9 hen57) Z .N)) Z (.consF Z (fun E => AOps.z Z Z Z hb2 (.E Z Z (n7 Z hen57) Z Z Z .N)) Z (.consF Z (fun E => AOps.z Z Z Z hb2 (.F Z Z Z .N)) Z (.consF Z (fun E => AOps.z Z Z Z hb1 (.O Z hb2 Z Z .N)) Z (.consF Z (fun E => AOps.U Z hb1 Z Z .N) Z (.consF Z (fun E => AOps.v Z Z .N) Z ?_)))))))))))))))))))))))))))))))))))))))))))))))))
    refine i9.done ?_
    dsimp only [j8]
    refine b5 ?_
    simp only [Q0 hb1, or_f hb1, V9 hb2, or_t hb2, Bool.false_or, Bool.true_or, Bool.false_and, Bool.true_and]
    exact Sub.env ⟨Z, Y⟩
   ·refine AWP.drawI mixed Z ?_
    refine i9.consF Z (fun E => AOps.j Z Z .N) Z (.consF Z (fun E => AOps.j Z Z .N) Z (.consF Z (fun E => S.idxPb Z Z Z (by simpa only [List.length_set] using n4 ha9) Z Z .N) Z (.consF Z (fun E => S.loadP ha9 Z Z Z Z .N) Z (.consF Z (fun E => S.nilCheckE Z Z (by simpa only [List.length_set] using e9 hen56) Z .N) Z (.consF Z (fun E => S.fieldE Z Z Z (by simpa only [List.length_set] using e9 hen56) Z .N) Z (.consF Z (fun E => AOps.E Z Z (n7 Z hen56) Z Z Z .N) Z (.consF Z (fun E => AOps.j Z Z .N) Z (.consF Z (fun E => AOps.j Z Z .N) Z (.consF Z (fun E => S.idxPb Z Z Z (by simpa only [List.length_set] using n4 ha16) Z Z .N) Z (.consF Z (fun E => S.loadP ha16 Z Z Z Z .N) Z (.consF Z (fun E => S.nilCheckE Z Z (by simpa only [List.length_set] using e9 hen57) Z .N) Z (.consF Z (fun E => S.fieldE Z Z Z (by simpa only [List.length_set] using e9 hen57) Z .N) Z (.consF Z (fun E => AOps.E Z Z (n7 Z hen57) Z Z Z .N) Z (.consF Z (fun E => AOps.F Z Z Z .N) Z (.consF Z (fun E => AOps.j Z Z .N) Z (.consF Z (fun E => AOps.z Z Z Z hb1 (.j Z Z .N)) Z (.consF Z (fun E => AOps.z Z Z Z hb1 (.j Z Z .N)) Z (.consF Z (fun E => AOps.z Z Z Z hb1 (S.idxPb Z Z Z (by simpa only [List.length_set] using n4 ha9) Z Z .N)) Z (.consF Z (fun E => AOps.z Z Z Z hb1 (S.loadP ha9 Z Z Z Z .N)) Z (.consF Z (fun E => AOps.z Z Z Z hb1 (S.nilCheckE Z Z (by simpa only [List.length_set] using e9 hen56) Z .N)) Z (.consF Z (fun E => AOps.z Z Z Z hb1 (S.fieldE Z Z Z (by simpa only [List.length_set] using e9 hen56) Z .N)) Z (.consF Z (fun E => AOps.z Z Z Z hb1 (.E Z Z (n7 Z hen56) Z Z Z .N)) Z (.consF Z (fun E => AOps.z Z Z Z hb1 (.j Z Z .N)) Z (.consF Z (fun E => AOps.z Z Z Z hb1 (.j Z Z .N)) Z (.consF Z (fun E => AOps.z Z Z Z hb1 (S.idxPb Z Z Z (by simpa only [List.length_set] using n4 ha16) Z Z .N)) Z (.consF Z (fun E => AOps.z Z Z Z hb1 (S.loadP ha16 Z Z Z Z .N)) Z (.consF Z (fun E => AOps.z Z Z Z hb1 (S.nilCheckE Z Z (by simpa only [List.length_set] using e9 hen57) Z .N)) Z (.consF Z (fun E => AOps.z Z Z Z hb1 (S.fieldE Z Z Z (by simpa only [List.length_set] using e9 hen57) Z .N)) Z (.consF Z (fun E => AOps.z Z Z Z hb1 (.E Z Z (n7 Z hen57) Z Z Z .N)) Z (.consF Z (fun E => AOps.z Z Z Z hb1 (.eql Z Z Z .N)) Z (.consF Z (fun E => AOps.z Z Z Z hb1 (.j Z Z .N)) Z (.consF Z (fun E => AOps.B Z Z Z hb2 .N) Z (.consF Z (fun E => AOps.B Z Z Z hb2 .N) Z (.consF Z (fun E => AOps.B Z Z Z hb2 .N) Z (.consF Z (fun E => AOps.B Z Z Z hb2 .N) Z (.consF Z (fun E => AOps.B Z Z Z hb2 .N) Z (.consF Z (fun E => AOps.B Z Z Z hb2 .N) Z (.consF Z (fun E => AOps.B Z Z Z hb2 .N) Z (.consF Z (fun E => AOps.B Z Z Z hb2 .N) Z (.consF Z (fun E => AOps.B Z Z Z hb2 .N) Z (.consF Z (fun E => AOps.B Z Z Z hb2 .N) Z (.consF Z (fun E => AOps.B Z Z Z hb2 .N) Z (.consF Z (fun E => AOps.B Z Z Z hb2 .N) Z (.consF Z (fun E => AOps.B Z Z Z hb2 .N) Z (.consF Z (fun E => AOps.B Z Z Z hb2 .N) Z (.consF Z (fun E => AOps.B Z Z Z hb2 .N) Z (.consF Z (fun E => AOps.z Z Z Z hb1 (.U Z hb2 Z Z .N)) Z (.consF Z (fun E => AOps.U Z hb1 Z Z .N) Z (.consF Z (fun E => AOps.v Z Z .N) Z ?_)))))))))))))))))))))))))))))))))))))))))))))))))
    refine i9.done ?_
    dsimp only [j8]
    refine b5 ?_
    simp only [Q0 hb1, or_f hb1, Q0 hb2, or_f hb2, Bool.false_or, Bool.true_or, Bool.false_and, Bool.true_and]
    exact Sub.env ⟨Z, Y⟩
 ·refine AWP.ret ?_
  obtain rfl := oi h
  exact ⟨⟨[(6, .c (bool ((decide (en56.key < en57.key)) || ((decide (en56.key = en57.key)) && (decide (en56.time < en57.time))))))], [.one (prow 1 l), pool 4 b8 l4]⟩, Sub.env ⟨Z, Y⟩, Done.ret Z ⟨Z, Z⟩⟩
theorem J2 {iv : Int} {kv : Int} {l : List Int} {l4 : List b9} {r : (List Int) × (List b9)} (h : m4 iv kv l l4 = some r) : FnOk prog 172 [.c (.own 0 0 l.length), .c (int iv), .c (int kv)] (Y4 iv kv l l4) (fun tt ss => tt = .tup [] ∧ ss = [.one (prow 1 r.1), pool 4 b8 r.2]) := by
 refine FnOk.enter (rs := []) func172 Z ntmps172 results172 Z trivial (by kernel_rfl) Z ?_
 refine AWP.weak ?_
 unfold m4 at h
 refine AWP.q ?_
 obtain ⟨a12, ha12, a16, ha16, h⟩ := b2 h
 refine AWP.drawEI [13, 15] mixed Z Z Z ?_
 refine d5.consN Z Z (fun E => AOps.j Z Z .N) Z (.consN Z Z (fun E => AOps.j Z Z .N) Z (.consN Z Z (fun E => AOps.j Z Z .N) Z (.consN Z Z (fun E => AOps.j Z Z .N) Z (.consN Z Z (fun E => AOps.j Z Z .N) Z (.consN Z Z (fun E => AOps.j Z Z .N) Z (.consN Z Z (fun E => S.idxPb Z Z Z (by simpa only [List.length_set] using n4 ha12) Z Z .N) Z (.consN Z Z (fun E => S.loadP ha12 Z Z Z Z .N) Z (.consN Z Z (fun E => AOps.j Z Z .N) Z (.consN Z Z (fun E => AOps.j Z Z .N) Z (.consN Z Z (fun E => S.idxPb Z Z Z (by simpa only [List.length_set] using n4 ha16) Z Z .N) Z (.consN Z Z (fun E => S.loadP ha16 Z Z Z Z .N) Z (.consN Z Z (fun E => S.idxPb Z Z Z (by simpa only [List.length_set] using n4 ha16) Z Z .N) Z ?_))))))))))))
 apply d5.consE (v := .undef); exact Z; exact Z; intro E
 refine S.storeP (a := a12) (by simpa only [List.length_set] using e9 ha16) Z Z Z Z .N
 exact Z
 exact Z
 refine d5.consN Z Z (fun E => S.idxPb Z Z (by simp only [List.length_set]) (by simpa only [List.length_set] using n4 ha12) Z Z .N) Z ?_
 apply d5.consE (v := .undef); exact Z; exact Z; intro E
 refine S.storeP (a := a16) (by simpa only [List.length_set] using e9 ha12) Z Z Z Z .N
 exact Z
 exact Z
 refine d5.done Z ?_ ?_
 ·refine c9.cons Z Z ?_ ?_
  refine b7.go Z Z (fun E => AOps.j Z Z .N) ?_
  refine b7.skip Z (b7.skip Z (b7.nil))
  refine c9.cons Z Z ?_ ?_
  refine b7.go Z Z (fun E => AOps.j Z Z .N) ?_
  refine b7.skip Z (b7.skip Z (b7.nil))
  refine c9.cons Z Z ?_ ?_
  refine b7.go Z Z (fun E => AOps.j Z Z .N) ?_
  refine b7.go Z Z (fun E => AOps.j Z Z .N) ?_
  refine b7.skip Z (b7.nil)
  refine c9.cons Z Z ?_ ?_
  refine b7.go Z Z (fun E => AOps.j Z Z .N) ?_
  refine b7.go Z Z (fun E => AOps.j Z Z .N) ?_
  refine b7.skip Z (b7.nil)
  refine c9.cons Z Z ?_ ?_
  refine b7.go Z Z (fun E => AOps.j Z Z .N) ?_
  refine b7.skip Z (b7.skip Z (b7.nil))
  refine c9.cons Z Z ?_ ?_
  refine b7.go Z Z (fun E => AOps.j Z Z .N) ?_
  refine b7.skip Z (b7.skip Z (b7.nil))
  refine c9.cons Z Z ?_ ?_
  refine b7.go Z Z (fun E => S.idxPb Z Z Z (by simpa only [List.length_set] using n4 ha12) Z Z .N) ?_
  refine b7.skip Z (b7.skip Z (b7.nil))
  refine c9.cons Z Z ?_ ?_
  refine b7.go Z Z (fun E => S.loadP ha12 Z Z Z Z .N) ?_
  refine b7.skip Z (b7.skip Z (b7.nil))
  refine c9.cons Z Z ?_ ?_
  refine b7.go Z Z (fun E => AOps.j Z Z .N) ?_
  refine b7.skip Z (b7.skip Z (b7.nil))
  refine c9.cons Z Z ?_ ?_
  refine b7.go Z Z (fun E => AOps.j Z Z .N) ?_
  refine b7.skip Z (b7.skip Z (b7.nil))
  refine c9.cons Z Z ?_ ?_
  refine b7.go Z Z (fun E => S.idxPb Z Z Z (by simpa only [List.length_set] using n4 ha16) Z Z .N) ?_
  refine b7.skip Z (b7.skip Z (b7.nil))
  refine c9.cons Z Z ?_ ?_
  refine b7.go Z Z (fun E => S.loadP ha16 Z Z Z Z .N) ?_
  refine b7.skip Z (b7.skip Z (b7.nil))
  refine c9.cons Z Z ?_ ?_
  refine b7.go Z Z (fun E => S.idxPb Z Z Z (by simpa only [List.length_set] using n4 ha16) Z Z .N) ?_
  refine b7.skip Z (b7.skip Z (b7.nil))
  refine c9.skip Z ?_
  refine c9.cons Z Z ?_ ?_
  refine b7.skip Z ?_
  refine b7.go Z Z (fun E => S.idxPb Z Z (by simp only [List.length_set]) (by simpa only [List.length_set] using n4 ha12) Z Z .N) ?_
  refine b7.skip Z (b7.nil)
  refine c9.skip Z (c9.nil)
 dsimp only [j8]
 refine b5 ?_
 obtain ⟨ha57, hha57, ha58, hha58, en59, hen59, h⟩ := b3 h
 obtain ⟨en60, hen60, h⟩ := bind_some h
 refine AWP.drawEI [12, 15] mixed Z Z Z ?_
 refine d5.consN Z Z (fun E => AOps.j Z Z .N) Z (.consN Z Z (fun E => AOps.j Z Z .N) Z (.consN Z Z (fun E => S.idxPb Z Z (by simp only [List.length_set]) (by simpa only [List.length_set] using n4 ha16) Z Z .N) Z (.consN Z Z (fun E => S.loadP hha57 Z Z Z Z .N) Z (.consN Z Z (fun E => AOps.j Z Z .N) Z (.consN Z Z (fun E => AOps.j Z Z .N) Z (.consN Z Z (fun E => S.idxPb Z Z (by simp only [List.length_set]) (by simpa only [List.length_set] using n4 ha12) Z Z .N) Z (.consN Z Z (fun E => S.loadP hha58 Z Z Z Z .N) Z (.consN Z Z (fun E => AOps.j Z Z .N) Z (.consN Z Z (fun E => AOps.j Z Z .N) Z (.consN Z Z (fun E => S.nilCheckE Z Z (by simpa only [List.length_set] using e9 hen59) Z .N) Z (.consN Z Z (fun E => S.fieldE Z Z Z (by simpa only [List.length_set] using e9 hen59) Z .N) Z ?_)))))))))))
 apply d5.consE (v := .undef); exact Z; exact Z; intro E
 refine S.storeE (e' := (⟨en59.item, en59.key, en59.time, iv⟩ : b9)) hen59 Z Z Z Z Z Z .N
 exact Z
 exact Z
 refine d5.consN Z Z (fun E => S.nilCheckE Z Z (by simpa only [List.length_set] using e9 hen60) Z .N) Z (.consN Z Z (fun E => S.fieldE Z Z Z (by simpa only [List.length_set] using e9 hen60) Z .N) Z ?_)
 apply d5.consE (v := .undef); exact Z; exact Z; intro E
 refine S.storeE (e' := (⟨en60.item, en60.key, en60.time, kv⟩ : b9)) hen60 Z Z Z Z Z Z .N
 exact Z
 exact Z
 refine d5.done Z ?_ ?_
 ·refine c9.cons Z Z ?_ ?_
  refine b7.go Z Z (fun E => AOps.j Z Z .N) ?_
  refine b7.skip Z (b7.skip Z (b7.nil))
  refine c9.cons Z Z ?_ ?_
  refine b7.go Z Z (fun E => AOps.j Z Z .N) ?_
  refine b7.skip Z (b7.skip Z (b7.nil))
  refine c9.cons Z Z ?_ ?_
  refine b7.go Z Z (fun E => S.idxPb Z Z (by simp only [List.length_set]) (by simpa only [List.length_set] using n4 ha16) Z Z .N) ?_
  refine b7.skip Z (b7.skip Z (b7.nil))
  refine c9.cons Z Z ?_ ?_
  refine b7.go Z Z (fun E => S.loadP hha57 Z Z Z Z .N) ?_
  refine b7.skip Z (b7.skip Z (b7.nil))
  refine c9.cons Z Z ?_ ?_
  refine b7.go Z Z (fun E => AOps.j Z Z .N) ?_
  refine b7.skip Z (b7.skip Z (b7.nil))
  refine c9.cons Z Z ?_ ?_
  refine b7.go Z Z (fun E => AOps.j Z Z .N) ?_
  refine b7.skip Z (b7.skip Z (b7.nil))
  refine c9.cons Z Z ?_ ?_
  refine b7.go Z Z (fun E => S.idxPb Z Z (by simp only [List.length_set]) (by simpa only [List.length_set] using n4 ha12) Z Z .N) ?_
  refine b7.skip Z (b7.skip Z (b7.nil))
  refine c9.cons Z Z ?_ ?_
  refine b7.go Z Z (fun E => S.loadP hha58 Z Z Z Z .N) ?_
  refine b7.skip Z (b7.skip Z (b7.nil))
  refine c9.cons Z Z ?_ ?_
  refine b7.go Z Z (fun E => AOps.j Z Z .N) ?_
  refine b7.skip Z (b7.skip Z (b7.nil))
  refine c9.cons Z Z ?_ ?_
  refine b7.go Z Z (fun E => AOps.j Z Z .N) ?_
  refine b7.go Z Z (fun E => AOps.j Z Z .N) ?_
  refine b7.skip Z (b7.nil)
  refine c9.cons Z Z ?_ ?_
  refine b7.go Z Z (fun E => S.nilCheckE Z Z (by simpa only [List.length_set] using e9 hen59) Z .N) ?_
  refine b7.skip Z (b7.skip Z (b7.nil))
  refine c9.cons Z Z ?_ ?_
  refine b7.go Z Z (fun E => S.fieldE Z Z Z (by simpa only [List.length_set] using e9 hen59) Z .N) ?_
  refine b7.skip Z (b7.skip Z (b7.nil))
  refine c9.skip Z ?_
  refine c9.cons Z Z ?_ ?_
  refine b7.skip Z ?_
  refine b7.go Z Z (fun E => S.nilCheckE Z Z (by simpa only [List.length_set] using e9 hen60) Z .N) ?_
  refine b7.skip Z (b7.nil)
  refine c9.cons Z Z ?_ ?_
  refine b7.skip Z ?_
  refine b7.go Z Z (fun E => S.fieldE Z Z Z (by simpa only [List.length_set] using e9 hen60) Z .N) ?_
  refine b7.skip Z (b7.nil)
  refine c9.skip Z (c9.nil)
 dsimp only [j8]
 obtain rfl := oi h
 exact ⟨⟨[], [.one (prow 1 ((l.set iv.toNat a12).set kv.toNat a16)), pool 4 b8 ((l4.set ha57.toNat (⟨en59.item, en59.key, en59.time, iv⟩ : b9)).set ha58.toNat (⟨en60.item, en60.key, en60.time, kv⟩ : b9))]⟩, Sub.env trivial, Done.normal Z ⟨Z, Z⟩⟩
theorem ag7 {i01 : Int} {nv : Int} {time : Int} {l : List Int} {l5 : List (Int × Int)} {l6 : List b9} {r : (List Int) × (List b9) × Bool} (h : x7 i01 nv time l l5 l6 = some r) : FnOk prog 101 [.c (.ifc 148 [.ptr 0 0 0] false), .c (int i01), .c (int nv)] (R2 i01 nv time l l5 l6) (fun tt ss => tt = .c (bool r.2.2) ∧ ss = [.one (.cells 3 [[.own 1 0 r.1.length, .map 2, int time]]), .one (prow 3 r.1), .one (pmap 3 vU l5), pool 4 b8 r.2.1]) := by
 refine FnOk.enter (rs := [.t 6]) func101 Z ntmps101 results101 Z ⟨trivial, Y⟩ (by kernel_rfl) Z ?_
 refine AWP.weak ?_
 unfold x7 at h
 refine AWP.q (.u (.v Z Z (.nil (b5 (.q (.u (.j Z Z (.v Z Z (.nil (b5 (.q (.J ?_))))))))))))
 obtain ⟨⟨c63, c64, iv65⟩, ho1, h⟩ := bind_some h
 try dsimp only at h
 refine AWP.loopS ho1 (fun (c60, c61, iv62) => ⟨[(0, .c (.ifc 148 [.ptr 0 0 0] false)), (1, .c (int i01)), (2, .c (int nv)), (7, .c (int iv62))], [.one (.cells 3 [[.own 1 0 c60.length, .map 2, int time]]), .one (prow 3 c60), .one (pmap 3 vU l5), pool 4 b8 c61]⟩) (fun (c63, c64, iv65) e st => e = .exit 0 ∧ Sub (R2 i01 nv time l l5 l6) st ⟨[(1, .c (int i01)), (7, .c (int iv65))], [.one (.cells 3 [[.own 1 0 c63.length, .map 2, int time]]), .one (prow 3 c63), .one (pmap 3 vU l5), pool 4 b8 c64]⟩) ?_ ?_ ?_
 ·try dsimp only
  exact Sub.env ⟨Z, Z, Z, Z, Y⟩
 ·intro s o h
  obtain ⟨c60, c61, iv62⟩ := s
  unfold s9 at h
  try dsimp only at h ⊢
  refine AWP.J (.q (.u (.j Z Z (S.mul Z Z Z (S.add Z Z Z (.v Z Z (.nil (b5 (.q (.seqJ (⟨[(0, .c (.ifc 148 [.ptr 0 0 0] false)), (1, .c (int i01)), (2, .c (int nv)), (7, .c (int iv62)), (8, .c (int (w64 ((w64 (2 * iv62)) + 1)))), (21, .c (bool ((decide (nv ≤ w64 ((w64 (2 * iv62)) + 1))) || (decide (w64 ((w64 (2 * iv62)) + 1) < 0)))))], [.one (.cells 3 [[.own 1 0 c60.length, .map 2, int time]]), .one (prow 3 c60), .one (pmap 3 vU l5), pool 4 b8 c61]⟩) ?_ ?_))))))))))
  ·rcases bft (decide (nv ≤ w64 ((w64 (2 * iv62)) + 1))) with hb1 | hb1
   ·refine AWP.u (.j Z Z (.j Z Z (.geq Z Z Z (.j Z Z (.B Z Z Z hb1 (.B Z Z Z hb1 (.O Z hb1 Z Z (.nil (b5 ?_)))))))))
    simp only [V9 hb1, or_t hb1, Bool.false_or, Bool.true_or, Bool.false_and, Bool.true_and]
    exact Sub.env ⟨Z, Z, Z, Z, Z, Z, Y⟩
   ·refine AWP.u (.j Z Z (.j Z Z (.geq Z Z Z (.j Z Z (.z Z Z Z hb1 (.j Z Z (.z Z Z Z hb1 (.F Z Z Z (.U Z hb1 Z Z (.nil (b5 ?_)))))))))))
    simp only [Q0 hb1, or_f hb1, Bool.false_or, Bool.true_or, Bool.false_and, Bool.true_and]
    exact Sub.env ⟨Z, Z, Z, Z, Z, Z, Y⟩
  ·refine AWP.ag Z h (fun hc66 h => ?_) (fun hc66 h => ?_)
   ·refine AWP.exit (d9 (U7 Z ?_))
    obtain rfl := oi h
    refine d9 ⟨_, Z, Z, ?_⟩
    exact Sub.env ⟨Z, Z, Y⟩
   ·refine AWP.skip (b5 (.q (.u (.j Z Z (.v Z Z (.nil (b5 ?_)))))))
    obtain ⟨j67, hx68, h⟩ := bind_some h
    refine AWP.seqJ (⟨[(0, .c (.ifc 148 [.ptr 0 0 0] false)), (1, .c (int i01)), (2, .c (int nv)), (7, .c (int iv62)), (9, .c (int j67))], [.one (.cells 3 [[.own 1 0 c60.length, .map 2, int time]]), .one (prow 3 c60), .one (pmap 3 vU l5), pool 4 b8 c61]⟩) ?_ ?_
    ·refine AWP.q (.u (.j Z Z (S.add Z Z Z (.v Z Z (.nil (b5 ?_))))))
     obtain ⟨t69, hx70, hx68⟩ := bind_some hx68
     refine AWP.seqJ (⟨[(0, .c (.ifc 148 [.ptr 0 0 0] false)), (1, .c (int i01)), (2, .c (int nv)), (7, .c (int iv62)), (9, .c (int (w64 ((w64 (2 * iv62)) + 1)))), (10, .c (int (w64 ((w64 ((w64 (2 * iv62)) + 1)) + 1)))), (33, .c (bool t69))], [.one (.cells 3 [[.own 1 0 c60.length, .map 2, int time]]), .one (prow 3 c60), .one (pmap 3 vU l5), pool 4 b8 c61]⟩) ?_ ?_
     ·rcases bft (decide (w64 ((w64 ((w64 (2 * iv62)) + 1)) + 1) < nv)) with hb71 | hb71
      ·replace hx70 := I8 hb71 hx70
       obtain ⟨a32, ha32, hx70⟩ := bind_some hx70
       refine AWP.u (.j Z Z (.j Z Z (.F Z Z Z (.j Z Z (.z Z Z Z hb71 (.j Z Z (.z Z Z Z hb71 (.j Z Z (.z Z Z Z hb71 (.j Z Z (.z Z Z Z hb71 (S.invokeV (r2 := .c (bool a32)) (σ'' := [.one (.cells 3 [[.own 1 0 c60.length, .map 2, int time]]), .one (prow 3 c60), .one (pmap 3 vU l5), pool 4 b8 c61]) Z Z Z Z Z Z Z (FnOk.lend [1, 3] (w5 ha32) Z Z Z Z Z Z (by exact ⟨(.one (i4 Z)), (.any l8), Y⟩) Z (by exact ⟨(.live Z (.one (f8 fun _ => Z))), (.live Z RenE.pool), Y⟩) Z Z (by exact ⟨(.old Z Z Z), (.new 0 Z Z (.one (f8 fun _ => Z))), (.old Z Z Z), (.new 1 Z Z RenE.pool), Y⟩)) (.O Z hb71 Z Z (.nil ?_))))))))))))))
       obtain rfl := oi hx70
       refine b5 (Sub.env ⟨Z, Z, Z, Z, Z, Z, Z, Y⟩)
      ·replace hx70 := J1 hb71 hx70
       refine AWP.u (.j Z Z (.j Z Z (.F Z Z Z (.j Z Z (.B Z Z Z hb71 (.B Z Z Z hb71 (.B Z Z Z hb71 (.B Z Z Z hb71 (.U Z hb71 Z Z (.nil ?_))))))))))
       obtain rfl := oi hx70
       refine b5 (Sub.env ⟨Z, Z, Z, Z, Z, Z, Z, Y⟩)
     ·refine AWP.ag Z hx68 (fun hc72 hx68 => ?_) (fun hc72 hx68 => ?_)
      ·refine AWP.u (.j Z Z (.v Z Z (.nil ?_)))
       obtain rfl := oi hx68
       refine b5 (Sub.env ⟨Z, Z, Z, Z, Z, Y⟩)
      ·refine AWP.skip ?_
       obtain rfl := oi hx68
       refine b5 (Sub.env ⟨Z, Z, Z, Z, Z, Y⟩)
    ·refine AWP.q (.q ?_)
     obtain ⟨a38, ha38, h⟩ := bind_some h
     refine AWP.u (.j Z Z (.j Z Z (.j Z Z (S.invokeV (r2 := .c (bool a38)) (σ'' := [.one (.cells 3 [[.own 1 0 c60.length, .map 2, int time]]), .one (prow 3 c60), .one (pmap 3 vU l5), pool 4 b8 c61]) Z Z Z Z Z Z Z (FnOk.lend [1, 3] (w5 ha38) Z Z Z Z Z Z (by exact ⟨(.one (i4 Z)), (.any l8), Y⟩) Z (by exact ⟨(.live Z (.one (f8 fun _ => Z))), (.live Z RenE.pool), Y⟩) Z Z (by exact ⟨(.old Z Z Z), (.new 0 Z Z (.one (f8 fun _ => Z))), (.old Z Z Z), (.new 1 Z Z RenE.pool), Y⟩)) (.not Z Z (.nil (b5 (.ag Z h (fun hc73 h => ?_) (fun hc73 h => ?_)))))))))
     ·refine AWP.exit (d9 (U7 Z ?_))
      obtain rfl := oi h
      refine d9 ⟨_, Z, Z, ?_⟩
      exact Sub.env ⟨Z, Z, Y⟩
     ·refine AWP.skip (b5 (.q ?_))
      obtain ⟨a43, ha43, u74, hu74, h⟩ := b2 h
      refine AWP.u (.j Z Z (.j Z Z (.j Z Z (S.invokeV (r2 := .tup []) (σ'' := [.one (.cells 3 [[.own 1 0 c60.length, .map 2, int time]]), .one (prow 3 a43.1), .one (pmap 3 vU l5), pool 4 b8 a43.2]) Z Z Z Z Z Z Z (FnOk.lend [1, 3] (J2 ha43) Z Z Z Z Z Z (by exact ⟨(.one (i4 Z)), (.any l8), Y⟩) Z (by exact ⟨(.live Z (.one (f8 fun _ => Z))), (.live Z RenE.pool), Y⟩) Z Z (by exact ⟨(.old Z Z Z), (.new 0 Z Z (.one (f8 fun _ => Z))), (.old Z Z Z), (.new 1 Z Z RenE.pool), Y⟩)) (.nil (b5 (.u (.j Z Z (.v Z Z (.nil (e7 ?_)))))))))))
      obtain rfl := oi h
      refine b5 ⟨_, Z, ?_⟩
      exact Sub.cut ⟨Z, Z, Z, Z, Y⟩ Z ⟨(.eq Z (by first | rfl | rw [(ae9 hu74)] | (simp only [List.length_set]; done))), (.one (i4 Z)), (.one (j5 Z)), (.any l8), Y⟩ Z
 ·intro e s hq
  obtain ⟨rfl, hs⟩ := hq
  refine ⟨_, hs, ?_⟩
  refine k6 (b5 (.q (.u (.j Z Z (.j Z Z (.gtr Z Z Z (.v Z Z (.nil (b5 (.ret ?_))))))))))
  obtain rfl := oi h
  exact ⟨⟨[(6, .c (bool (decide (i01 < iv65))))], [.one (.cells 3 [[.own 1 0 c63.length, .map 2, int time]]), .one (prow 3 c63), .one (pmap 3 vU l5), pool 4 b8 c64]⟩, Sub.env ⟨Z, Y⟩, Done.ret Z ⟨Z, Z⟩⟩
theorem V0 {j : Int} {time : Int} {l : List Int} {l4 : List (Int × Int)} {l5 : List b9} {r : (List Int) × (List b9)} (h : B2 j time l l4 l5 = some r) : FnOk prog 102 [.c (.ifc 148 [.ptr 0 0 0] false), .c (int j)] (U5 j time l l4 l5) (fun tt ss => tt = .tup [] ∧ ss = [.one (.cells 3 [[.own 1 0 r.1.length, .map 2, int time]]), .one (prow 3 r.1), .one (pmap 3 vU l4), pool 4 b8 r.2]) := by
 refine FnOk.enter (rs := []) func102 Z ntmps102 results102 Z trivial (by kernel_rfl) Z ?_
 refine AWP.weak ?_
 unfold B2 at h
 refine AWP.J ?_
 obtain ⟨⟨c61, c62⟩, ho1, h⟩ := bind_some h
 try dsimp only at h
 refine AWP.loopS ho1 (fun (c58, c59, j60) => ⟨[(0, .c (.ifc 148 [.ptr 0 0 0] false)), (1, .c (int j60))], [.one (.cells 3 [[.own 1 0 c58.length, .map 2, int time]]), .one (prow 3 c58), .one (pmap 3 vU l4), pool 4 b8 c59]⟩) (fun (c61, c62) e st => e = .exit 0 ∧ Sub (U5 j time l l4 l5) st ⟨[], [.one (.cells 3 [[.own 1 0 c61.length, .map 2, int time]]), .one (prow 3 c61), .one (pmap 3 vU l4), pool 4 b8 c62]⟩) ?_ ?_ ?_
 ·try dsimp only
  exact Sub.env ⟨Z, Z, Y⟩
 ·intro s o h
  obtain ⟨c58, c59, j60⟩ := s
  unfold E7 at h
  try dsimp only at h ⊢
  refine AWP.J (.q ?_)
  obtain ⟨u7, hu7, h⟩ := bind_some h
  refine AWP.u (.j Z Z (S.sub Z Z Z (S.quo hu7 Z Z Z (.v Z Z (.nil (b5 (.q ?_)))))))
  obtain ⟨t63, hx64, h⟩ := bind_some h
  refine AWP.seqJ (⟨[(0, .c (.ifc 148 [.ptr 0 0 0] false)), (1, .c (int j60)), (4, .c (int (w64 ((w64 (j60 - 1)).tdiv 2)))), (17, .c (bool t63))], [.one (.cells 3 [[.own 1 0 c58.length, .map 2, int time]]), .one (prow 3 c58), .one (pmap 3 vU l4), pool 4 b8 c59]⟩) ?_ ?_
  ·rcases bft (decide (w64 ((w64 (j60 - 1)).tdiv 2) = j60)) with hb65 | hb65
   ·replace hx64 := I8 hb65 hx64
    refine AWP.u (.j Z Z (.j Z Z (.eql Z Z Z (.j Z Z (.B Z Z Z hb65 (.B Z Z Z hb65 (.B Z Z Z hb65 (.B Z Z Z hb65 (.B Z Z Z hb65 (.O Z hb65 Z Z (.nil ?_)))))))))))
    obtain rfl := oi hx64
    refine b5 (Sub.env ⟨Z, Z, Z, Z, Y⟩)
   ·replace hx64 := J1 hb65 hx64
    obtain ⟨a15, ha15, hx64⟩ := bind_some hx64
    refine AWP.u (.j Z Z (.j Z Z (.eql Z Z Z (.j Z Z (.z Z Z Z hb65 (.j Z Z (.z Z Z Z hb65 (.j Z Z (.z Z Z Z hb65 (.j Z Z (.z Z Z Z hb65 (S.invokeV (r2 := .c (bool a15)) (σ'' := [.one (.cells 3 [[.own 1 0 c58.length, .map 2, int time]]), .one (prow 3 c58), .one (pmap 3 vU l4), pool 4 b8 c59]) Z Z Z Z Z Z Z (FnOk.lend [1, 3] (w5 ha15) Z Z Z Z Z Z (by exact ⟨(.one (i4 Z)), (.any l8), Y⟩) Z (by exact ⟨(.live Z (.one (f8 fun _ => Z))), (.live Z RenE.pool), Y⟩) Z Z (by exact ⟨(.old Z Z Z), (.new 0 Z Z (.one (f8 fun _ => Z))), (.old Z Z Z), (.new 1 Z Z RenE.pool), Y⟩)) (.z Z Z Z hb65 (.not Z Z (.U Z hb65 Z Z (.nil ?_))))))))))))))))
    obtain rfl := oi hx64
    refine b5 (Sub.env ⟨Z, Z, Z, Z, Y⟩)
  ·refine AWP.ag Z h (fun hc66 h => ?_) (fun hc66 h => ?_)
   ·refine AWP.exit (d9 (U7 Z ?_))
    obtain rfl := oi h
    refine d9 ⟨_, Z, Z, ?_⟩
    exact Sub.env trivial
   ·refine AWP.skip (b5 (.q ?_))
    obtain ⟨a21, ha21, u67, hu67, h⟩ := b2 h
    refine AWP.u (.j Z Z (.j Z Z (.j Z Z (S.invokeV (r2 := .tup []) (σ'' := [.one (.cells 3 [[.own 1 0 c58.length, .map 2, int time]]), .one (prow 3 a21.1), .one (pmap 3 vU l4), pool 4 b8 a21.2]) Z Z Z Z Z Z Z (FnOk.lend [1, 3] (J2 ha21) Z Z Z Z Z Z (by exact ⟨(.one (i4 Z)), (.any l8), Y⟩) Z (by exact ⟨(.live Z (.one (f8 fun _ => Z))), (.live Z RenE.pool), Y⟩) Z Z (by exact ⟨(.old Z Z Z), (.new 0 Z Z (.one (f8 fun _ => Z))), (.old Z Z Z), (.new 1 Z Z RenE.pool), Y⟩)) (.nil (b5 (.u (.j Z Z (.v Z Z (.nil (e7 ?_)))))))))))
    obtain rfl := oi h
    refine b5 ⟨_, Z, ?_⟩
    exact Sub.cut ⟨Z, Z, Y⟩ Z ⟨(.eq Z (by first | rfl | rw [(ae9 hu67)] | (simp only [List.length_set]; done))), (.one (i4 Z)), (.one (j5 Z)), (.any l8), Y⟩ Z
 ·intro e s hq
  obtain ⟨rfl, hs⟩ := hq
  refine ⟨_, hs, ?_⟩
  refine k6 ?_
  obtain rfl := oi h
  exact ⟨⟨[], [.one (.cells 3 [[.own 1 0 c61.length, .map 2, int time]]), .one (prow 3 c61), .one (pmap 3 vU l4), pool 4 b8 c62]⟩, Sub.env trivial, Done.normal Z ⟨Z, Z⟩⟩
theorem T9 {iv : Int} {time : Int} {l : List Int} {l4 : List (Int × Int)} {l5 : List b9} {r : (List Int) × (List b9)} (h : z6 iv time l l4 l5 = some r) : FnOk prog 78 [.c (.ifc 148 [.ptr 0 0 0] false), .c (int iv)] (ah7 iv time l l4 l5) (fun tt ss => tt = .tup [] ∧ ss = [.one (.cells 3 [[.own 1 0 r.1.length, .map 2, int time]]), .one (prow 3 r.1), .one (pmap 3 vU l4), pool 4 b8 r.2]) := by
 refine FnOk.enter (rs := []) func78 Z ntmps78 results78 Z trivial (by kernel_rfl) Z ?_
 refine AWP.weak ?_
 unfold z6 at h
 refine AWP.q ?_
 obtain ⟨a7, ha7, a8, ha8, h⟩ := b2 h
 refine AWP.u (.j Z Z (.j Z Z (.j Z Z (S.invokeV (r2 := .c (int (l.length : Int))) (σ'' := [.one (.cells 3 [[.own 1 0 l.length, .map 2, int time]]), .one (prow 3 l), .one (pmap 3 vU l4), pool 4 b8 l5]) Z Z Z Z Z Z Z (FnOk.lend [1, 3] (C3 ha7) Z Z Z Z Z Z (by exact ⟨(.one (i4 Z)), (.any l8), Y⟩) Z (by exact ⟨(.live Z (.one (f8 fun _ => Z))), (.live Z RenE.pool), Y⟩) Z Z (by exact ⟨(.old Z Z Z), (.new 0 Z Z (.one (f8 fun _ => Z))), (.old Z Z Z), (.new 1 Z Z RenE.pool), Y⟩)) (.callF (r2 := .c (bool a8.2.2)) (σ'' := [.one (.cells 3 [[.own 1 0 a8.1.length, .map 2, int time]]), .one (prow 3 a8.1), .one (pmap 3 vU l4), pool 4 b8 a8.2.1]) Z Z Z (FnOk.lend [0, 1, 2, 3] (ag7 ha8) Z Z Z Z Z Z (by exact ⟨(.one Z), (.one (i4 Z)), (.one (j5 Z)), (.any l8), Y⟩) Z (by exact ⟨(.live Z (.one Z)), (.live Z (.one (f8 fun _ => Z))), (.live Z (.one (k7 fun _ => Z))), (.live Z RenE.pool), Y⟩) Z Z (by exact ⟨(.new 0 Z Z (.one Z)), (.new 1 Z Z (.one (f8 fun _ => Z))), (.new 2 Z Z (.one (k7 fun _ => Z))), (.new 3 Z Z RenE.pool), Y⟩)) (.not Z Z (.nil (b5 (.ag Z h (fun hc58 h => ?_) (fun hc58 h => ?_))))))))))
 ·obtain ⟨a12, ha12, h⟩ := bind_some h
  refine AWP.u (.j Z Z (.j Z Z (.callF (r2 := .tup []) (σ'' := [.one (.cells 3 [[.own 1 0 a12.1.length, .map 2, int time]]), .one (prow 3 a12.1), .one (pmap 3 vU l4), pool 4 b8 a12.2]) Z Z Z (FnOk.lend [0, 1, 2, 3] (V0 ha12) Z Z Z Z Z Z (by exact ⟨(.one Z), (.one (i4 Z)), (.one (j5 Z)), (.any l8), Y⟩) Z (by exact ⟨(.live Z (.one Z)), (.live Z (.one (f8 fun _ => Z))), (.live Z (.one (k7 fun _ => Z))), (.live Z RenE.pool), Y⟩) Z Z (by exact ⟨(.new 0 Z Z (.one Z)), (.new 1 Z Z (.one (f8 fun _ => Z))), (.new 2 Z Z (.one (k7 fun _ => Z))), (.new 3 Z Z RenE.pool), Y⟩)) (.nil ?_))))
  obtain rfl := oi h
  exact ⟨⟨[], [.one (.cells 3 [[.own 1 0 a12.1.length, .map 2, int time]]), .one (prow 3 a12.1), .one (pmap 3 vU l4), pool 4 b8 a12.2]⟩, Sub.env trivial, Done.normal Z ⟨Z, Z⟩⟩
 ·refine AWP.skip ?_
  obtain rfl := oi h
  exact ⟨⟨[], [.one (.cells 3 [[.own 1 0 a8.1.length, .map 2, int time]]), .one (prow 3 a8.1), .one (pmap 3 vU l4), pool 4 b8 a8.2.1]⟩, Sub.env trivial, Done.normal Z ⟨Z, Z⟩⟩
theorem W8 {xv : Int} {time : Int} {l : List b9} {l4 : List Int} {l5 : List (Int × Int)} {r : (List b9) × (List Int)} (h : x9 xv time l l4 l5 = some r) : FnOk prog 174 [.c (.ptr 0 0 0), .c (.ifc 143 [.ptr (1, [xv.toNat]) 0 0] false)] (W2 xv time l l4 l5) (fun tt ss => tt = .tup [] ∧ ss = [.one (.cells 3 [[.own 6 0 r.2.length, .map 3, int time]]), pool 4 b8 r.1, .dead, .one (pmap 1 vU l5), .dead, .dead, .one (prow 1 r.2)]) := by
 refine FnOk.enter (rs := []) func174 Z ntmps174 results174 Z trivial (by kernel_rfl) Z ?_
 refine AWP.weak ?_
 unfold x9 at h
 refine AWP.j (env' := [(0, .c (.ptr 0 0 0)), (1, .c (.ifc 143 [.ptr (1, [xv.toNat]) 0 0] false))]) (σ' := [.one (.cells 3 [[.own 4 0 l4.length, .map 3, int time]]), pool 4 b8 l, .dead, .one (pmap 1 vU l5), .one (prow 1 l4)]) 4 2 Z Z Z ⟨Z, Z, Y⟩ Z ⟨⟨Z, Z⟩, (p9.pool Z), trivial, ⟨j5 Z, u6 Z I1⟩, ⟨i4 Z, u6 Z I2⟩, Y⟩ (.q (.u (.j Z Z (S.assert Z Z Z (.v Z Z (.nil (b5 (.q ?_))))))))
 obtain ⟨en58, hen58, h⟩ := bind_some h
 refine AWP.u (.j Z Z (.j Z Z (.ac Z Z Z (.E Z Z Z Z Z Z (.lenOwnB Z Z Z (fun hl11 => S.nilCheckE Z Z (by simpa only [List.length_set] using e9 hen58) Z (S.fieldE Z Z Z (by simpa only [List.length_set] using e9 hen58) Z (S.storeE (e' := (⟨en58.item, en58.key, en58.time, (l4.length : Int)⟩ : b9)) hen58 Z Z Z Z Z Z (.nil (b5 ?_))))))))))
 obtain ⟨a20, ha20, h⟩ := bind_some h
 refine AWP.u (.j Z Z (.j Z Z (.ac Z Z Z (.E Z Z Z Z Z Z (.j Z Z (W.lit1 Z Z Z Z Z Z Z Z Z (S.appendP ha20 Z Z Z Z Z Z Z Z Z Z Z Z (.ac Z Z Z (W.store Z Z Z Z Z (.nil ?_))))))))))
 obtain rfl := oi h
 exact ⟨⟨[], [.one (.cells 3 [[.own 6 0 a20.length, .map 3, int time]]), pool 4 b8 (l.set xv.toNat (⟨en58.item, en58.key, en58.time, (l4.length : Int)⟩ : b9)), .dead, .one (pmap 1 vU l5), .dead, .dead, .one (prow 1 a20)]⟩, Sub.cut trivial Z ⟨.one Z, (.any l8), .dead, (.one (j5 Z)), .dead, .dead, (.one (i4 Z)), Y⟩ Z, Done.normal Z ⟨Z, Z⟩⟩
theorem S5 {xv : Int} {time : Int} {l : List b9} {l4 : List Int} {l5 : List (Int × Int)} {r : (List b9) × (List Int)} (h : x6 xv time l l4 l5 = some r) : FnOk prog 79 [.c (.ifc 148 [.ptr 0 0 0] false), .c (.ifc 143 [.ptr (1, [xv.toNat]) 0 0] false)] (ah4 xv time l l4 l5) (fun tt ss => tt = .tup [] ∧ ss = [.one (.cells 3 [[.own 6 0 r.2.length, .map 3, int time]]), pool 4 b8 r.1, .dead, .one (pmap 1 vU l5), .dead, .dead, .one (prow 1 r.2)]) := by
 refine FnOk.enter (rs := []) func79 Z ntmps79 results79 Z trivial (by kernel_rfl) Z ?_
 refine AWP.weak ?_
 unfold x6 at h
 refine AWP.q ?_
 obtain ⟨a6, ha6, h⟩ := bind_some h
 refine AWP.u (.j Z Z (.j Z Z (S.invokeP (r2 := .tup []) (σ'' := [.one (.cells 3 [[.own 6 0 a6.2.length, .map 3, int time]]), pool 4 b8 a6.1, .dead, .one (pmap 1 vU l5), .dead, .dead, .one (prow 1 a6.2)]) Z Z Z (FnOk.lend [0, 1, 2, 3] (W8 ha6) Z Z Z Z Z Z (by exact ⟨(.one Z), (.any l8), (.one (i4 Z)), (.one (j5 Z)), Y⟩) Z (by exact ⟨(.live Z (.one Z)), (.live Z RenE.pool), (.live Z (.one (f8 fun _ => Z))), (.live Z (.one (k7 fun _ => Z))), Y⟩) Z Z (by exact ⟨(.new 0 Z Z (.one Z)), (.new 1 Z Z RenE.pool), .dead, (.new 3 Z Z (.one (k7 fun _ => Z))), .dead, .dead, (.new 6 Z Z (.one (f8 fun _ => Z))), Y⟩)) (.nil (b5 ?_)))))
 obtain ⟨a9, ha9, a11, ha11, h⟩ := b2 h
 refine AWP.u (.j Z Z (.j Z Z (S.invokeV (r2 := .c (int (a6.2.length : Int))) (σ'' := [.one (.cells 3 [[.own 6 0 a6.2.length, .map 3, int time]]), pool 4 b8 a6.1, .dead, .one (pmap 1 vU l5), .dead, .dead, .one (prow 1 a6.2)]) Z Z Z Z Z Z Z (FnOk.lend [6, 1] (C3 ha9) Z Z Z Z Z Z (by exact ⟨(.one (i4 Z)), (.any l8), Y⟩) Z (by exact ⟨(.live Z (.one (f8 fun _ => Z))), (.live Z RenE.pool), Y⟩) Z Z (by exact ⟨(.old Z Z Z), (.new 1 Z Z RenE.pool), .dead, (.old Z Z Z), .dead, .dead, (.new 0 Z Z (.one (f8 fun _ => Z))), Y⟩)) (S.sub Z Z Z (.callF (r2 := .tup []) (σ'' := [.one (.cells 3 [[.own 6 0 a11.1.length, .map 3, int time]]), pool 4 b8 a11.2, .dead, .one (pmap 1 vU l5), .dead, .dead, .one (prow 1 a11.1)]) Z Z Z (FnOk.lend [0, 6, 3, 1] (V0 ha11) Z Z Z Z Z Z (by exact ⟨(.one Z), (.one (i4 Z)), (.one (j5 Z)), (.any l8), Y⟩) Z (by exact ⟨(.live Z (.one Z)), (.live Z (.one (f8 fun _ => Z))), (.live Z (.one (k7 fun _ => Z))), (.live Z RenE.pool), Y⟩) Z Z (by exact ⟨(.new 0 Z Z (.one Z)), (.new 3 Z Z RenE.pool), .dead, (.new 2 Z Z (.one (k7 fun _ => Z))), .dead, .dead, (.new 1 Z Z (.one (f8 fun _ => Z))), Y⟩)) (.nil ?_))))))
 obtain rfl := oi h
 exact ⟨⟨[], [.one (.cells 3 [[.own 6 0 a11.1.length, .map 3, int time]]), pool 4 b8 a11.2, .dead, .one (pmap 1 vU l5), .dead, .dead, .one (prow 1 a11.1)]⟩, Sub.env trivial, Done.normal Z ⟨Z, Z⟩⟩
theorem Y7 {item : Int} {key : Int} {time : Int} {l : List Int} {l5 : List (Int × Int)} {l6 : List b9} {r : (List (Int × Int)) × (List Int) × (List b9)} (h : o5 item key time l l5 l6 = some r) : FnOk prog 62 [.c (.ptr 0 0 0), .c (.imm (.val (.int .u32 item))), .c (int key)] (aa0 item key time l l5 l6) (fun tt ss => tt = .tup [] ∧ ss = [.one (.cells 3 [[.own 4 0 r.2.1.length, .map 2, int (w64 (time + 1))]]), .dead, .one (pmap 5 vU r.1), .dead, .one (prow 5 r.2.1), pool 4 b8 r.2.2]) := by
 refine FnOk.enter (rs := []) func62 Z ntmps62 results62 Z trivial (by kernel_rfl) Z ?_
 refine AWP.weak ?_
 unfold o5 at h
 refine AWP.j (env' := [(0, .c (.ptr 0 0 0)), (1, .c (.imm (.val (.int .u32 item)))), (2, .c (int key))]) (σ' := [.one (.cells 3 [[.own 4 0 l.length, .map 2, int time]]), .dead, .one (pmap 3 vU l5), pool 4 b8 l6, .one (prow 3 l)]) 4 1 Z Z Z ⟨Z, Z, Z, Y⟩ Z ⟨⟨Z, Z⟩, trivial, ⟨j5 Z, u6 Z I1⟩, (p9.pool Z), ⟨i4 Z, u6 Z I2⟩, Y⟩ (.moveM (env' := [(0, .c (.ptr 0 0 0)), (1, .c (.imm (.val (.int .u32 item)))), (2, .c (int key))]) (σ' := [.one (.cells 3 [[.own 4 0 l.length, .map 2, int time]]), .dead, .one (pmap 5 vU l5), .dead, .one (prow 5 l), pool 4 b8 l6]) 5 3 Z Z Z ⟨Z, Z, Z, Y⟩ Z ⟨(.one Z Z), .dead, (.one (j5 Z) (C9 Z Z (k7 fun _ => Z))), .dead, (.one (i4 Z) (C9 Z Z (f8 fun _ => Z))), (EntR.pool Z Z), Y⟩ ?_)
 refine AWP.q (.u (.j Z Z (.ac Z Z Z (W.fieldAddr Z Z Z Z (.E Z Z Z Z Z Z (S.add Z Z Z (.ac Z Z Z (W.fieldAddr Z Z Z Z (W.store Z Z Z Z Z (.nil (b5 (.q (.q (.u (.j Z Z (.ac Z Z Z (W.fieldAddr Z Z Z Z (.E Z Z Z Z Z Z (.j Z Z (S.lookupOkP (fk := vU) (k := item) E3 Z Z Z Z Z (.j Z Z (.ab Z Z Z (.ab Z Z Z (.v Z Z (.v Z Z (.nil (b5 (.q (.u (.j Z Z (.nil (b5 (.ag Z h (fun hc60 h => ?_) (fun hc60 h => ?_))))))))))))))))))))))))))))))))))
 ·obtain ⟨ap61, hap61, h⟩ := bind_some h
  refine AWP.sub (s' := ⟨[(0, .c (.ptr 0 0 0)), (1, .c (.imm (.val (.int .u32 item)))), (2, .c (int key)), (6, .c (.ptr (5, [ap61.toNat]) 0 0)), (7, .c (bool (Option.isSome (mget l5 item)))), (9, .c (.ptr 0 0 0)), (10, .c (.ptr 0 0 0)), (11, .c (.ptr 0 0 2)), (12, .c (int time)), (13, .c (int (w64 (time + 1)))), (14, .c (.ptr 0 0 0)), (15, .c (.ptr 0 0 2)), (17, .c (.ptr 0 0 0)), (18, .c (.ptr 0 0 0)), (19, .c (.ptr 0 0 1)), (20, .c (.map 2)), (21, .c (.imm (.val (.int .u32 item)))), (23, .c (.ptr (5, [ap61.toNat]) 0 0)), (24, .c (bool (Option.isSome (mget l5 item)))), (25, .c (bool (Option.isSome (mget l5 item))))], [.one (.cells 3 [[.own 4 0 l.length, .map 2, int (w64 (time + 1))]]), .dead, .one (pmap 5 vU l5), .dead, .one (prow 5 l), pool 4 b8 l6]⟩) (Sub.env ⟨Z, Z, Z, (ai6 hap61), Z, Z, Z, Z, Z, Z, Z, Z, Z, Z, Z, Z, Z, (ai6 hap61), Z, Z, Y⟩) (.q ?_)
  obtain ⟨en62, hen62, h⟩ := bind_some h
  refine AWP.u (.j Z Z (.j Z Z (.j Z Z (.j Z Z (.ac Z Z Z (W.fieldAddr Z Z Z Z (.E Z Z Z Z Z Z (S.nilCheckE Z Z (by simpa only [List.length_set] using e9 hen62) Z (S.fieldE Z Z Z (by simpa only [List.length_set] using e9 hen62) Z (S.storeE (e' := (⟨en62.item, key, en62.time, en62.fat⟩ : b9)) hen62 Z Z Z Z Z Z (S.nilCheckE Z Z (by simpa only [List.length_set] using e9 hen62) Z (S.fieldE Z Z Z (by simpa only [List.length_set] using e9 hen62) Z (S.storeE (e' := (⟨en62.item, key, w64 (time + 1), en62.fat⟩ : b9)) (U0 hen62) Z Z Z Z Z Z (.nil (b5 (.q ?_))))))))))))))))
  obtain ⟨a45, ha45, h⟩ := bind_some h
  refine AWP.drawEI [8] mixed Z Z Z ?_
  refine d5.consN Z Z (fun E => AOps.j Z Z .N) Z (.consN Z Z (fun E => AOps.ac Z Z Z .N) Z (.consN Z Z (fun E => W.fieldAddr Z Z Z Z .N) Z (.consN Z Z (fun E => S.mkIfc Z Z Z .N) Z (.consN Z Z (fun E => AOps.j Z Z .N) Z (.consN Z Z (fun E => S.nilCheckE Z Z (by simpa only [List.length_set] using e9 hen62) Z .N) Z (.consN Z Z (fun E => S.fieldE Z Z Z (by simpa only [List.length_set] using e9 hen62) Z .N) Z (.consN Z Z (fun E => AOps.E Z Z (n7 Z (U0 (U0 hen62))) Z Z Z .N) Z ?_)))))))
  apply d5.consE; exact Z; exact Z; intro E
  refine AOps.callF (r2 := .tup []) (σ'' := [.one (.cells 3 [[.own 4 0 a45.1.length, .map 2, int (w64 (time + 1))]]), .dead, .one (pmap 5 vU l5), .dead, .one (prow 5 a45.1), pool 4 b8 a45.2]) Z Z Z (FnOk.lend [0, 4, 2, 5] (T9 ha45) Z Z Z Z Z Z (by exact ⟨(.one Z), (.one (i4 Z)), (.one (j5 Z)), (.any l8), Y⟩) Z (by exact ⟨(.live Z (.one Z)), (.live Z (.one (f8 fun _ => Z))), (.live Z (.one (k7 fun _ => Z))), (.live Z RenE.pool), Y⟩) Z Z (by exact ⟨(.new 0 Z Z (.one Z)), .dead, (.new 2 Z Z (.one (k7 fun _ => Z))), .dead, (.new 1 Z Z (.one (f8 fun _ => Z))), (.new 3 Z Z RenE.pool), Y⟩)) .N
  exact Z
  exact Z
  refine d5.done Z ?_ ?_
  ·refine c9.cons Z Z ?_ ?_
   refine b7.go Z Z (fun E => AOps.j Z Z .N) ?_
   refine b7.skip Z (b7.nil)
   refine c9.cons Z Z ?_ ?_
   refine b7.go Z Z (fun E => AOps.ac Z Z Z .N) ?_
   refine b7.skip Z (b7.nil)
   refine c9.cons Z Z ?_ ?_
   refine b7.go Z Z (fun E => W.fieldAddr Z Z Z Z .N) ?_
   refine b7.skip Z (b7.nil)
   refine c9.cons Z Z ?_ ?_
   refine b7.go Z Z (fun E => S.mkIfc Z Z Z .N) ?_
   refine b7.skip Z (b7.nil)
   refine c9.cons Z Z ?_ ?_
   refine b7.go Z Z (fun E => AOps.j Z Z .N) ?_
   refine b7.skip Z (b7.nil)
   refine c9.cons Z Z ?_ ?_
   refine b7.go Z Z (fun E => S.nilCheckE Z Z (by simpa only [List.length_set] using e9 hen62) Z .N) ?_
   refine b7.skip Z (b7.nil)
   refine c9.cons Z Z ?_ ?_
   refine b7.go Z Z (fun E => S.fieldE Z Z Z (by simpa only [List.length_set] using e9 hen62) Z .N) ?_
   refine b7.skip Z (b7.nil)
   refine c9.cons Z Z ?_ ?_
   refine b7.go Z Z (fun E => AOps.E Z Z (n7 Z (U0 (U0 hen62))) Z Z Z .N) ?_
   refine b7.skip Z (b7.nil)
   refine c9.skip Z (c9.nil)
  dsimp only [j8]
  refine b5 (.ret (e8 ?_))
  obtain rfl := oi h
  exact ⟨⟨[], [.one (.cells 3 [[.own 4 0 a45.1.length, .map 2, int (w64 (time + 1))]]), .dead, .one (pmap 5 vU l5), .dead, .one (prow 5 a45.1), pool 4 b8 a45.2]⟩, Sub.env trivial, Done.ret Z ⟨Z, Z⟩⟩
 ·refine AWP.skip (b5 (.q ?_))
  obtain ⟨u63, hu63, u64, hu64, h⟩ := b2 h
  refine AWP.u (.j Z Z (.j Z Z (.j Z Z (.ac Z Z Z (W.fieldAddr Z Z Z Z (.E Z Z Z Z Z Z (W.build Z Z Z Z (W.box Z Z Z Z Z Z (.sub (Sub.move (env' := [(0, .c (.ptr 0 0 0)), (1, .c (.imm (.val (.int .u32 item)))), (2, .c (int key)), (7, .c (bool (Option.isSome (mget l5 item)))), (9, .c (.ptr 0 0 0)), (10, .c (.ptr 0 0 0)), (11, .c (.ptr 0 0 2)), (12, .c (int time)), (13, .c (int (w64 (time + 1)))), (14, .c (.ptr 0 0 0)), (15, .c (.ptr 0 0 2)), (17, .c (.ptr 0 0 0)), (18, .c (.ptr 0 0 0)), (19, .c (.ptr 0 0 1)), (20, .c (.map 2)), (21, .c (.imm (.val (.int .u32 item)))), (24, .c (bool (Option.isSome (mget l5 item)))), (25, .c (bool (Option.isSome (mget l5 item)))), (46, .c (.imm (.val (.int .u32 item)))), (47, .c (int key)), (48, .c (.ptr 0 0 0)), (49, .c (.ptr 0 0 0)), (50, .c (.ptr 0 0 2)), (51, .c (int (w64 (time + 1)))), (52, .agg [.imm (.val (.int .u32 item)), int key, int (w64 (time + 1)), int 0]), (53, .c (.ptr (5, [(l6.length : Int).toNat]) 0 0))]) (σ' := [.one (.cells 3 [[.own 4 0 l.length, .map 2, int (w64 (time + 1))]]), .dead, .one (pmap 5 vU l5), .dead, .one (prow 5 l), pool 4 b8 (l6 ++ [(⟨item, key, w64 (time + 1), 0⟩ : b9)])]) (5, [l6.length]) (6, []) Z Z Z ⟨Z, Z, Z, Z, Z, Z, Z, Z, Z, Z, Z, Z, Z, Z, Z, Z, Z, Z, Z, Z, Z, Z, Z, Z, Z, ptr_adopt, Y⟩ Z ⟨⟨Z, Z⟩, trivial, ⟨j5 Z, Y0 Z (pmap_adopt hu63) ab9⟩, trivial, ⟨i4 Z, Y0 Z (prow_adopt hu64) ab9⟩, (p9.adopt Z Z), Y⟩) (.v Z Z (.nil (b5 (.q (.u (.j Z Z (.ac Z Z Z (W.fieldAddr Z Z Z Z (.E Z Z Z Z Z Z (.j Z Z (.j Z Z (S.mapUpdateP (fk := vU) (k := item) (a := (l6.length : Int)) E3 Z Z Z Z Z (.nil (b5 ?_)))))))))))))))))))))))
  obtain ⟨a66, ha66, h⟩ := bind_some h
  refine AWP.u (.j Z Z (.ac Z Z Z (W.fieldAddr Z Z Z Z (S.mkIfc Z Z Z (.j Z Z (S.mkIfc Z Z Z (.callF (r2 := .tup []) (σ'' := [.one (.cells 3 [[.own 8 0 a66.2.length, .map 2, int (w64 (time + 1))]]), .dead, .one (pmap 5 vU (mset l5 item (l6.length : Int))), .dead, .dead, pool 4 b8 a66.1, .dead, .dead, .one (prow 5 a66.2)]) Z Z Z (FnOk.lend [0, 5, 4, 2] (S5 ha66) Z Z Z Z Z Z (by exact ⟨(.one Z), (.any l8), (.one (i4 Z)), (.one (j5 Z)), Y⟩) Z (by exact ⟨(.live Z (.one Z)), (.live Z RenE.pool), (.live Z (.one (f8 fun _ => Z))), (.live Z (.one (k7 fun _ => Z))), Y⟩) Z Z (by exact ⟨(.new 0 Z Z (.one Z)), .dead, (.new 3 Z Z (.one (k7 fun _ => Z))), .dead, .dead, (.new 1 Z Z RenE.pool), .dead, .dead, (.new 6 Z Z (.one (f8 fun _ => Z))), Y⟩)) (.nil ?_))))))))
  obtain rfl := oi h
  exact ⟨⟨[], [.one (.cells 3 [[.own 4 0 a66.2.length, .map 2, int (w64 (time + 1))]]), .dead, .one (pmap 5 vU (mset l5 item (l6.length : Int))), .dead, .one (prow 5 a66.2), pool 4 b8 a66.1]⟩, (Sub.move (env' := []) (σ' := [.one (.cells 3 [[.own 4 0 a66.2.length, .map 2, int (w64 (time + 1))]]), .dead, .one (pmap 5 vU (mset l5 item (l6.length : Int))), .dead, .one (prow 5 a66.2), pool 4 b8 a66.1, .dead, .dead]) 4 8 Z Z Z trivial Z ⟨⟨Z, Z⟩, trivial, ⟨j5 Z, u6 Z I1⟩, trivial, ⟨i4 Z, u6 Z I2⟩, (p9.pool Z), trivial, trivial, Y⟩).trans (Sub.cut trivial Z ⟨.one Z, .dead, (.one (j5 Z)), .dead, (.one (i4 Z)), (.any l8), Y⟩ Z), Done.normal Z ⟨Z, Z⟩⟩
theorem aa6 {time : Int} {l : List Int} {l3 : List (Int × Int)} {l4 : List b9} {r : Unit} (h : A6 time l l3 l4 = some r) : FnOk prog 64 [.c (.ptr 0 0 0)] (ab1 time l l3 l4) (fun tt ss => tt = .c (int (l.length : Int)) ∧ ss = [.one (.cells 3 [[.own 1 0 l.length, .map 2, int time]]), .one (prow 3 l), .one (pmap 3 vU l3), pool 4 b8 l4]) := by
 refine FnOk.enter (rs := [.t 2]) func64 Z ntmps64 results64 Z ⟨trivial, Y⟩ (by kernel_rfl) Z ?_
 refine AWP.weak ?_
 unfold A6 at h
 refine AWP.q (.u (.v Z Z (.nil (b5 (.q (.u (.j Z Z (.ac Z Z Z (W.fieldAddr Z Z Z Z (.E Z Z Z Z Z Z (.lenOwnB Z Z Z (fun hl7 => .v Z Z (.nil (b5 (.ret ?_)))))))))))))))
 obtain rfl := oi h
 exact ⟨⟨[(2, .c (int (l.length : Int)))], [.one (.cells 3 [[.own 1 0 l.length, .map 2, int time]]), .one (prow 3 l), .one (pmap 3 vU l3), pool 4 b8 l4]⟩, Sub.env ⟨Z, Y⟩, Done.ret Z ⟨Z, Z⟩⟩
theorem I7 {iv : Int} {kv : Int} {l : List Int} {l4 : List b9} {r : (List Int) × (List b9)} (h : s7 iv kv l l4 = some r) : FnOk prog 172 [.c (.own 0 0 l.length), .c (int iv), .c (int kv)] (W0 iv kv l l4) (fun tt ss => tt = .tup [] ∧ ss = [.one (prow 1 r.1), pool 4 b8 r.2]) := by
 refine FnOk.enter (rs := []) func172 Z ntmps172 results172 Z trivial (by kernel_rfl) Z ?_
 refine AWP.weak ?_
 unfold s7 at h
 refine AWP.q ?_
 obtain ⟨a12, ha12, a16, ha16, h⟩ := b2 h
 refine AWP.drawEI [13, 15] mixed Z Z Z ?_
 refine d5.consN Z Z (fun E => AOps.j Z Z .N) Z (.consN Z Z (fun E => AOps.j Z Z .N) Z (.consN Z Z (fun E => AOps.j Z Z .N) Z (.consN Z Z (fun E => AOps.j Z Z .N) Z (.consN Z Z (fun E => AOps.j Z Z .N) Z (.consN Z Z (fun E => AOps.j Z Z .N) Z (.consN Z Z (fun E => S.idxPb Z Z Z (by simpa only [List.length_set] using n4 ha12) Z Z .N) Z (.consN Z Z (fun E => S.loadP ha12 Z Z Z Z .N) Z (.consN Z Z (fun E => AOps.j Z Z .N) Z (.consN Z Z (fun E => AOps.j Z Z .N) Z (.consN Z Z (fun E => S.idxPb Z Z Z (by simpa only [List.length_set] using n4 ha16) Z Z .N) Z (.consN Z Z (fun E => S.loadP ha16 Z Z Z Z .N) Z (.consN Z Z (fun E => S.idxPb Z Z Z (by simpa only [List.length_set] using n4 ha16) Z Z .N) Z ?_))))))))))))
 apply d5.consE (v := .undef); exact Z; exact Z; intro E
 refine S.storeP (a := a12) (by simpa only [List.length_set] using e9 ha16) Z Z Z Z .N
 exact Z
 exact Z
 refine d5.consN Z Z (fun E => S.idxPb Z Z (by simp only [List.length_set]) (by simpa only [List.length_set] using n4 ha12) Z Z .N) Z ?_
 apply d5.consE (v := .undef); exact Z; exact Z; intro E
 refine S.storeP (a := a16) (by simpa only [List.length_set] using e9 ha12) Z Z Z Z .N
 exact Z
 exact Z
 refine d5.done Z ?_ ?_
 ·refine c9.cons Z Z ?_ ?_
  refine b7.go Z Z (fun E => AOps.j Z Z .N) ?_
  refine b7.skip Z (b7.skip Z (b7.nil))
  refine c9.cons Z Z ?_ ?_
  refine b7.go Z Z (fun E => AOps.j Z Z .N) ?_
  refine b7.skip Z (b7.skip Z (b7.nil))
  refine c9.cons Z Z ?_ ?_
  refine b7.go Z Z (fun E => AOps.j Z Z .N) ?_
  refine b7.go Z Z (fun E => AOps.j Z Z .N) ?_
  refine b7.skip Z (b7.nil)
  refine c9.cons Z Z ?_ ?_
  refine b7.go Z Z (fun E => AOps.j Z Z .N) ?_
  refine b7.go Z Z (fun E => AOps.j Z Z .N) ?_
  refine b7.skip Z (b7.nil)
  refine c9.cons Z Z ?_ ?_
  refine b7.go Z Z (fun E => AOps.j Z Z .N) ?_
  refine b7.skip Z (b7.skip Z (b7.nil))
  refine c9.cons Z Z ?_ ?_
  refine b7.go Z Z (fun E => AOps.j Z Z .N) ?_
  refine b7.skip Z (b7.skip Z (b7.nil))
  refine c9.cons Z Z ?_ ?_
  refine b7.go Z Z (fun E => S.idxPb Z Z Z (by simpa only [List.length_set] using n4 ha12) Z Z .N) ?_
  refine b7.skip Z (b7.skip Z (b7.nil))
  refine c9.cons Z Z ?_ ?_
  refine b7.go Z Z (fun E => S.loadP ha12 Z Z Z Z .N) ?_
  refine b7.skip Z (b7.skip Z (b7.nil))
  refine c9.cons Z Z ?_ ?_
  refine b7.go Z Z (fun E => AOps.j Z Z .N) ?_
  refine b7.skip Z (b7.skip Z (b7.nil))
  refine c9.cons Z Z ?_ ?_
  refine b7.go Z Z (fun E => AOps.j Z Z .N) ?_
  refine b7.skip Z (b7.skip Z (b7.nil))
  refine c9.cons Z Z ?_ ?_
  refine b7.go Z Z (fun E => S.idxPb Z Z Z (by simpa only [List.length_set] using n4 ha16) Z Z .N) ?_
  refine b7.skip Z (b7.skip Z (b7.nil))
  refine c9.cons Z Z ?_ ?_
  refine b7.go Z Z (fun E => S.loadP ha16 Z Z Z Z .N) ?_
  refine b7.skip Z (b7.skip Z (b7.nil))
  refine c9.cons Z Z ?_ ?_
  refine b7.go Z Z (fun E => S.idxPb Z Z Z (by simpa only [List.length_set] using n4 ha16) Z Z .N) ?_
  refine b7.skip Z (b7.skip Z (b7.nil))
  refine c9.skip Z ?_
  refine c9.cons Z Z ?_ ?_
  refine b7.skip Z ?_
  refine b7.go Z Z (fun E => S.idxPb Z Z (by simp only [List.length_set]) (by simpa only [List.length_set] using n4 ha12) Z Z .N) ?_
  refine b7.skip Z (b7.nil)
  refine c9.skip Z (c9.nil)
 dsimp only [j8]
 refine b5 ?_
 obtain ⟨ha57, hha57, ha58, hha58, en59, hen59, h⟩ := b3 h
 obtain ⟨en60, hen60, h⟩ := bind_some h
 refine AWP.drawEI [12, 15] mixed Z Z Z ?_
 refine d5.consN Z Z (fun E => AOps.j Z Z .N) Z (.consN Z Z (fun E => AOps.j Z Z .N) Z (.consN Z Z (fun E => S.idxPb Z Z (by simp only [List.length_set]) (by simpa only [List.length_set] using n4 ha16) Z Z .N) Z (.consN Z Z (fun E => S.loadP hha57 Z Z Z Z .N) Z (.consN Z Z (fun E => AOps.j Z Z .N) Z (.consN Z Z (fun E => AOps.j Z Z .N) Z (.consN Z Z (fun E => S.idxPb Z Z (by simp only [List.length_set]) (by simpa only [List.length_set] using n4 ha12) Z Z .N) Z (.consN Z Z (fun E => S.loadP hha58 Z Z Z Z .N) Z (.consN Z Z (fun E => AOps.j Z Z .N) Z (.consN Z Z (fun E => AOps.j Z Z .N) Z (.consN Z Z (fun E => S.nilCheckE Z Z (by simpa only [List.length_set] using e9 hen59) Z .N) Z (.consN Z Z (fun E => S.fieldE Z Z Z (by simpa only [List.length_set] using e9 hen59) Z .N) Z ?_)))))))))))
 apply d5.consE (v := .undef); exact Z; exact Z; intro E
 refine S.storeE (e' := (⟨en59.item, en59.key, en59.time, iv⟩ : b9)) hen59 Z Z Z Z Z Z .N
 exact Z
 exact Z
 refine d5.consN Z Z (fun E => S.nilCheckE Z Z (by simpa only [List.length_set] using e9 hen60) Z .N) Z (.consN Z Z (fun E => S.fieldE Z Z Z (by simpa only [List.length_set] using e9 hen60) Z .N) Z ?_)
 apply d5.consE (v := .undef); exact Z; exact Z; intro E
 refine S.storeE (e' := (⟨en60.item, en60.key, en60.time, kv⟩ : b9)) hen60 Z Z Z Z Z Z .N
 exact Z
 exact Z
 refine d5.done Z ?_ ?_
 ·refine c9.cons Z Z ?_ ?_
  refine b7.go Z Z (fun E => AOps.j Z Z .N) ?_
  refine b7.skip Z (b7.skip Z (b7.nil))
  refine c9.cons Z Z ?_ ?_
  refine b7.go Z Z (fun E => AOps.j Z Z .N) ?_
  refine b7.skip Z (b7.skip Z (b7.nil))
  refine c9.cons Z Z ?_ ?_
  refine b7.go Z Z (fun E => S.idxPb Z Z (by simp only [List.length_set]) (by simpa only [List.length_set] using n4 ha16) Z Z .N) ?_
  refine b7.skip Z (b7.skip Z (b7.nil))
  refine c9.cons Z Z ?_ ?_
  refine b7.go Z Z (fun E => S.loadP hha57 Z Z Z Z .N) ?_
  refine b7.skip Z (b7.skip Z (b7.nil))
  refine c9.cons Z Z ?_ ?_
  refine b7.go Z Z (fun E => AOps.j Z Z .N) ?_
  refine b7.skip Z (b7.skip Z (b7.nil))
  refine c9.cons Z Z ?_ ?_
  refine b7.go Z Z (fun E => AOps.j Z Z .N) ?_
  refine b7.skip Z (b7.skip Z (b7.nil))
  refine c9.cons Z Z ?_ ?_
  refine b7.go Z Z (fun E => S.idxPb Z Z (by simp only [List.length_set]) (by simpa only [List.length_set] using n4 ha12) Z Z .N) ?_
  refine b7.skip Z (b7.skip Z (b7.nil))
  refine c9.cons Z Z ?_ ?_
  refine b7.go Z Z (fun E => S.loadP hha58 Z Z Z Z .N) ?_
  refine b7.skip Z (b7.skip Z (b7.nil))
  refine c9.cons Z Z ?_ ?_
  refine b7.go Z Z (fun E => AOps.j Z Z .N) ?_
  refine b7.skip Z (b7.skip Z (b7.nil))
  refine c9.cons Z Z ?_ ?_
  refine b7.go Z Z (fun E => AOps.j Z Z .N) ?_
  refine b7.go Z Z (fun E => AOps.j Z Z .N) ?_
  refine b7.skip Z (b7.nil)
  refine c9.cons Z Z ?_ ?_
  refine b7.go Z Z (fun E => S.nilCheckE Z Z (by simpa only [List.length_set] using e9 hen59) Z .N) ?_
  refine b7.skip Z (b7.skip Z (b7.nil))
  refine c9.cons Z Z ?_ ?_
  refine b7.go Z Z (fun E => S.fieldE Z Z Z (by simpa only [List.length_set] using e9 hen59) Z .N) ?_
  refine b7.skip Z (b7.skip Z (b7.nil))
  refine c9.skip Z ?_
  refine c9.cons Z Z ?_ ?_
  refine b7.skip Z ?_
  refine b7.go Z Z (fun E => S.nilCheckE Z Z (by simpa only [List.length_set] using e9 hen60) Z .N) ?_
  refine b7.skip Z (b7.nil)
  refine c9.cons Z Z ?_ ?_
  refine b7.skip Z ?_
  refine b7.go Z Z (fun E => S.fieldE Z Z Z (by simpa only [List.length_set] using e9 hen60) Z .N) ?_
  refine b7.skip Z (b7.nil)
  refine c9.skip Z (c9.nil)
 dsimp only [j8]
 obtain rfl := oi h
 exact ⟨⟨[], [.one (prow 1 ((l.set iv.toNat a12).set kv.toNat a16)), pool 4 b8 ((l4.set ha57.toNat (⟨en59.item, en59.key, en59.time, iv⟩ : b9)).set ha58.toNat (⟨en60.item, en60.key, en60.time, kv⟩ : b9))]⟩, Sub.env trivial, Done.normal Z ⟨Z, Z⟩⟩
theorem X0 {iv : Int} {kv : Int} {l : List Int} {l4 : List b9} {r : Bool} (h : D3 iv kv l l4 = some r) : FnOk prog 171 [.c (.own 0 0 l.length), .c (int iv), .c (int kv)] (W3 iv kv l l4) (fun tt ss => tt = .c (bool r) ∧ ss = [.one (prow 1 l), pool 4 b8 l4]) := by
 refine FnOk.enter (rs := [.t 6]) func171 Z ntmps171 results171 Z ⟨trivial, Y⟩ (by kernel_rfl) Z ?_
 refine AWP.weak ?_
 unfold D3 at h
 refine AWP.q (.u (.v Z Z (.nil (b5 ?_))))
 obtain ⟨a9, ha9, en56, hen56, a16, ha16, h⟩ := b3 h
 obtain ⟨en57, hen57, h⟩ := bind_some h
 refine AWP.seqJ (⟨[(6, .c (bool ((decide (en56.key < en57.key)) || ((decide (en56.key = en57.key)) && (decide (en56.time < en57.time))))))], [.one (prow 1 l), pool 4 b8 l4]⟩) ?_ ?_
 ·rcases bft (decide (en56.key < en57.key)) with hb1 | hb1
  ·refine AWP.drawI mixed Z ?_
   refine i9.consF Z (fun E => AOps.j Z Z .N) Z (.consF Z (fun E => AOps.j Z Z .N) Z (.consF Z (fun E => S.idxPb Z Z Z (by simpa only [List.length_set] using n4 ha9) Z Z .N) Z (.consF Z (fun E => S.loadP ha9 Z Z Z Z .N) Z (.consF Z (fun E => S.nilCheckE Z Z (by simpa only [List.length_set] using e9 hen56) Z .N) Z (.consF Z (fun E => S.fieldE Z Z Z (by simpa only [List.length_set] using e9 hen56) Z .N) Z (.consF Z (fun E => AOps.E Z Z (n7 Z hen56) Z Z Z .N) Z (.consF Z (fun E => AOps.j Z Z .N) Z (.consF Z (fun E => AOps.j Z Z .N) Z (.consF Z (fun E => S.idxPb Z Z Z (by simpa only [List.length_set] using n4 ha16) Z Z .N) Z (.consF Z (fun E => S.loadP ha16 Z Z Z Z .N) Z (.consF Z (fun E => S.nilCheckE Z Z (by simpa only [List.length_set] using e9 hen57) Z .N) Z (.consF Z (fun E => S.fieldE Z Z Z (by simpa only [List.length_set] using e9 hen57) Z .N) Z (.consF Z (fun E => AOps.E Z Z (n7 Z hen57) Z Z Z .N) Z (.consF Z (fun E => AOps.F Z Z Z .N) Z (.consF Z (fun E => AOps.j Z Z .N) Z (.consF Z (fun E => AOps.B Z Z Z hb1 .N) Z (.consF Z (fun E => AOps.B Z Z Z hb1 .N) Z (.consF Z (fun E => AOps.B Z Z Z hb1 .N) Z (.consF Z (fun E => AOps.B Z Z Z hb1 .N) Z (.consF Z (fun E => AOps.B Z Z Z hb1 .N) Z (.consF Z (fun E => AOps.B Z Z Z hb1 .N) Z (.consF Z (fun E => AOps.B Z Z Z hb1 .N) Z (.consF Z (fun E => AOps.B Z Z Z hb1 .N) Z (.consF Z (fun E => AOps.B Z Z Z hb1 .N) Z (.consF Z (fun E => AOps.B Z Z Z hb1 .N) Z (.consF Z (fun E => AOps.B Z Z Z hb1 .N) Z (.consF Z (fun E => AOps.B Z Z Z hb1 .N) Z (.consF Z (fun E => AOps.B Z Z Z hb1 .N) Z (.consF Z (fun E => AOps.B Z Z Z hb1 .N) Z (.consF Z (fun E => AOps.B Z Z Z hb1 .N) Z (.consF Z (fun E => AOps.B Z Z Z hb1 .N) Z (.consF Z (fun E => AOps.ah Z Z Z .N) Z (.consF Z (fun E => AOps.ah Z Z Z .N) Z (.consF Z (fun E => AOps.ah Z Z Z .N) Z (.consF Z (fun E => AOps.ah Z Z Z .N) Z (.consF Z (fun E => AOps.ah Z Z Z .N) Z (.consF Z (fun E => AOps.ah Z Z Z .N) Z (.consF Z (fun E => AOps.ah Z Z Z .N) Z (.consF Z (fun E => AOps.ah Z Z Z .N) Z (.consF Z (fun E => AOps.ah Z Z Z .N) Z (.consF Z (fun E => AOps.ah Z Z Z .N) Z (.consF Z (fun E => AOps.ah Z Z Z .N) Z (.consF Z (fun E => AOps.ah Z Z Z .N) Z (.consF Z (fun E => AOps.ah Z Z Z .N) Z (.consF Z (fun E => AOps.ah Z Z Z .N) Z (.consF Z (fun E => AOps.ah Z Z Z .N) Z (.consF Z (fun E => AOps.B Z Z Z hb1 .N) Z (.consF Z (fun E => AOps.O Z hb1 Z Z .N) Z (.consF Z (fun E => AOps.v Z Z .N) Z ?_)))))))))))))))))))))))))))))))))))))))))))))))))
   refine i9.done ?_
   dsimp only [j8]
   refine b5 ?_
   simp only [V9 hb1, or_t hb1, Bool.false_or, Bool.true_or, Bool.false_and, Bool.true_and]
   exact Sub.env ⟨Z, Y⟩
  ·rcases bft (decide (en56.key = en57.key)) with hb2 | hb2
   ·refine AWP.drawI mixed Z ?_
    refine i9.consF Z (fun E => AOps.j Z Z .N) Z (.consF Z (fun E => AOps.j Z Z .N) Z (.consF Z (fun E => S.idxPb Z Z Z (by simpa only [List.length_set] using n4 ha9) Z Z .N) Z (.consF Z (fun E => S.loadP ha9 Z Z Z Z .N) Z (.consF Z (fun E => S.nilCheckE Z Z (by simpa only [List.length_set] using e9 hen56) Z .N) Z (.consF Z (fun E => S.fieldE Z Z Z (by simpa only [List.length_set] using e9 hen56) Z .N) Z (.consF Z (fun E => AOps.E Z Z (n7 Z hen56) Z Z Z .N) Z (.consF Z (fun E => AOps.j Z Z .N) Z (.consF Z (fun E => AOps.j Z Z .N) Z (.consF Z (fun E => S.idxPb Z Z Z (by simpa only [List.length_set] using n4 ha16) Z Z .N) Z (.consF Z (fun E => S.loadP ha16 Z Z Z Z .N) Z (.consF Z (fun E => S.nilCheckE Z Z (by simpa only [List.length_set] using e9 hen57) Z .N) Z (.consF Z (fun E => S.fieldE Z Z Z (by simpa only [List.length_set] using e9 hen57) Z .N) Z (.consF Z (fun E => AOps.E Z Z (n7 Z hen57) Z Z Z .N) Z (.consF Z (fun E => AOps.F Z Z Z .N) Z (.consF Z (fun E => AOps.j Z Z .N) Z (.consF Z (fun E => AOps.z Z Z Z hb1 (.j Z Z .N)) Z (.consF Z (fun E => AOps.z Z Z Z hb1 (.j Z Z .N)) Z (.consF Z (fun E => AOps.z Z Z Z hb1 (S.idxPb Z Z Z (by simpa only [List.length_set] using n4 ha9) Z Z .N)) Z (.consF Z (fun E => AOps.z Z Z Z hb1 (S.loadP ha9 Z Z Z Z .N)) Z (.consF Z (fun E => AOps.z Z Z Z hb1 (S.nilCheckE Z Z (by simpa only [List.length_set] using e9 hen56) Z .N)) Z (.consF Z (fun E => AOps.z Z Z Z hb1 (S.fieldE Z Z Z (by simpa only [List.length_set] using e9 hen56) Z .N)) Z (.consF Z (fun E => AOps.z Z Z Z hb1 (.E Z Z (n7 Z hen56) Z Z Z .N)) Z (.consF Z (fun E => AOps.z Z Z Z hb1 (.j Z Z .N)) Z (.consF Z (fun E => AOps.z Z Z Z hb1 (.j Z Z .N)) Z (.consF Z (fun E => AOps.z Z Z Z hb1 (S.idxPb Z Z Z (by simpa only [List.length_set] using n4 ha16) Z Z .N)) Z (.consF Z (fun E => AOps.z Z Z Z hb1 (S.loadP ha16 Z Z Z Z .N)) Z (.consF Z (fun E => AOps.z Z Z Z hb1 (S.nilCheckE Z Z (by simpa only [List.length_set] using e9 hen57) Z .N)) Z (.consF Z (fun E => AOps.z Z Z Z hb1 (S.fieldE Z Z Z (by simpa only [List.length_set] using e9 hen57) Z .N)) Z (.consF Z (fun E => AOps.z Z Z Z hb1 (.E Z Z (n7 Z hen57) Z Z Z .N)) Z (.consF Z (fun E => AOps.z Z Z Z hb1 (.eql Z Z Z .N)) Z (.consF Z (fun E => AOps.z Z Z Z hb1 (.j Z Z .N)) Z (.consF Z (fun E => AOps.z Z Z Z hb2 (.j Z Z .N)) Z (.consF Z (fun E => AOps.z Z Z Z hb2 (.j Z Z .N)) Z (.consF Z (fun E => AOps.z Z Z Z hb2 (S.idxPb Z Z Z (by simpa only [List.length_set] using n4 ha9) Z Z .N)) Z (.consF Z (fun E => AOps.z Z Z Z hb2 (S.loadP ha9 Z Z Z Z .N)) Z (.consF Z (fun E => AOps.z Z Z Z hb2 (S.nilCheckE Z Z (by simpa only [List.length_set] using e9 hen56) Z .N)) Z (.consF Z (fun E => AOps.z Z Z Z hb2 (S.fieldE Z Z Z (by simpa only [List.length_set] using e9 hen56) Z .N)) Z (.consF Z (fun E => AOps.z Z Z Z hb2 (.E Z Z (n7 Z hen56) Z Z Z .N)) Z (.consF Z (fun E => AOps.z Z Z Z hb2 (.j Z Z .N)) Z (.consF Z (fun E => AOps.z Z Z Z hb2 (.j Z Z .N)) Z (.consF Z (fun E => AOps.z Z Z Z hb2 (S.idxPb Z Z Z (by simpa only [List.length_set] using n4 ha16) Z Z .N)) Z (.consF Z (fun E => AOps.z Z Z Z hb2 (S.loadP ha16 Z Z Z Z .N)) Z (.consF Z (fun E => AOps.z Z Z Z hb2 (S.nilCheckE Z Z (by simpa only [List.length_set] using e9 hen57) Z .N)) Z (.consF Z (fun E => AOps.z Z Z Z hb2 (S.fieldE Z Z Z (by simpa only [List.length_set] using e9 hen57) Z .N)) Z (.consF Z (fun E => AOps.z Z Z Z hb2 (.E Z Z (n7 Z hen57) Z Z Z .N)) Z (.consF Z (fun E => AOps.z Z Z Z hb2 (.F Z Z Z .N)) Z (.consF Z (fun E => AOps.z Z Z Z hb1 (.O Z hb2 Z Z .N)) Z (.consF Z (fun E => AOps.U Z hb1 Z Z .N) Z (.consF Z (fun E => AOps.v Z Z .N) Z ?_)))))))))))))))))))))))))))))))))))))))))))))))))
    refine i9.done ?_
    dsimp only [j8]
    refine b5 ?_
    simp only [Q0 hb1, or_f hb1, V9 hb2, or_t hb2, Bool.false_or, Bool.true_or, Bool.false_and, Bool.true_and]
    exact Sub.env ⟨Z, Y⟩
   ·refine AWP.drawI mixed Z ?_
    refine i9.consF Z (fun E => AOps.j Z Z .N) Z (.consF Z (fun E => AOps.j Z Z .N) Z (.consF Z (fun E => S.idxPb Z Z Z (by simpa only [List.length_set] using n4 ha9) Z Z .N) Z (.consF Z (fun E => S.loadP ha9 Z Z Z Z .N) Z (.consF Z (fun E => S.nilCheckE Z Z (by simpa only [List.length_set] using e9 hen56) Z .N) Z (.consF Z (fun E => S.fieldE Z Z Z (by simpa only [List.length_set] using e9 hen56) Z .N) Z (.consF Z (fun E => AOps.E Z Z (n7 Z hen56) Z Z Z .N) Z (.consF Z (fun E => AOps.j Z Z .N) Z (.consF Z (fun E => AOps.j Z Z .N) Z (.consF Z (fun E => S.idxPb Z Z Z (by simpa only [List.length_set] using n4 ha16) Z Z .N) Z (.consF Z (fun E => S.loadP ha16 Z Z Z Z .N) Z (.consF Z (fun E => S.nilCheckE Z Z (by simpa only [List.length_set] using e9 hen57) Z .N) Z (.consF Z (fun E => S.fieldE Z Z Z (by simpa only [List.length_set] using e9 hen57) Z .N) Z (.consF Z (fun E => AOps.E Z Z (n7 Z hen57) Z Z Z .N) Z (.consF Z (fun E => AOps.F Z Z Z .N) Z (.consF Z (fun E => AOps.j Z Z .N) Z (.consF Z (fun E => AOps.z Z Z Z hb1 (.j Z Z .N)) Z (.consF Z (fun E => AOps.z Z Z Z hb1 (.j Z Z .N)) Z (.consF Z (fun E => AOps.z Z Z Z hb1 (S.idxPb Z Z Z (by simpa only [List.length_set] using n4 ha9) Z Z .N)) Z (.consF Z (fun E => AOps.z Z Z Z hb1 (S.loadP ha9 Z Z Z Z .N)) Z (.consF Z (fun E => AOps.z Z Z Z hb1 (S.nilCheckE Z Z (by simpa only [List.length_set] using e9 hen56) Z .N)) Z (.consF Z (fun E => AOps.z Z Z Z hb1 (S.fieldE Z Z Z (by simpa only [List.length_set] using e9 hen56) Z .N)) Z (.consF Z (fun E => AOps.z Z Z Z hb1 (.E Z Z (n7 Z hen56) Z Z Z .N)) Z (.consF Z (fun E => AOps.z Z Z Z hb1 (.j Z Z .N)) Z (.consF Z (fun E => AOps.z Z Z Z hb1 (.j Z Z .N)) Z (.consF Z (fun E => AOps.z Z Z Z hb1 (S.idxPb Z Z Z (by simpa only [List.length_set] using n4 ha16) Z Z .N)) Z (.consF Z (fun E => AOps.z Z Z Z hb1 (S.loadP ha16 Z Z Z Z .N)) Z (.consF Z (fun E => AOps.z Z Z Z hb1 (S.nilCheckE Z Z (by simpa only [List.length_set] using e9 hen57) Z .N)) Z (.consF Z (fun E => AOps.z Z Z Z hb1 (S.fieldE Z Z Z (by simpa only [List.length_set] using e9 hen57) Z .N)) Z (.consF Z (fun E => AOps.z Z Z Z hb1 (.E Z Z (n7 Z hen57) Z Z Z .N)) Z (.consF Z (fun E => AOps.z Z Z Z hb1 (.eql Z Z Z .N)) Z (.consF Z (fun E => AOps.z Z Z Z hb1 (.j Z Z .N)) Z (.consF Z (fun E => AOps.B Z Z Z hb2 .N) Z (.consF Z (fun E => AOps.B Z Z Z hb2 .N) Z (.consF Z (fun E => AOps.B Z Z Z hb2 .N) Z (.consF Z (fun E => AOps.B Z Z Z hb2 .N) Z (.consF Z (fun E => AOps.B Z Z Z hb2 .N) Z (.consF Z (fun E => AOps.B Z Z Z hb2 .N) Z (.consF Z (fun E => AOps.B Z Z Z hb2 .N) Z (.consF Z (fun E => AOps.B Z Z Z hb2 .N) Z (.consF Z (fun E => AOps.B Z Z Z hb2 .N) Z (.consF Z (fun E => AOps.B Z Z Z hb2 .N) Z (.consF Z (fun E => AOps.B Z Z Z hb2 .N) Z (.consF Z (fun E => AOps.B Z Z Z hb2 .N) Z (.consF Z (fun E => AOps.B Z Z Z hb2 .N) Z (.consF Z (fun E => AOps.B Z Z Z hb2 .N) Z (.consF Z (fun E => AOps.B Z Z Z hb2 .N) Z (.consF Z (fun E => AOps.z Z Z Z hb1 (.U Z hb2 Z Z .N)) Z (.consF Z (fun E => AOps.U Z hb1 Z Z .N) Z (.consF Z (fun E => AOps.v Z Z .N) Z ?_)))))))))))))))))))))))))))))))))))))))))))))))))
    refine i9.done ?_
    dsimp only [j8]
    refine b5 ?_
    simp only [Q0 hb1, or_f hb1, Q0 hb2, or_f hb2, Bool.false_or, Bool.true_or, Bool.false_and, Bool.true_and]
    exact Sub.env ⟨Z, Y⟩
 ·refine AWP.ret ?_
  obtain rfl := oi h
  exact ⟨⟨[(6, .c (bool ((decide (en56.key < en57.key)) || ((decide (en56.key = en57.key)) && (decide (en56.time < en57.time))))))], [.one (prow 1 l), pool 4 b8 l4]⟩, Sub.env ⟨Z, Y⟩, Done.ret Z ⟨Z, Z⟩⟩
theorem af3 {i01 : Int} {nv : Int} {time : Int} {l : List Int} {l5 : List (Int × Int)} {l6 : List b9} {r : (List Int) × (List b9) × Bool} (h : E5 i01 nv time l l5 l6 = some r) : FnOk prog 101 [.c (.ifc 148 [.ptr 0 0 0] false), .c (int i01), .c (int nv)] (P9 i01 nv time l l5 l6) (fun tt ss => tt = .c (bool r.2.2) ∧ ss = [.one (.cells 3 [[.own 1 0 r.1.length, .map 2, int time]]), .one (prow 3 r.1), .one (pmap 3 vU l5), pool 4 b8 r.2.1]) := by
 refine FnOk.enter (rs := [.t 6]) func101 Z ntmps101 results101 Z ⟨trivial, Y⟩ (by kernel_rfl) Z ?_
 refine AWP.weak ?_
 unfold E5 at h
 refine AWP.q (.u (.v Z Z (.nil (b5 (.q (.u (.j Z Z (.v Z Z (.nil (b5 (.q (.J ?_))))))))))))
 obtain ⟨⟨c63, c64, iv65⟩, ho1, h⟩ := bind_some h
 try dsimp only at h
 refine AWP.loopS ho1 (fun (c60, c61, iv62) => ⟨[(0, .c (.ifc 148 [.ptr 0 0 0] false)), (1, .c (int i01)), (2, .c (int nv)), (7, .c (int iv62))], [.one (.cells 3 [[.own 1 0 c60.length, .map 2, int time]]), .one (prow 3 c60), .one (pmap 3 vU l5), pool 4 b8 c61]⟩) (fun (c63, c64, iv65) e st => e = .exit 0 ∧ Sub (P9 i01 nv time l l5 l6) st ⟨[(1, .c (int i01)), (7, .c (int iv65))], [.one (.cells 3 [[.own 1 0 c63.length, .map 2, int time]]), .one (prow 3 c63), .one (pmap 3 vU l5), pool 4 b8 c64]⟩) ?_ ?_ ?_
 ·try dsimp only
  exact Sub.env ⟨Z, Z, Z, Z, Y⟩
 ·intro s o h
  obtain ⟨c60, c61, iv62⟩ := s
  unfold Q6 at h
  try dsimp only at h ⊢
  refine AWP.J (.q (.u (.j Z Z (S.mul Z Z Z (S.add Z Z Z (.v Z Z (.nil (b5 (.q (.seqJ (⟨[(0, .c (.ifc 148 [.ptr 0 0 0] false)), (1, .c (int i01)), (2, .c (int nv)), (7, .c (int iv62)), (8, .c (int (w64 ((w64 (2 * iv62)) + 1)))), (21, .c (bool ((decide (nv ≤ w64 ((w64 (2 * iv62)) + 1))) || (decide (w64 ((w64 (2 * iv62)) + 1) < 0)))))], [.one (.cells 3 [[.own 1 0 c60.length, .map 2, int time]]), .one (prow 3 c60), .one (pmap 3 vU l5), pool 4 b8 c61]⟩) ?_ ?_))))))))))
  ·rcases bft (decide (nv ≤ w64 ((w64 (2 * iv62)) + 1))) with hb1 | hb1
   ·refine AWP.u (.j Z Z (.j Z Z (.geq Z Z Z (.j Z Z (.B Z Z Z hb1 (.B Z Z Z hb1 (.O Z hb1 Z Z (.nil (b5 ?_)))))))))
    simp only [V9 hb1, or_t hb1, Bool.false_or, Bool.true_or, Bool.false_and, Bool.true_and]
    exact Sub.env ⟨Z, Z, Z, Z, Z, Z, Y⟩
   ·refine AWP.u (.j Z Z (.j Z Z (.geq Z Z Z (.j Z Z (.z Z Z Z hb1 (.j Z Z (.z Z Z Z hb1 (.F Z Z Z (.U Z hb1 Z Z (.nil (b5 ?_)))))))))))
    simp only [Q0 hb1, or_f hb1, Bool.false_or, Bool.true_or, Bool.false_and, Bool.true_and]
    exact Sub.env ⟨Z, Z, Z, Z, Z, Z, Y⟩
  ·refine AWP.ag Z h (fun hc66 h => ?_) (fun hc66 h => ?_)
   ·refine AWP.exit (d9 (U7 Z ?_))
    obtain rfl := oi h
    refine d9 ⟨_, Z, Z, ?_⟩
    exact Sub.env ⟨Z, Z, Y⟩
   ·refine AWP.skip (b5 (.q (.u (.j Z Z (.v Z Z (.nil (b5 ?_)))))))
    obtain ⟨j67, hx68, h⟩ := bind_some h
    refine AWP.seqJ (⟨[(0, .c (.ifc 148 [.ptr 0 0 0] false)), (1, .c (int i01)), (2, .c (int nv)), (7, .c (int iv62)), (9, .c (int j67))], [.one (.cells 3 [[.own 1 0 c60.length, .map 2, int time]]), .one (prow 3 c60), .one (pmap 3 vU l5), pool 4 b8 c61]⟩) ?_ ?_
    ·refine AWP.q (.u (.j Z Z (S.add Z Z Z (.v Z Z (.nil (b5 ?_))))))
     obtain ⟨t69, hx70, hx68⟩ := bind_some hx68
     refine AWP.seqJ (⟨[(0, .c (.ifc 148 [.ptr 0 0 0] false)), (1, .c (int i01)), (2, .c (int nv)), (7, .c (int iv62)), (9, .c (int (w64 ((w64 (2 * iv62)) + 1)))), (10, .c (int (w64 ((w64 ((w64 (2 * iv62)) + 1)) + 1)))), (33, .c (bool t69))], [.one (.cells 3 [[.own 1 0 c60.length, .map 2, int time]]), .one (prow 3 c60), .one (pmap 3 vU l5), pool 4 b8 c61]⟩) ?_ ?_
     ·rcases bft (decide (w64 ((w64 ((w64 (2 * iv62)) + 1)) + 1) < nv)) with hb71 | hb71
      ·replace hx70 := I8 hb71 hx70
       obtain ⟨a32, ha32, hx70⟩ := bind_some hx70
       refine AWP.u (.j Z Z (.j Z Z (.F Z Z Z (.j Z Z (.z Z Z Z hb71 (.j Z Z (.z Z Z Z hb71 (.j Z Z (.z Z Z Z hb71 (.j Z Z (.z Z Z Z hb71 (S.invokeV (r2 := .c (bool a32)) (σ'' := [.one (.cells 3 [[.own 1 0 c60.length, .map 2, int time]]), .one (prow 3 c60), .one (pmap 3 vU l5), pool 4 b8 c61]) Z Z Z Z Z Z Z (FnOk.lend [1, 3] (w5 ha32) Z Z Z Z Z Z (by exact ⟨(.one (i4 Z)), (.any l8), Y⟩) Z (by exact ⟨(.live Z (.one (f8 fun _ => Z))), (.live Z RenE.pool), Y⟩) Z Z (by exact ⟨(.old Z Z Z), (.new 0 Z Z (.one (f8 fun _ => Z))), (.old Z Z Z), (.new 1 Z Z RenE.pool), Y⟩)) (.O Z hb71 Z Z (.nil ?_))))))))))))))
       obtain rfl := oi hx70
       refine b5 (Sub.env ⟨Z, Z, Z, Z, Z, Z, Z, Y⟩)
      ·replace hx70 := J1 hb71 hx70
       refine AWP.u (.j Z Z (.j Z Z (.F Z Z Z (.j Z Z (.B Z Z Z hb71 (.B Z Z Z hb71 (.B Z Z Z hb71 (.B Z Z Z hb71 (.U Z hb71 Z Z (.nil ?_))))))))))
       obtain rfl := oi hx70
       refine b5 (Sub.env ⟨Z, Z, Z, Z, Z, Z, Z, Y⟩)
     ·refine AWP.ag Z hx68 (fun hc72 hx68 => ?_) (fun hc72 hx68 => ?_)
      ·refine AWP.u (.j Z Z (.v Z Z (.nil ?_)))
       obtain rfl := oi hx68
       refine b5 (Sub.env ⟨Z, Z, Z, Z, Z, Y⟩)
      ·refine AWP.skip ?_
       obtain rfl := oi hx68
       refine b5 (Sub.env ⟨Z, Z, Z, Z, Z, Y⟩)
    ·refine AWP.q (.q ?_)
     obtain ⟨a38, ha38, h⟩ := bind_some h
     refine AWP.u (.j Z Z (.j Z Z (.j Z Z (S.invokeV (r2 := .c (bool a38)) (σ'' := [.one (.cells 3 [[.own 1 0 c60.length, .map 2, int time]]), .one (prow 3 c60), .one (pmap 3 vU l5), pool 4 b8 c61]) Z Z Z Z Z Z Z (FnOk.lend [1, 3] (X0 ha38) Z Z Z Z Z Z (by exact ⟨(.one (i4 Z)), (.any l8), Y⟩) Z (by exact ⟨(.live Z (.one (f8 fun _ => Z))), (.live Z RenE.pool), Y⟩) Z Z (by exact ⟨(.old Z Z Z), (.new 0 Z Z (.one (f8 fun _ => Z))), (.old Z Z Z), (.new 1 Z Z RenE.pool), Y⟩)) (.not Z Z (.nil (b5 (.ag Z h (fun hc73 h => ?_) (fun hc73 h => ?_)))))))))
     ·refine AWP.exit (d9 (U7 Z ?_))
      obtain rfl := oi h
      refine d9 ⟨_, Z, Z, ?_⟩
      exact Sub.env ⟨Z, Z, Y⟩
     ·refine AWP.skip (b5 (.q ?_))
      obtain ⟨a43, ha43, u74, hu74, h⟩ := b2 h
      refine AWP.u (.j Z Z (.j Z Z (.j Z Z (S.invokeV (r2 := .tup []) (σ'' := [.one (.cells 3 [[.own 1 0 c60.length, .map 2, int time]]), .one (prow 3 a43.1), .one (pmap 3 vU l5), pool 4 b8 a43.2]) Z Z Z Z Z Z Z (FnOk.lend [1, 3] (I7 ha43) Z Z Z Z Z Z (by exact ⟨(.one (i4 Z)), (.any l8), Y⟩) Z (by exact ⟨(.live Z (.one (f8 fun _ => Z))), (.live Z RenE.pool), Y⟩) Z Z (by exact ⟨(.old Z Z Z), (.new 0 Z Z (.one (f8 fun _ => Z))), (.old Z Z Z), (.new 1 Z Z RenE.pool), Y⟩)) (.nil (b5 (.u (.j Z Z (.v Z Z (.nil (e7 ?_)))))))))))
      obtain rfl := oi h
      refine b5 ⟨_, Z, ?_⟩
      exact Sub.cut ⟨Z, Z, Z, Z, Y⟩ Z ⟨(.eq Z (by first | rfl | rw [(ae9 hu74)] | (simp only [List.length_set]; done))), (.one (i4 Z)), (.one (j5 Z)), (.any l8), Y⟩ Z
 ·intro e s hq
  obtain ⟨rfl, hs⟩ := hq
  refine ⟨_, hs, ?_⟩
  refine k6 (b5 (.q (.u (.j Z Z (.j Z Z (.gtr Z Z Z (.v Z Z (.nil (b5 (.ret ?_))))))))))
  obtain rfl := oi h
  exact ⟨⟨[(6, .c (bool (decide (i01 < iv65))))], [.one (.cells 3 [[.own 1 0 c63.length, .map 2, int time]]), .one (prow 3 c63), .one (pmap 3 vU l5), pool 4 b8 c64]⟩, Sub.env ⟨Z, Y⟩, Done.ret Z ⟨Z, Z⟩⟩
theorem Y2 {time : Int} {l : List Int} {l3 : List (Int × Int)} {l4 : List b9} {r : (List Int) × Int} (h : y9 time l l3 l4 = some r) : FnOk prog 173 [.c (.ptr 0 0 0)] (Y6 time l l3 l4) (fun tt ss => tt = .c (.ifc 143 [.ptr (3, [r.2.toNat]) 0 0] false) ∧ ss = [.one (.cells 3 [[.own 5 0 r.1.length, .map 2, int time]]), .dead, .one (pmap 3 vU l3), pool 4 b8 l4, .dead, .one (prow 3 r.1)]) := by
 refine FnOk.enter (rs := [.t 2]) func173 Z ntmps173 results173 Z ⟨trivial, Y⟩ (by kernel_rfl) Z ?_
 refine AWP.weak ?_
 unfold y9 at h
 refine AWP.j (env' := [(0, .c (.ptr 0 0 0))]) (σ' := [.one (.cells 3 [[.own 4 0 l.length, .map 2, int time]]), .dead, .one (pmap 3 vU l3), pool 4 b8 l4, .one (prow 3 l)]) 4 1 Z Z Z ⟨Z, Y⟩ Z ⟨⟨Z, Z⟩, trivial, ⟨j5 Z, u6 Z I1⟩, (p9.pool Z), ⟨i4 Z, u6 Z I2⟩, Y⟩ (.q (.u (.v Z Z (.nil (b5 (.q (.u (.j Z Z (.ac Z Z Z (.E Z Z Z Z Z Z (.v Z Z (.nil (b5 (.q ?_))))))))))))))
 obtain ⟨a12, ha12, h⟩ := bind_some h
 refine AWP.u (.j Z Z (.j Z Z (.lenOwnB Z Z Z (fun hl10 => .sub' Z Z Z (by omega) (S.idxPb Z Z Z (by simpa only [List.length_set] using n4 ha12) Z Z (S.loadP ha12 Z Z Z Z (.v Z Z (.nil (b5 (.q ?_))))))))))
 obtain ⟨a19, ha19, h⟩ := bind_some h
 refine AWP.u (.j Z Z (.j Z Z (.j Z Z (.lenOwnB Z Z Z (fun hl17 => .sub' Z Z Z (by omega) (S.shrinkP ha19 Z Z Z Z Z (.sub (Sub.reownP (env' := [(0, .c (.ptr 0 0 0)), (2, .c (.imm (.val .nilIface))), (4, .c (.ptr (3, [a12.toNat]) 0 0)), (5, .c (.ptr 0 0 0)), (6, .c (.ptr 0 0 0)), (10, .c (int (l.length : Int))), (11, .c (int ((l.length : Int) - 1))), (13, .c (.ptr (3, [a12.toNat]) 0 0)), (14, .c (.ptr 0 0 0)), (17, .c (int (l.length : Int))), (18, .c (int ((l.length : Int) - 1))), (19, .c (.own 5 0 a19.length))]) 19 ha19 Z Z Z Z Z Z Z (by exact ⟨.inr Z, .inr Z, .inr Z, .inr Z, .inr Z, .inr Z, .inr Z, .inr Z, .inr Z, .inr Z, .inr Z, .inl ⟨Z, Z⟩, Y⟩)) (.ac Z Z Z (W.store Z Z Z Z Z (.nil (b5 (.q (.u (.j Z Z (S.mkIfc Z Z Z (.v Z Z (.nil (b5 (.ret ?_)))))))))))))))))))
 obtain rfl := oi h
 exact ⟨⟨[(2, .c (.ifc 143 [.ptr (3, [a12.toNat]) 0 0] false))], [.one (.cells 3 [[.own 5 0 a19.length, .map 2, int time]]), .dead, .one (pmap 3 vU l3), pool 4 b8 l4, .dead, .one (prow 3 a19)]⟩, Sub.env ⟨Z, Y⟩, Done.ret Z ⟨Z, Z⟩⟩
theorem ah9 {time : Int} {l : List Int} {l3 : List (Int × Int)} {l4 : List b9} {r : (List b9) × (List Int) × Int} (h : C8 time l l3 l4 = some r) : FnOk prog 81 [.c (.ifc 148 [.ptr 0 0 0] false)] (ah6 time l l3 l4) (fun tt ss => tt = .c (.ifc 143 [.ptr (3, [r.2.2.toNat]) 0 0] false) ∧ ss = [.one (.cells 3 [[.own 5 0 r.2.1.length, .map 2, int time]]), .dead, .one (pmap 3 vU l3), pool 4 b8 r.1, .dead, .one (prow 3 r.2.1)]) := by
 refine FnOk.enter (rs := [.t 2]) func81 Z ntmps81 results81 Z ⟨trivial, Y⟩ (by kernel_rfl) Z ?_
 refine AWP.weak ?_
 unfold C8 at h
 refine AWP.q (.u (.v Z Z (.nil (b5 (.q ?_)))))
 obtain ⟨a5, ha5, h⟩ := bind_some h
 refine AWP.u (.j Z Z (S.invokeV (r2 := .c (int (l.length : Int))) (σ'' := [.one (.cells 3 [[.own 1 0 l.length, .map 2, int time]]), .one (prow 3 l), .one (pmap 3 vU l3), pool 4 b8 l4]) Z Z Z Z Z Z Z (FnOk.lend [1, 3] (C3 ha5) Z Z Z Z Z Z (by exact ⟨(.one (i4 Z)), (.any l8), Y⟩) Z (by exact ⟨(.live Z (.one (f8 fun _ => Z))), (.live Z RenE.pool), Y⟩) Z Z (by exact ⟨(.old Z Z Z), (.new 0 Z Z (.one (f8 fun _ => Z))), (.old Z Z Z), (.new 1 Z Z RenE.pool), Y⟩)) (S.sub Z Z Z (.v Z Z (.nil (b5 (.q ?_)))))))
 obtain ⟨a9, ha9, u58, hu58, h⟩ := b2 h
 refine AWP.u (.j Z Z (.j Z Z (S.invokeV (r2 := .tup []) (σ'' := [.one (.cells 3 [[.own 1 0 l.length, .map 2, int time]]), .one (prow 3 a9.1), .one (pmap 3 vU l3), pool 4 b8 a9.2]) Z Z Z Z Z Z Z (FnOk.lend [1, 3] (I7 ha9) Z Z Z Z Z Z (by exact ⟨(.one (i4 Z)), (.any l8), Y⟩) Z (by exact ⟨(.live Z (.one (f8 fun _ => Z))), (.live Z RenE.pool), Y⟩) Z Z (by exact ⟨(.old Z Z Z), (.new 0 Z Z (.one (f8 fun _ => Z))), (.old Z Z Z), (.new 1 Z Z RenE.pool), Y⟩)) (.nil (b5 (.q ?_))))))
 obtain ⟨a12, ha12, h⟩ := bind_some h
 refine AWP.u (.j Z Z (.j Z Z (.sub (s' := ⟨[(0, .c (.ifc 148 [.ptr 0 0 0] false)), (2, .c (.imm (.val .nilIface))), (3, .c (int (w64 ((l.length : Int) - 1)))), (4, .c (.ifc 148 [.ptr 0 0 0] false)), (5, .c (int (l.length : Int))), (6, .c (int (w64 ((l.length : Int) - 1)))), (7, .c (.ifc 148 [.ptr 0 0 0] false)), (8, .c (int (w64 ((l.length : Int) - 1)))), (9, .tup []), (10, .c (.ifc 148 [.ptr 0 0 0] false)), (11, .c (int (w64 ((l.length : Int) - 1))))], [.one (.cells 3 [[.own 1 0 a9.1.length, .map 2, int time]]), .one (prow 3 a9.1), .one (pmap 3 vU l3), pool 4 b8 a9.2]⟩) (Sub.cut ⟨Z, Z, Z, Z, Z, Z, Z, Z, Z, Z, Z, Y⟩ Z ⟨(.eq Z (by rw [(ae9 hu58)])), (.one (i4 Z)), (.one (j5 Z)), (.any l8), Y⟩ Z) (.callF (r2 := .c (bool a12.2.2)) (σ'' := [.one (.cells 3 [[.own 1 0 a12.1.length, .map 2, int time]]), .one (prow 3 a12.1), .one (pmap 3 vU l3), pool 4 b8 a12.2.1]) Z Z Z (FnOk.lend [0, 1, 2, 3] (af3 ha12) Z Z Z Z Z Z (by exact ⟨(.one Z), (.one (i4 Z)), (.one (j5 Z)), (.any l8), Y⟩) Z (by exact ⟨(.live Z (.one Z)), (.live Z (.one (f8 fun _ => Z))), (.live Z (.one (k7 fun _ => Z))), (.live Z RenE.pool), Y⟩) Z Z (by exact ⟨(.new 0 Z Z (.one Z)), (.new 1 Z Z (.one (f8 fun _ => Z))), (.new 2 Z Z (.one (k7 fun _ => Z))), (.new 3 Z Z RenE.pool), Y⟩)) (.nil (b5 (.q ?_)))))))
 obtain ⟨a14, ha14, h⟩ := bind_some h
 refine AWP.u (.j Z Z (S.invokeP (r2 := .c (.ifc 143 [.ptr (3, [a14.2.toNat]) 0 0] false)) (σ'' := [.one (.cells 3 [[.own 5 0 a14.1.length, .map 2, int time]]), .dead, .one (pmap 3 vU l3), pool 4 b8 a12.2.1, .dead, .one (prow 3 a14.1)]) Z Z Z (FnOk.lend [0, 1, 2, 3] (Y2 ha14) Z Z Z Z Z Z (by exact ⟨(.one Z), (.one (i4 Z)), (.one (j5 Z)), (.any l8), Y⟩) Z (by exact ⟨(.live Z (.one Z)), (.live Z (.one (f8 fun _ => Z))), (.live Z (.one (k7 fun _ => Z))), (.live Z RenE.pool), Y⟩) Z Z (by exact ⟨(.new 0 Z Z (.one Z)), .dead, (.new 2 Z Z (.one (k7 fun _ => Z))), (.new 3 Z Z RenE.pool), .dead, (.new 5 Z Z (.one (f8 fun _ => Z))), Y⟩)) (.v Z Z (.nil (b5 (.ret ?_))))))
 obtain rfl := oi h
 exact ⟨⟨[(2, .c (.ifc 143 [.ptr (3, [a14.2.toNat]) 0 0] false))], [.one (.cells 3 [[.own 5 0 a14.1.length, .map 2, int time]]), .dead, .one (pmap 3 vU l3), pool 4 b8 a12.2.1, .dead, .one (prow 3 a14.1)]⟩, Sub.env ⟨Z, Y⟩, Done.ret Z ⟨Z, Z⟩⟩
theorem W1 {time : Int} {l : List Int} {l3 : List (Int × Int)} {l4 : List b9} {r : (List (Int × Int)) × (List b9) × (List Int) × Int × Int × Bool} (h : s8 time l l3 l4 = some r) : FnOk prog 65 [.c (.ptr 0 0 0)] (W7 time l l3 l4) (fun tt ss => tt = .tup [.c (.imm (.val (.int .u32 r.2.2.2.1))), .c (int r.2.2.2.2.1), .c (bool r.2.2.2.2.2)] ∧ ss = [.one (.cells 3 [[.own 4 0 r.2.2.1.length, .map 2, int time]]), .dead, .one (pmap 3 vU r.1), pool 4 b8 r.2.1, .one (prow 3 r.2.2.1)]) := by
 refine FnOk.enter (rs := [.t 2, .t 3, .t 4]) func65 Z ntmps65 results65 Z ⟨trivial, trivial, trivial, Y⟩ (by kernel_rfl) Z ?_
 refine AWP.weak ?_
 unfold s8 at h
 refine AWP.j (env' := [(0, .c (.ptr 0 0 0))]) (σ' := [.one (.cells 3 [[.own 4 0 l.length, .map 2, int time]]), .dead, .one (pmap 3 vU l3), pool 4 b8 l4, .one (prow 3 l)]) 4 1 Z Z Z ⟨Z, Y⟩ Z ⟨⟨Z, Z⟩, trivial, ⟨j5 Z, u6 Z I1⟩, (p9.pool Z), ⟨i4 Z, u6 Z I2⟩, Y⟩ (.q (.u (.v Z Z (.v Z Z (.v Z Z (.nil (b5 (.q (.q (.u (.j Z Z (.ac Z Z Z (W.fieldAddr Z Z Z Z (.E Z Z Z Z Z Z (.lenOwnB Z Z Z (fun hl10 => .eql Z Z Z (.nil (b5 (.ite Z h (fun hc61 h => ?_) (fun hc61 h => ?_))))))))))))))))))))
 ·refine AWP.q (.u (.j Z Z (.v Z Z (.v Z Z (.v Z Z (.nil (b5 (.ret (e8 ?_)))))))))
  obtain rfl := oi h
  exact ⟨⟨[(2, .c (.imm (.val (.int .u32 0)))), (3, .c (int 0)), (4, .c (bool false))], [.one (.cells 3 [[.own 4 0 l.length, .map 2, int time]]), .dead, .one (pmap 3 vU l3), pool 4 b8 l4, .one (prow 3 l)]⟩, Sub.env ⟨Z, Z, Z, Y⟩, Done.ret Z ⟨Z, Z⟩⟩
 ·refine AWP.skip (b5 (.q ?_))
  obtain ⟨a17, ha17, h⟩ := bind_some h
  refine AWP.u (.j Z Z (.ac Z Z Z (W.fieldAddr Z Z Z Z (S.mkIfc Z Z Z (.callF (r2 := .c (.ifc 143 [.ptr (3, [a17.2.2.toNat]) 0 0] false)) (σ'' := [.one (.cells 3 [[.own 6 0 a17.2.1.length, .map 2, int time]]), .dead, .one (pmap 3 vU l3), pool 4 b8 a17.1, .dead, .dead, .one (prow 3 a17.2.1)]) Z Z Z (FnOk.lend [0, 4, 2, 3] (ah9 ha17) Z Z Z Z Z Z (by exact ⟨(.one Z), (.one (i4 Z)), (.one (j5 Z)), (.any l8), Y⟩) Z (by exact ⟨(.live Z (.one Z)), (.live Z (.one (f8 fun _ => Z))), (.live Z (.one (k7 fun _ => Z))), (.live Z RenE.pool), Y⟩) Z Z (by exact ⟨(.new 0 Z Z (.one Z)), .dead, (.new 2 Z Z (.one (k7 fun _ => Z))), (.new 3 Z Z RenE.pool), .dead, .dead, (.new 5 Z Z (.one (f8 fun _ => Z))), Y⟩)) (S.assert Z Z Z (.v Z Z (.nil (b5 (.q ?_))))))))))
  obtain ⟨en62, hen62, h⟩ := bind_some h
  refine AWP.drawEI [8] mixed Z Z Z ?_
  refine d5.consN Z Z (fun E => AOps.j Z Z .N) Z (.consN Z Z (fun E => AOps.ac Z Z Z .N) Z (.consN Z Z (fun E => W.fieldAddr Z Z Z Z .N) Z (.consN Z Z (fun E => AOps.E Z Z Z Z Z Z .N) Z (.consN Z Z (fun E => AOps.j Z Z .N) Z (.consN Z Z (fun E => S.nilCheckE Z Z (by simpa only [List.length_set] using e9 hen62) Z .N) Z (.consN Z Z (fun E => S.fieldE Z Z Z (by simpa only [List.length_set] using e9 hen62) Z .N) Z (.consN Z Z (fun E => AOps.E Z Z (n7 Z hen62) Z Z Z .N) Z ?_)))))))
  apply d5.consE (v := .undef); exact Z; exact Z; intro E
  refine S.deleteP (fk := vU) (k := en62.item) E3 Z Z Z Z Z .N
  exact Z
  exact Z
  refine d5.done Z ?_ ?_
  ·refine c9.cons Z Z ?_ ?_
   refine b7.go Z Z (fun E => AOps.j Z Z .N) ?_
   refine b7.skip Z (b7.nil)
   refine c9.cons Z Z ?_ ?_
   refine b7.go Z Z (fun E => AOps.ac Z Z Z .N) ?_
   refine b7.skip Z (b7.nil)
   refine c9.cons Z Z ?_ ?_
   refine b7.go Z Z (fun E => W.fieldAddr Z Z Z Z .N) ?_
   refine b7.skip Z (b7.nil)
   refine c9.cons Z Z ?_ ?_
   refine b7.go Z Z (fun E => AOps.E Z Z Z Z Z Z .N) ?_
   refine b7.skip Z (b7.nil)
   refine c9.cons Z Z ?_ ?_
   refine b7.go Z Z (fun E => AOps.j Z Z .N) ?_
   refine b7.skip Z (b7.nil)
   refine c9.cons Z Z ?_ ?_
   refine b7.go Z Z (fun E => S.nilCheckE Z Z (by simpa only [List.length_set] using e9 hen62) Z .N) ?_
   refine b7.skip Z (b7.nil)
   refine c9.cons Z Z ?_ ?_
   refine b7.go Z Z (fun E => S.fieldE Z Z Z (by simpa only [List.length_set] using e9 hen62) Z .N) ?_
   refine b7.skip Z (b7.nil)
   refine c9.cons Z Z ?_ ?_
   refine b7.go Z Z (fun E => AOps.E Z Z (n7 Z hen62) Z Z Z .N) ?_
   refine b7.skip Z (b7.nil)
   refine c9.skip Z (c9.nil)
  dsimp only [j8]
  refine b5 (.q (.drawI mixed Z ?_))
  refine i9.consF Z (fun E => AOps.j Z Z .N) Z (.consF Z (fun E => S.nilCheckE Z Z (by simpa only [List.length_set] using e9 hen62) Z .N) Z (.consF Z (fun E => S.fieldE Z Z Z (by simpa only [List.length_set] using e9 hen62) Z .N) Z (.consF Z (fun E => AOps.E Z Z (n7 Z hen62) Z Z Z .N) Z (.consF Z (fun E => AOps.j Z Z .N) Z (.consF Z (fun E => S.nilCheckE Z Z (by simpa only [List.length_set] using e9 hen62) Z .N) Z (.consF Z (fun E => S.fieldE Z Z Z (by simpa only [List.length_set] using e9 hen62) Z .N) Z (.consF Z (fun E => AOps.E Z Z (n7 Z hen62) Z Z Z .N) Z (.consF Z (fun E => AOps.v Z Z .N) Z (.consF Z (fun E => AOps.v Z Z .N) Z (.consF Z (fun E => AOps.v Z Z .N) Z ?_))))))))))
  refine i9.done ?_
  dsimp only [j8]
  refine b5 (.ret ?_)
  obtain rfl := oi h
  exact ⟨⟨[(2, .c (.imm (.val (.int .u32 en62.item)))), (3, .c (int en62.key)), (4, .c (bool true))], [.one (.cells 3 [[.own 4 0 a17.2.1.length, .map 2, int time]]), .dead, .one (pmap 3 vU (mdel l3 en62.item)), pool 4 b8 a17.1, .one (prow 3 a17.2.1)]⟩, (Sub.move (env' := [(2, .c (.imm (.val (.int .u32 en62.item)))), (3, .c (int en62.key)), (4, .c (bool true))]) (σ' := [.one (.cells 3 [[.own 4 0 a17.2.1.length, .map 2, int time]]), .dead, .one (pmap 3 vU (mdel l3 en62.item)), pool 4 b8 a17.1, .one (prow 3 a17.2.1), .dead]) 4 6 Z Z Z ⟨Z, Z, Z, Y⟩ Z ⟨⟨Z, Z⟩, trivial, ⟨j5 Z, u6 Z I1⟩, (p9.pool Z), ⟨i4 Z, u6 Z I2⟩, trivial, Y⟩).trans (Sub.cut ⟨Z, Z, Z, Y⟩ Z ⟨.one Z, .dead, (.one (j5 Z)), (.any l8), (.one (i4 Z)), Y⟩ Z), Done.ret Z ⟨Z, Z⟩⟩
theorem Y3 {item : Int} {key : Int} {time : Int} {l : List Int} {l5 : List (Int × Int)} {l6 : List b9} {r : (List (Int × Int)) × (List Int) × (List b9)} (h : y8 item key time l l5 l6 = some r) : FnOk prog 62 [.c (.ptr 0 0 0), .c (.imm (.val (.int .u32 item))), .c (int key)] (Y8 item key time l l5 l6) (fun tt ss => tt = .tup [] ∧ ss = [.one (.cells 3 [[.own 4 0 r.2.1.length, .map 2, int (w64 (time + 1))]]), .dead, .one (pmap 5 vU r.1), .dead, .one (prow 5 r.2.1), pool 4 b8 r.2.2]) := by
 refine FnOk.enter (rs := []) func62 Z ntmps62 results62 Z trivial (by kernel_rfl) Z ?_
 refine AWP.weak ?_
 unfold y8 at h
 refine AWP.j (env' := [(0, .c (.ptr 0 0 0)), (1, .c (.imm (.val (.int .u32 item)))), (2, .c (int key))]) (σ' := [.one (.cells 3 [[.own 4 0 l.length, .map 2, int time]]), .dead, .one (pmap 3 vU l5), pool 4 b8 l6, .one (prow 3 l)]) 4 1 Z Z Z ⟨Z, Z, Z, Y⟩ Z ⟨⟨Z, Z⟩, trivial, ⟨j5 Z, u6 Z I1⟩, (p9.pool Z), ⟨i4 Z, u6 Z I2⟩, Y⟩ (.moveM (env' := [(0, .c (.ptr 0 0 0)), (1, .c (.imm (.val (.int .u32 item)))), (2, .c (int key))]) (σ' := [.one (.cells 3 [[.own 4 0 l.length, .map 2, int time]]), .dead, .one (pmap 5 vU l5), .dead, .one (prow 5 l), pool 4 b8 l6]) 5 3 Z Z Z ⟨Z, Z, Z, Y⟩ Z ⟨(.one Z Z), .dead, (.one (j5 Z) (C9 Z Z (k7 fun _ => Z))), .dead, (.one (i4 Z) (C9 Z Z (f8 fun _ => Z))), (EntR.pool Z Z), Y⟩ ?_)
 refine AWP.q (.u (.j Z Z (.ac Z Z Z (W.fieldAddr Z Z Z Z (.E Z Z Z Z Z Z (S.add Z Z Z (.ac Z Z Z (W.fieldAddr Z Z Z Z (W.store Z Z Z Z Z (.nil (b5 (.q (.q (.u (.j Z Z (.ac Z Z Z (W.fieldAddr Z Z Z Z (.E Z Z Z Z Z Z (.j Z Z (S.lookupOkP (fk := vU) (k := item) E3 Z Z Z Z Z (.j Z Z (.ab Z Z Z (.ab Z Z Z (.v Z Z (.v Z Z (.nil (b5 (.q (.u (.j Z Z (.nil (b5 (.ag Z h (fun hc60 h => ?_) (fun hc60 h => ?_))))))))))))))))))))))))))))))))))
 ·obtain ⟨ap61, hap61, h⟩ := bind_some h
  refine AWP.sub (s' := ⟨[(0, .c (.ptr 0 0 0)), (1, .c (.imm (.val (.int .u32 item)))), (2, .c (int key)), (6, .c (.ptr (5, [ap61.toNat]) 0 0)), (7, .c (bool (Option.isSome (mget l5 item)))), (9, .c (.ptr 0 0 0)), (10, .c (.ptr 0 0 0)), (11, .c (.ptr 0 0 2)), (12, .c (int time)), (13, .c (int (w64 (time + 1)))), (14, .c (.ptr 0 0 0)), (15, .c (.ptr 0 0 2)), (17, .c (.ptr 0 0 0)), (18, .c (.ptr 0 0 0)), (19, .c (.ptr 0 0 1)), (20, .c (.map 2)), (21, .c (.imm (.val (.int .u32 item)))), (23, .c (.ptr (5, [ap61.toNat]) 0 0)), (24, .c (bool (Option.isSome (mget l5 item)))), (25, .c (bool (Option.isSome (mget l5 item))))], [.one (.cells 3 [[.own 4 0 l.length, .map 2, int (w64 (time + 1))]]), .dead, .one (pmap 5 vU l5), .dead, .one (prow 5 l), pool 4 b8 l6]⟩) (Sub.env ⟨Z, Z, Z, (ai6 hap61), Z, Z, Z, Z, Z, Z, Z, Z, Z, Z, Z, Z, Z, (ai6 hap61), Z, Z, Y⟩) (.q ?_)
  obtain ⟨en62, hen62, h⟩ := bind_some h
  refine AWP.u (.j Z Z (.j Z Z (.j Z Z (.j Z Z (.ac Z Z Z (W.fieldAddr Z Z Z Z (.E Z Z Z Z Z Z (S.nilCheckE Z Z (by simpa only [List.length_set] using e9 hen62) Z (S.fieldE Z Z Z (by simpa only [List.length_set] using e9 hen62) Z (S.storeE (e' := (⟨en62.item, key, en62.time, en62.fat⟩ : b9)) hen62 Z Z Z Z Z Z (S.nilCheckE Z Z (by simpa only [List.length_set] using e9 hen62) Z (S.fieldE Z Z Z (by simpa only [List.length_set] using e9 hen62) Z (S.storeE (e' := (⟨en62.item, key, w64 (time + 1), en62.fat⟩ : b9)) (U0 hen62) Z Z Z Z Z Z (.nil (b5 (.q ?_))))))))))))))))
  obtain ⟨a45, ha45, h⟩ := bind_some h
  refine AWP.drawEI [8] mixed Z Z Z ?_
  refine d5.consN Z Z (fun E => AOps.j Z Z .N) Z (.consN Z Z (fun E => AOps.ac Z Z Z .N) Z (.consN Z Z (fun E => W.fieldAddr Z Z Z Z .N) Z (.consN Z Z (fun E => S.mkIfc Z Z Z .N) Z (.consN Z Z (fun E => AOps.j Z Z .N) Z (.consN Z Z (fun E => S.nilCheckE Z Z (by simpa only [List.length_set] using e9 hen62) Z .N) Z (.consN Z Z (fun E => S.fieldE Z Z Z (by simpa only [List.length_set] using e9 hen62) Z .N) Z (.consN Z Z (fun E => AOps.E Z Z (n7 Z (U0 (U0 hen62))) Z Z Z .N) Z ?_)))))))
  apply d5.consE; exact Z; exact Z; intro E
  refine AOps.callF (r2 := .tup []) (σ'' := [.one (.cells 3 [[.own 4 0 a45.1.length, .map 2, int (w64 (time + 1))]]), .dead, .one (pmap 5 vU l5), .dead, .one (prow 5 a45.1), pool 4 b8 a45.2]) Z Z Z (FnOk.lend [0, 4, 2, 5] (T9 ha45) Z Z Z Z Z Z (by exact ⟨(.one Z), (.one (i4 Z)), (.one (j5 Z)), (.any l8), Y⟩) Z (by exact ⟨(.live Z (.one Z)), (.live Z (.one (f8 fun _ => Z))), (.live Z (.one (k7 fun _ => Z))), (.live Z RenE.pool), Y⟩) Z Z (by exact ⟨(.new 0 Z Z (.one Z)), .dead, (.new 2 Z Z (.one (k7 fun _ => Z))), .dead, (.new 1 Z Z (.one (f8 fun _ => Z))), (.new 3 Z Z RenE.pool), Y⟩)) .N
  exact Z
  exact Z
  refine d5.done Z ?_ ?_
  ·refine c9.cons Z Z ?_ ?_
   refine b7.go Z Z (fun E => AOps.j Z Z .N) ?_
   refine b7.skip Z (b7.nil)
   refine c9.cons Z Z ?_ ?_
   refine b7.go Z Z (fun E => AOps.ac Z Z Z .N) ?_
   refine b7.skip Z (b7.nil)
   refine c9.cons Z Z ?_ ?_
   refine b7.go Z Z (fun E => W.fieldAddr Z Z Z Z .N) ?_
   refine b7.skip Z (b7.nil)
   refine c9.cons Z Z ?_ ?_
   refine b7.go Z Z (fun E => S.mkIfc Z Z Z .N) ?_
   refine b7.skip Z (b7.nil)
   refine c9.cons Z Z ?_ ?_
   refine b7.go Z Z (fun E => AOps.j Z Z .N) ?_
   refine b7.skip Z (b7.nil)
   refine c9.cons Z Z ?_ ?_
   refine b7.go Z Z (fun E => S.nilCheckE Z Z (by simpa only [List.length_set] using e9 hen62) Z .N) ?_
   refine b7.skip Z (b7.nil)
   refine c9.cons Z Z ?_ ?_
   refine b7.go Z Z (fun E => S.fieldE Z Z Z (by simpa only [List.length_set] using e9 hen62) Z .N) ?_
   refine b7.skip Z (b7.nil)
   refine c9.cons Z Z ?_ ?_
   refine b7.go Z Z (fun E => AOps.E Z Z (n7 Z (U0 (U0 hen62))) Z Z Z .N) ?_
   refine b7.skip Z (b7.nil)
   refine c9.skip Z (c9.nil)
  dsimp only [j8]
  refine b5 (.ret (e8 ?_))
  obtain rfl := oi h
  exact ⟨⟨[], [.one (.cells 3 [[.own 4 0 a45.1.length, .map 2, int (w64 (time + 1))]]), .dead, .one (pmap 5 vU l5), .dead, .one (prow 5 a45.1), pool 4 b8 a45.2]⟩, Sub.env trivial, Done.ret Z ⟨Z, Z⟩⟩
 ·refine AWP.skip (b5 (.q ?_))
  obtain ⟨u63, hu63, u64, hu64, h⟩ := b2 h
  refine AWP.u (.j Z Z (.j Z Z (.j Z Z (.ac Z Z Z (W.fieldAddr Z Z Z Z (.E Z Z Z Z Z Z (W.build Z Z Z Z (W.box Z Z Z Z Z Z (.sub (Sub.move (env' := [(0, .c (.ptr 0 0 0)), (1, .c (.imm (.val (.int .u32 item)))), (2, .c (int key)), (7, .c (bool (Option.isSome (mget l5 item)))), (9, .c (.ptr 0 0 0)), (10, .c (.ptr 0 0 0)), (11, .c (.ptr 0 0 2)), (12, .c (int time)), (13, .c (int (w64 (time + 1)))), (14, .c (.ptr 0 0 0)), (15, .c (.ptr 0 0 2)), (17, .c (.ptr 0 0 0)), (18, .c (.ptr 0 0 0)), (19, .c (.ptr 0 0 1)), (20, .c (.map 2)), (21, .c (.imm (.val (.int .u32 item)))), (24, .c (bool (Option.isSome (mget l5 item)))), (25, .c (bool (Option.isSome (mget l5 item)))), (46, .c (.imm (.val (.int .u32 item)))), (47, .c (int key)), (48, .c (.ptr 0 0 0)), (49, .c (.ptr 0 0 0)), (50, .c (.ptr 0 0 2)), (51, .c (int (w64 (time + 1)))), (52, .agg [.imm (.val (.int .u32 item)), int key, int (w64 (time + 1)), int 0]), (53, .c (.ptr (5, [(l6.length : Int).toNat]) 0 0))]) (σ' := [.one (.cells 3 [[.own 4 0 l.length, .map 2, int (w64 (time + 1))]]), .dead, .one (pmap 5 vU l5), .dead, .one (prow 5 l), pool 4 b8 (l6 ++ [(⟨item, key, w64 (time + 1), 0⟩ : b9)])]) (5, [l6.length]) (6, []) Z Z Z ⟨Z, Z, Z, Z, Z, Z, Z, Z, Z, Z, Z, Z, Z, Z, Z, Z, Z, Z, Z, Z, Z, Z, Z, Z, Z, ptr_adopt, Y⟩ Z ⟨⟨Z, Z⟩, trivial, ⟨j5 Z, Y0 Z (pmap_adopt hu63) ab9⟩, trivial, ⟨i4 Z, Y0 Z (prow_adopt hu64) ab9⟩, (p9.adopt Z Z), Y⟩) (.v Z Z (.nil (b5 (.q (.u (.j Z Z (.ac Z Z Z (W.fieldAddr Z Z Z Z (.E Z Z Z Z Z Z (.j Z Z (.j Z Z (S.mapUpdateP (fk := vU) (k := item) (a := (l6.length : Int)) E3 Z Z Z Z Z (.nil (b5 ?_)))))))))))))))))))))))
  obtain ⟨a66, ha66, h⟩ := bind_some h
  refine AWP.u (.j Z Z (.ac Z Z Z (W.fieldAddr Z Z Z Z (S.mkIfc Z Z Z (.j Z Z (S.mkIfc Z Z Z (.callF (r2 := .tup []) (σ'' := [.one (.cells 3 [[.own 8 0 a66.2.length, .map 2, int (w64 (time + 1))]]), .dead, .one (pmap 5 vU (mset l5 item (l6.length : Int))), .dead, .dead, pool 4 b8 a66.1, .dead, .dead, .one (prow 5 a66.2)]) Z Z Z (FnOk.lend [0, 5, 4, 2] (S5 ha66) Z Z Z Z Z Z (by exact ⟨(.one Z), (.any l8), (.one (i4 Z)), (.one (j5 Z)), Y⟩) Z (by exact ⟨(.live Z (.one Z)), (.live Z RenE.pool), (.live Z (.one (f8 fun _ => Z))), (.live Z (.one (k7 fun _ => Z))), Y⟩) Z Z (by exact ⟨(.new 0 Z Z (.one Z)), .dead, (.new 3 Z Z (.one (k7 fun _ => Z))), .dead, .dead, (.new 1 Z Z RenE.pool), .dead, .dead, (.new 6 Z Z (.one (f8 fun _ => Z))), Y⟩)) (.nil ?_))))))))
  obtain rfl := oi h
  exact ⟨⟨[], [.one (.cells 3 [[.own 4 0 a66.2.length, .map 2, int (w64 (time + 1))]]), .dead, .one (pmap 5 vU (mset l5 item (l6.length : Int))), .dead, .one (prow 5 a66.2), pool 4 b8 a66.1]⟩, (Sub.move (env' := []) (σ' := [.one (.cells 3 [[.own 4 0 a66.2.length, .map 2, int (w64 (time + 1))]]), .dead, .one (pmap 5 vU (mset l5 item (l6.length : Int))), .dead, .one (prow 5 a66.2), pool 4 b8 a66.1, .dead, .dead]) 4 8 Z Z Z trivial Z ⟨⟨Z, Z⟩, trivial, ⟨j5 Z, u6 Z I1⟩, trivial, ⟨i4 Z, u6 Z I2⟩, (p9.pool Z), trivial, trivial, Y⟩).trans (Sub.cut trivial Z ⟨.one Z, .dead, (.one (j5 Z)), .dead, (.one (i4 Z)), (.any l8), Y⟩ Z), Done.normal Z ⟨Z, Z⟩⟩
end Ab
end
section
namespace Ab
open Go Go.Proofs
open Tryz
set_option maxHeartbeats 4000000
set_option linter.all false
attribute [local irreducible] AWP AOps thn inB Done f7 w6 Sub
theorem ao5 {l : List Int} {start : Int} {goal : Int} {l4 : List i6} {r : (List (Int × Int))} (h : N5 l start goal l4 = some r) : FnOk prog 35 [.c (.ptr 0 0 0), .c (row 1 eU32 l)] (M5 l start goal l4) (fun tt ss => tt = .c (.map 4) ∧ ss = [.one (.cells 3 [(wW start goal 1 l4.length)]), .one (vec 4 d3 l4), .dead, .dead, .one (mapB vU vI r)]) := by
 refine FnOk.enter (rs := [.t 4]) func35 Z ntmps35 results35 Z ⟨trivial, Y⟩ (by kernel_rfl) Z ?_
 refine AWP.weak ?_
 unfold N5 at h
 refine AWP.q (.u (.v Z Z (.nil (b5 (.q (.u (W.makeMapM 2 2 vU i7 Z Z Z (W.alloc Z Z Z Z (W.store Z Z Z Z Z (.nil (b5 (.q (.u (W.makeMap vU vI Z Z Z (.v Z Z (.nil (b5 (.q ?_))))))))))))))))))
 obtain ⟨a18, ha18, h⟩ := bind_some h
 refine AWP.u (.callF (r2 := .c (.ptr 7 0 0)) (σ'' := [.one (.cells 3 [(wW start goal 1 l4.length)]), .one (vec 4 d3 l4), mmap 2 2 vU i7 ([] : List (Int × List r9)), .one (.cells 1 [[.map 2]]), .one (mapB vU vI ([] : List (Int × Int))), .one (pmap 6 vU ([] : List (Int × Int))), pool 4 b8 ([] : List b9), .one (.cells 3 [[.own 8 0 (([] : List Int).length), .map 5, int 0]]), .one (prow 6 ([] : List Int))]) Z Z Z (FnOk.lend [] (ah0 ha18) Z Z Z Z Z Z (by exact trivial) Z (by exact trivial) Z Z (by exact ⟨(.old Z Z Z), (.old Z Z Z), (.old Z Z Z), (.old Z Z Z), (.old Z Z Z), (.new 0 Z Z (.one (k7 fun _ => Z))), (.new 1 Z Z RenE.pool), (.new 2 Z Z (.one Z)), (.new 3 Z Z (.one (f8 fun _ => Z))), Y⟩)) (.v Z Z (.nil (b5 (.q (.q (.u (.j Z Z (S.len Z Z (fun hl20 => .j Z Z (.nil (b5 (.J ?_)))))))))))))
 obtain ⟨⟨c56, c57, c58, c59, c60, c61⟩, ho1, h⟩ := bind_some h
 try dsimp only at h
 refine AWP.forS ho1 (fun t62 (c56, c57, c58, c59, c60, c61) => ⟨[(0, .c (.ptr 0 0 0)), (5, .c (.ptr 3 0 0)), (6, .c (.map 4)), (7, .c (.ptr 7 0 0)), (19, .c (row 1 eU32 l)), (20, .c (int (l.length : Int))), (21, .c (int t62))], [.one (.cells 3 [(wW start goal 1 l4.length)]), .one (vec 4 d3 l4), mmap 2 2 vU i7 c56, .one (.cells 1 [[.map 2]]), .one (mapB vU vI c57), .one (pmap 6 vU c58), pool 4 b8 c59, .one (.cells 3 [[.own 8 0 c61.length, .map 5, int c60]]), .one (prow 6 c61)]⟩) (fun (c56, c57, c58, c59, c60, c61) e st => e = .exit 0 ∧ Sub (M5 l start goal l4) st ⟨[(5, .c (.ptr 3 0 0)), (6, .c (.map 4)), (7, .c (.ptr 7 0 0))], [.one (.cells 3 [(wW start goal 1 l4.length)]), .one (vec 4 d3 l4), mmap 2 2 vU i7 c56, .one (.cells 1 [[.map 2]]), .one (mapB vU vI c57), .one (pmap 6 vU c58), pool 4 b8 c59, .one (.cells 3 [[.own 8 0 c61.length, .map 5, int c60]]), .one (prow 6 c61)]⟩) ?_ ?_ ?_ ?_
 ·try dsimp only
  exact Sub.env ⟨Z, Z, Z, Z, Z, Z, Z, Y⟩
 ·intro t62 s hlot62 hltt62 _
  obtain ⟨c56, c57, c58, c59, c60, c61⟩ := s
  try dsimp only
  refine AWP.q (.u (.F Z Z Z (.nil (b5 (.q (.ad Z hltt62 (.exit (d9 (d9 ⟨Z, ?_⟩)))))))))
  exact Sub.env ⟨Z, Z, Z, Y⟩
 ·intro t62 s o hlot62 hltt62 h
  obtain ⟨c56, c57, c58, c59, c60, c61⟩ := s
  unfold G7 at h
  try dsimp only at h ⊢
  refine AWP.q (.u (.F Z Z Z (.nil (b5 (.q (.ae Z hltt62 (.skip (b5 (.q (.J (.q ?_)))))))))))
  obtain ⟨a23, ha23, h⟩ := bind_some h
  refine AWP.u (S.idx ha23 Z Z Z Z (.af Z Z Z Z (W.alloc Z Z Z Z (W.store Z Z Z Z Z (.nil (b5 (.q (.u (.j Z Z (.E Z Z Z Z Z Z (W.mapUpdate (fk := vU) (fv := vI) (k := a23) (a := 1000000000) E3 Z Z Z Z Z (.nil (b5 ?_)))))))))))))
  obtain ⟨⟨c63, c64, c65, c66, c67⟩, hx68, h⟩ := bind_some h
  refine AWP.seqJ (⟨[(0, .c (.ptr 0 0 0)), (5, .c (.ptr 3 0 0)), (6, .c (.map 4)), (7, .c (.ptr 7 0 0)), (9, .c (.ptr 9 0 0)), (19, .c (row 1 eU32 l)), (20, .c (int (l.length : Int))), (21, .c (int t62))], [.one (.cells 3 [(wW start goal 1 l4.length)]), .one (vec 4 d3 l4), mmap 2 2 vU i7 c56, .one (.cells 1 [[.map 2]]), .one (mapB vU vI c63), .one (pmap 11 vU c64), .dead, .one (.cells 3 [[.own 10 0 c66.length, .map 5, int c65]]), .dead, .one (.cells 1 [[.imm (.val (.int .u32 a23))]]), .one (prow 11 c66), pool 4 b8 c67]⟩) ?_ ?_
  ·refine AWP.q ?_
   obtain ⟨a29, ha29, hx68⟩ := bind_some hx68
   refine AWP.u (.j Z Z (.E Z Z Z Z Z Z (.callF (r2 := .c (bool (decide (Go.bits .and .u32 a23 goal = goal)))) (σ'' := [.one (.cells 3 [(wW start goal 1 l4.length)]), .one (vec 4 d3 l4), mmap 2 2 vU i7 c56, .one (.cells 1 [[.map 2]]), .one (mapB vU vI (mset c57 a23 1000000000)), .one (pmap 6 vU c58), pool 4 b8 c59, .one (.cells 3 [[.own 8 0 c61.length, .map 5, int c60]]), .one (prow 6 c61), .one (.cells 1 [[.imm (.val (.int .u32 a23))]])]) Z Z Z (FnOk.lend [0, 1] (aj9 ha29) Z Z Z Z Z Z (by exact ⟨(.one Z), .vec, Y⟩) Z (by exact ⟨(.live Z (.one Z)), (.live Z .vec), Y⟩) Z Z (by exact ⟨(.new 0 Z Z (.one Z)), (.new 1 Z Z .vec), (.old Z Z Z), (.old Z Z Z), (.old Z Z Z), (.old Z Z Z), (.old Z Z Z), (.old Z Z Z), (.old Z Z Z), (.old Z Z Z), Y⟩)) (.nil (b5 (.ite Z hx68 (fun hc69 hx68 => ?_) (fun hc69 hx68 => ?_)))))))
   ·refine AWP.q (.u (.j Z Z (.E Z Z Z Z Z Z (W.mapUpdate (fk := vU) (fv := vI) (k := a23) (a := 0) E3 Z Z Z Z Z (.nil (b5 ?_))))))
    obtain ⟨a34, ha34, hx68⟩ := bind_some hx68
    refine AWP.u (.j Z Z (.E Z Z Z Z Z Z (.callF (r2 := .tup []) (σ'' := [.one (.cells 3 [(wW start goal 1 l4.length)]), .one (vec 4 d3 l4), mmap 2 2 vU i7 c56, .one (.cells 1 [[.map 2]]), .one (mapB vU vI (mset (mset c57 a23 1000000000) a23 0)), .one (pmap 11 vU a34.1), .dead, .one (.cells 3 [[.own 10 0 a34.2.1.length, .map 5, int (w64 (c60 + 1))]]), .dead, .one (.cells 1 [[.imm (.val (.int .u32 a23))]]), .one (prow 11 a34.2.1), pool 4 b8 a34.2.2]) Z Z Z (FnOk.lend [7, 8, 5, 6] (Y7 ha34) Z Z Z Z Z Z (by exact ⟨(.one Z), (.one (i4 Z)), (.one (j5 Z)), (.any l8), Y⟩) Z (by exact ⟨(.live Z (.one Z)), (.live Z (.one (f8 fun _ => Z))), (.live Z (.one (k7 fun _ => Z))), (.live Z RenE.pool), Y⟩) Z Z (by exact ⟨(.old Z Z Z), (.old Z Z Z), (.old Z Z Z), (.old Z Z Z), (.old Z Z Z), (.new 2 Z Z (.one (k7 fun _ => Z))), .dead, (.new 0 Z Z (.one Z)), .dead, (.old Z Z Z), (.new 4 Z Z (.one (f8 fun _ => Z))), (.new 5 Z Z RenE.pool), Y⟩)) (.nil ?_))))
    have ej := Option.some.inj hx68
    simp only [Prod.mk.injEq] at ej
    obtain ⟨ej0, ej1, ej2, ej3, ej4⟩ := ej
    subst ej0
    subst ej1
    subst ej2
    subst ej3
    subst ej4
    refine b5 (Sub.env ⟨Z, Z, Z, Z, Z, Z, Z, Z, Y⟩)
   ·refine AWP.skip ?_
    have ej := Option.some.inj hx68
    simp only [Prod.mk.injEq] at ej
    obtain ⟨ej0, ej1, ej2, ej3, ej4⟩ := ej
    subst ej0
    subst ej1
    subst ej2
    subst ej3
    subst ej4
    refine b5 ((Sub.move (env' := [(0, .c (.ptr 0 0 0)), (5, .c (.ptr 3 0 0)), (6, .c (.map 4)), (7, .c (.ptr 7 0 0)), (9, .c (.ptr 9 0 0)), (19, .c (row 1 eU32 l)), (20, .c (int (l.length : Int))), (21, .c (int t62))]) (σ' := [.one (.cells 3 [(wW start goal 1 l4.length)]), .one (vec 4 d3 l4), mmap 2 2 vU i7 c56, .one (.cells 1 [[.map 2]]), .one (mapB vU vI (mset c57 a23 1000000000)), .one (pmap 6 vU c58), pool 4 b8 c59, .one (.cells 3 [[.own 10 0 c61.length, .map 5, int c60]]), .dead, .one (.cells 1 [[.imm (.val (.int .u32 a23))]]), .one (prow 6 c61)]) 10 8 Z Z Z ⟨Z, Z, Z, Z, Z, Z, Z, Z, Y⟩ Z ⟨⟨Z, Z⟩, ⟨Blk.im_ok _ _ _, i5 Z⟩, (p9.mmap Z Z Z), ⟨Z, Z⟩, ⟨Z, Z⟩, ⟨j5 Z, u6 Z I1⟩, (p9.pool Z), ⟨Z, Z⟩, trivial, ⟨Z, Z⟩, ⟨i4 Z, u6 Z I2⟩, Y⟩).trans ((Sub.moveM (env' := [(0, .c (.ptr 0 0 0)), (5, .c (.ptr 3 0 0)), (6, .c (.map 4)), (7, .c (.ptr 7 0 0)), (9, .c (.ptr 9 0 0)), (19, .c (row 1 eU32 l)), (20, .c (int (l.length : Int))), (21, .c (int t62))]) (σ' := [.one (.cells 3 [(wW start goal 1 l4.length)]), .one (vec 4 d3 l4), mmap 2 2 vU i7 c56, .one (.cells 1 [[.map 2]]), .one (mapB vU vI (mset c57 a23 1000000000)), .one (pmap 11 vU c58), .dead, .one (.cells 3 [[.own 10 0 c61.length, .map 5, int c60]]), .dead, .one (.cells 1 [[.imm (.val (.int .u32 a23))]]), .one (prow 11 c61), pool 4 b8 c59]) 11 6 Z Z Z ⟨Z, Z, Z, Z, Z, Z, Z, Z, Y⟩ Z ⟨(.one Z Z), (.vec Z), (EntR.mmap Z Z Z), (.one Z Z), (.one Z Z), (.one (j5 Z) (C9 Z Z (k7 fun _ => Z))), .dead, (.one Z Z), .dead, (.one Z Z), (.one (i4 Z) (C9 Z Z (f8 fun _ => Z))), (EntR.pool Z Z), Y⟩).trans (Sub.env ⟨Z, Z, Z, Z, Z, Z, Z, Z, Y⟩)))
  ·try dsimp only at h
   refine AWP.q ?_
   obtain ⟨a37, ha37, h⟩ := bind_some h
   refine AWP.u (.j Z Z (.E Z Z Z Z Z Z (.callF (r2 := .c (.fn 80 [.ptr 12 0 0, .ptr 13 0 0])) (σ'' := [.one (.cells 3 [(wW start goal 1 l4.length)]), .one (vec 4 d3 l4), mmap 2 2 vU i7 c56, .one (.cells 1 [[.map 2]]), .one (mapB vU vI c63), .one (pmap 11 vU c64), .dead, .one (.cells 3 [[.own 10 0 c66.length, .map 5, int c65]]), .dead, .one (.cells 1 [[.imm (.val (.int .u32 a23))]]), .one (prow 11 c66), pool 4 b8 c67, .one (.cells 1 [[.ptr 0 0 0]]), .one (.cells 1 [[.imm (.val (.int .u32 a23))]])]) Z Z Z (FnOk.lend [0, 1] (U3 ha37) Z Z Z Z Z Z (by exact ⟨(.one Z), .vec, Y⟩) Z (by exact ⟨(.live Z (.one Z)), (.live Z .vec), Y⟩) Z Z (by exact ⟨(.new 0 Z Z (.one Z)), (.new 1 Z Z .vec), (.old Z Z Z), (.old Z Z Z), (.old Z Z Z), (.old Z Z Z), .dead, (.old Z Z Z), .dead, (.old Z Z Z), (.old Z Z Z), (.old Z Z Z), (.new 2 Z Z (.one Z)), (.new 3 Z Z (.one Z)), Y⟩)) (.nil (b5 (.J ?_))))))
   obtain ⟨c71, hr70, h⟩ := bind_some h
   refine AWP.rangeB [(5, none), (9, none)] Z Z Z (fun as70 bo70 hA70 hB70 => ⟨[.one (.cells 3 [(wW start goal 1 l4.length)]), .one (vec 4 d3 l4), mmap 2 2 vU i7 c56, .one (.cells 1 [[.map 2]]), .one (mapB vU vI c63), .one (pmap 11 vU c64), .dead, .one (.cells 3 [[.own 10 0 c66.length, .map 5, int c65]]), .dead, .one (.cells 1 [[.imm (.val (.int .u32 a23))]]), .one (prow 11 c66), pool 4 b8 c67, .one (.cells 1 [[.ptr 0 0 0]]), .one (.cells 1 [[.imm (.val (.int .u32 a23))]]), .one (j6 96 [38] as70 bo70 .ready none [(5, none), (9, none)] [.ptr 3 0 0, .ptr 9 0 0])], fun tt ss => tt = .tup [] ∧ ss = [.one (.cells 3 [(wW start goal 1 l4.length)]), .one (vec 4 d3 l4), .dead, .one (.cells 1 [[.map 15]]), .one (mapB vU vI c63), .one (pmap 11 vU c64), .dead, .one (.cells 3 [[.own 10 0 c66.length, .map 5, int c65]]), .dead, .one (.cells 1 [[.imm (.val (.int .u32 a23))]]), .one (prow 11 c66), pool 4 b8 c67, .one (.cells 1 [[.ptr 0 0 0]]), .one (.cells 1 [[.imm (.val (.int .u32 a23))]]), .one (j6 96 [38] as70 bo70 .ready none [(5, none), (9, none)] [.ptr 3 0 0, .ptr 9 0 0]), mmap 15 2 vU i7 c71], Z, ?_, ?_⟩)
   ·refine FnOk.enter (rs := []) func80 Z ntmps80 results80 Z trivial (by kernel_rfl) Z ?_
    refine AWP.weak ?_
    unfold M7 at hr70
    try dsimp only at hr70
    refine AWP.moveM (env' := [(0, .c (.yld 14)), (1, .c (.ptr 12 0 0)), (2, .c (.ptr 13 0 0))]) (σ' := [.one (.cells 3 [(wW start goal 1 l4.length)]), .one (vec 4 d3 l4), .dead, .one (.cells 1 [[.map 15]]), .one (mapB vU vI c63), .one (pmap 11 vU c64), .dead, .one (.cells 3 [[.own 10 0 c66.length, .map 5, int c65]]), .dead, .one (.cells 1 [[.imm (.val (.int .u32 a23))]]), .one (prow 11 c66), pool 4 b8 c67, .one (.cells 1 [[.ptr 0 0 0]]), .one (.cells 1 [[.imm (.val (.int .u32 a23))]]), .one (j6 96 [38] as70 bo70 .ready none [(5, none), (9, none)] [.ptr 3 0 0, .ptr 9 0 0]), mmap 15 2 vU i7 c56]) 15 2 Z Z Z ⟨Z, Z, Z, Y⟩ Z ⟨(.one Z Z), (.vec Z), .dead, (.one Z Z), (.one Z Z), (.one (j5 Z) (C9 Z Z (k7 fun _ => Z))), .dead, (.one Z Z), .dead, (.one Z Z), (.one (i4 Z) (C9 Z Z (f8 fun _ => Z))), (EntR.pool Z Z), (.one Z Z), (.one Z Z), (.one Z Z), (EntR.mmap Z Z Z), Y⟩ ?_
    refine AWP.q (.u (.E Z Z Z Z Z Z (.ac Z Z Z (W.fieldAddr Z Z Z Z (.E Z Z Z Z Z Z (S.lenO Z Z Z (fun hl10 => .j Z Z (.nil (b5 (.J ?_))))))))))
    obtain ⟨c72, ho2, hr70⟩ := bind_some hr70
    refine AWP.forS ho2 (fun t73 c72 => ⟨[(0, .c (.yld 14)), (2, .c (.ptr 13 0 0)), (9, .c (.own 1 0 l4.length)), (10, .c (int (l4.length : Int))), (11, .c (int t73))], [.one (.cells 3 [(wW start goal 1 l4.length)]), .one (vec 4 d3 l4), .dead, .one (.cells 1 [[.map 15]]), .one (mapB vU vI c63), .one (pmap 11 vU c64), .dead, .one (.cells 3 [[.own 10 0 c66.length, .map 5, int c65]]), .dead, .one (.cells 1 [[.imm (.val (.int .u32 a23))]]), .one (prow 11 c66), pool 4 b8 c67, .one (.cells 1 [[.ptr 0 0 0]]), .one (.cells 1 [[.imm (.val (.int .u32 a23))]]), .one (j6 96 [38] as70 bo70 .ready none [(5, none), (9, none)] [.ptr 3 0 0, .ptr 9 0 0]), mmap 15 2 vU i7 c72]⟩) (fun c72 e st => e = .exit 0 ∧ Sub ([.one (.cells 3 [(wW start goal 1 l4.length)]), .one (vec 4 d3 l4), mmap 2 2 vU i7 c56, .one (.cells 1 [[.map 2]]), .one (mapB vU vI c63), .one (pmap 11 vU c64), .dead, .one (.cells 3 [[.own 10 0 c66.length, .map 5, int c65]]), .dead, .one (.cells 1 [[.imm (.val (.int .u32 a23))]]), .one (prow 11 c66), pool 4 b8 c67, .one (.cells 1 [[.ptr 0 0 0]]), .one (.cells 1 [[.imm (.val (.int .u32 a23))]]), .one (j6 96 [38] as70 bo70 .ready none [(5, none), (9, none)] [.ptr 3 0 0, .ptr 9 0 0])] : b6) st ⟨[], [.one (.cells 3 [(wW start goal 1 l4.length)]), .one (vec 4 d3 l4), .dead, .one (.cells 1 [[.map 15]]), .one (mapB vU vI c63), .one (pmap 11 vU c64), .dead, .one (.cells 3 [[.own 10 0 c66.length, .map 5, int c65]]), .dead, .one (.cells 1 [[.imm (.val (.int .u32 a23))]]), .one (prow 11 c66), pool 4 b8 c67, .one (.cells 1 [[.ptr 0 0 0]]), .one (.cells 1 [[.imm (.val (.int .u32 a23))]]), .one (j6 96 [38] as70 bo70 .ready none [(5, none), (9, none)] [.ptr 3 0 0, .ptr 9 0 0]), mmap 15 2 vU i7 c72]⟩) ?_ ?_ ?_ ?_
    ·try dsimp only
     exact Sub.env ⟨Z, Z, Z, Z, Z, Y⟩
    ·intro t73 c72 hlot73 hltt73 _
     try dsimp only
     refine AWP.q (.u (.F Z Z Z (.nil (b5 (.q (.ad Z hltt73 (.exit (d9 (d9 ⟨Z, ?_⟩)))))))))
     exact Sub.env trivial
    ·intro t73 c72 o hlot73 hltt73 h
     unfold M6 at h
     try dsimp only at h ⊢
     refine AWP.q (.u (.F Z Z Z (.nil (b5 (.q (.ae Z hltt73 (.skip (b5 (.q (.J (.q ?_)))))))))))
     obtain ⟨ai14, hai14, h⟩ := bind_some h
     refine AWP.u (.j Z Z (S.idxO hai14 Z Z Z Z Z (S.loadOAgg hai14 Z Z Z Z Z Z Z (W.alloc Z Z Z Z (.v Z Z (W.storeAgg Z Z Z Z Z Z Z (.nil (b5 (.q ?_)))))))))
     rcases bft (decide (Go.bits .and .u32 a23 ai14.pre = ai14.pre)) with hb74 | hb74
     ·replace h := I8 hb74 h
      refine AWP.u (.E Z Z Z Z Z Z (W.fieldAddr Z Z Z Z (.E Z Z Z Z Z Z (.bits Z Z Z (by simp) (W.fieldAddr Z Z Z Z (.E Z Z Z Z Z Z (.eql Z Z Z (.j Z Z (.z Z Z Z hb74 (.j Z Z (.z Z Z Z hb74 (.j Z Z (.z Z Z Z hb74 (W.fieldAddr Z Z Z Z (.z Z Z Z hb74 (.E Z Z Z Z Z Z (.z Z Z Z hb74 (.E Z Z Z Z Z Z (.z Z Z Z hb74 (W.fieldAddr Z Z Z Z (.z Z Z Z hb74 (.E Z Z Z Z Z Z (.z Z Z Z hb74 (.bits Z Z Z (by simp) (.z Z Z Z hb74 (W.fieldAddr Z Z Z Z (.z Z Z Z hb74 (.E Z Z Z Z Z Z (.z Z Z Z hb74 (.bits Z Z Z (by simp) (.z Z Z Z hb74 (W.build Z Z Z Z ?_))))))))))))))))))))))))))))))))
      refine AOps.z Z Z Z hb74 ?_; refine AOps.yieldB (E1 := [(10, .c (.ptr 17 0 0)), (38, .agg [int t73, int ai14.cost, .imm (.val (.int .u32 (Go.bits .or .u32 (Go.bits .andNot .u32 a23 ai14.del) ai14.add)))]), (5, .c (.ptr 3 0 0)), (9, .c (.ptr 9 0 0))]) (σ1 := [.one (.cells 3 [(wW start goal 1 l4.length)]), .one (vec 4 d3 l4), .dead, .one (.cells 1 [[.map 15]]), .one (mapB vU vI c63), .one (pmap 11 vU c64), .dead, .one (.cells 3 [[.own 10 0 c66.length, .map 5, int c65]]), .dead, .one (.cells 1 [[.imm (.val (.int .u32 a23))]]), .one (prow 11 c66), pool 4 b8 c67, .one (.cells 1 [[.ptr 0 0 0]]), .one (.cells 1 [[.imm (.val (.int .u32 a23))]]), .one (j6 96 [38] as70 bo70 .ready none [(5, none), (9, none)] [.ptr 3 0 0, .ptr 9 0 0]), mmap 15 2 vU i7 c72, .one (.cells 4 [[.imm (.val (.int .u32 ai14.pre)), .imm (.val (.int .u32 ai14.add)), .imm (.val (.int .u32 ai14.del)), int ai14.cost]]), .one (.cells 3 [[int t73, int ai14.cost, .imm (.val (.int .u32 (Go.bits .or .u32 (Go.bits .andNot .u32 a23 ai14.del) ai14.add)))]])]) hA70 hB70 Z Z Z Z Z Z Z Z Z Z ?_ ?_
      ·refine AWP.u (W.alloc Z Z Z Z (W.storeAgg Z Z Z Z Z Z Z (.nil ?_)))
       exact ⟨Z, Z⟩
      refine AWP.sub (s' := ⟨[(5, .c (.ptr 3 0 0)), (9, .c (.ptr 9 0 0)), (10, .c (.ptr 17 0 0))], [.one (.cells 3 [(wW start goal 1 l4.length)]), .one (vec 4 d3 l4), .dead, .one (.cells 1 [[.map 15]]), .one (mapB vU vI c63), .one (pmap 11 vU c64), .dead, .one (.cells 3 [[.own 10 0 c66.length, .map 5, int c65]]), .dead, .one (.cells 1 [[.imm (.val (.int .u32 a23))]]), .one (prow 11 c66), pool 4 b8 c67, .one (.cells 1 [[.ptr 0 0 0]]), .one (.cells 1 [[.imm (.val (.int .u32 a23))]]), .one (j6 96 [38] as70 bo70 .busy none [(5, none), (9, none)] [.ptr 3 0 0, .ptr 9 0 0]), mmap 15 2 vU i7 c72, .one (.cells 4 [[.imm (.val (.int .u32 ai14.pre)), .imm (.val (.int .u32 ai14.add)), .imm (.val (.int .u32 ai14.del)), int ai14.cost]]), .one (.cells 3 [[int t73, int ai14.cost, .imm (.val (.int .u32 (Go.bits .or .u32 (Go.bits .andNot .u32 a23 ai14.del) ai14.add)))]])]⟩) (Sub.env ⟨Z, Z, Z, Y⟩) (.J ?_)
      obtain ⟨ab51, hab51, h⟩ := bind_some h
      refine AWP.drawEI [11, 12, 13] mixed Z Z Z ?_
      refine d5.consN Z Z (fun E => AOps.E Z Z Z Z Z Z .N) Z (.consN Z Z (fun E => W.fieldAddr Z Z Z Z .N) Z (.consN Z Z (fun E => AOps.E Z Z Z Z Z Z .N) Z (.consN Z Z (fun E => AOps.E Z Z Z Z Z Z .N) Z (.consN Z Z (fun E => W.fieldAddr Z Z Z Z .N) Z (.consN Z Z (fun E => AOps.E Z Z Z Z Z Z .N) Z (.consN Z Z (fun E => S.lookupM (fk := vU) (key := Go.bits .or .u32 (Go.bits .andNot .u32 a23 ai14.del) ai14.add) E3 Z Z Z Z Z .N) Z (.consN Z Z (fun E => AOps.E Z Z Z Z Z Z .N) Z (.consN Z Z (fun E => W.fieldAddr Z Z Z Z .N) Z (.consN Z Z (fun E => AOps.E Z Z Z Z Z Z .N) Z (.consN Z Z (fun E => W.build Z Z Z Z .N) Z ?_))))))))))
      apply d5.consE; exact Z; exact Z; intro E
      refine S.lit (f := i7) (l := [(⟨a23, ai14.cost⟩ : r9)]) (ess := [[.imm (.val (.int .u32 a23)), int ai14.cost]]) Z Z Z Z Z Z Z ⟨⟨.inl Z, .inl Z, Y⟩, Y⟩ Z Z Z .N
      exact Z
      exact Z
      apply d5.consE; exact Z; exact Z; intro E
      refine S.appendMM (f := i7) hab51 Z Z Z Z Z (.own Z Z) Z Z Z Z .N
      exact Z
      exact Z
      apply d5.consE (v := .undef); exact Z; exact Z; intro E
      refine S.updateMM (fk := vU) (key := Go.bits .or .u32 (Go.bits .andNot .u32 a23 ai14.del) ai14.add) E3 Z Z Z Z Z .N
      exact Z
      exact Z
      refine d5.done Z ?_ ?_
      ·refine c9.cons Z Z ?_ ?_
       refine b7.go Z Z (fun E => AOps.E Z Z Z Z Z Z .N) ?_
       refine b7.go Z Z (fun E => AOps.E Z Z Z Z Z Z .N) ?_
       refine b7.go Z Z (fun E => AOps.E Z Z Z Z Z Z .N) ?_
       refine b7.skip Z (b7.nil)
       refine c9.cons Z Z ?_ ?_
       refine b7.go Z Z (fun E => W.fieldAddr Z Z Z Z .N) ?_
       refine b7.go Z Z (fun E => W.fieldAddr Z Z Z Z .N) ?_
       refine b7.go Z Z (fun E => W.fieldAddr Z Z Z Z .N) ?_
       refine b7.skip Z (b7.nil)
       refine c9.cons Z Z ?_ ?_
       refine b7.go Z Z (fun E => AOps.E Z Z Z Z Z Z .N) ?_
       refine b7.go Z Z (fun E => AOps.E Z Z Z Z Z Z .N) ?_
       refine b7.go Z Z (fun E => AOps.E Z Z Z Z Z Z .N) ?_
       refine b7.skip Z (b7.nil)
       refine c9.cons Z Z ?_ ?_
       refine b7.go Z Z (fun E => AOps.E Z Z Z Z Z Z .N) ?_
       refine b7.go Z Z (fun E => AOps.E Z Z Z Z Z Z .N) ?_
       refine b7.skip Z (b7.skip Z (b7.nil))
       refine c9.cons Z Z ?_ ?_
       refine b7.go Z Z (fun E => W.fieldAddr Z Z Z Z .N) ?_
       refine b7.go Z Z (fun E => W.fieldAddr Z Z Z Z .N) ?_
       refine b7.skip Z (b7.skip Z (b7.nil))
       refine c9.cons Z Z ?_ ?_
       refine b7.go Z Z (fun E => AOps.E Z Z Z Z Z Z .N) ?_
       refine b7.go Z Z (fun E => AOps.E Z Z Z Z Z Z .N) ?_
       refine b7.skip Z (b7.skip Z (b7.nil))
       refine c9.cons Z Z ?_ ?_
       refine b7.go Z Z (fun E => S.lookupM (fk := vU) (key := Go.bits .or .u32 (Go.bits .andNot .u32 a23 ai14.del) ai14.add) E3 Z Z Z Z Z .N) ?_
       refine b7.go Z Z (fun E => S.lookupM (fk := vU) (key := Go.bits .or .u32 (Go.bits .andNot .u32 a23 ai14.del) ai14.add) E3 Z Z Z Z Z .N) ?_
       refine b7.skip Z (b7.skip Z (b7.nil))
       refine c9.cons Z Z ?_ ?_
       refine b7.go Z Z (fun E => AOps.E Z Z Z Z Z Z .N) ?_
       refine b7.skip Z (b7.skip Z (b7.skip Z (b7.nil)))
       refine c9.cons Z Z ?_ ?_
       refine b7.go Z Z (fun E => W.fieldAddr Z Z Z Z .N) ?_
       refine b7.skip Z (b7.skip Z (b7.skip Z (b7.nil)))
       refine c9.cons Z Z ?_ ?_
       refine b7.go Z Z (fun E => AOps.E Z Z Z Z Z Z .N) ?_
       refine b7.skip Z (b7.skip Z (b7.skip Z (b7.nil)))
       refine c9.cons Z Z ?_ ?_
       refine b7.go Z Z (fun E => W.build Z Z Z Z .N) ?_
       refine b7.skip Z (b7.skip Z (b7.skip Z (b7.nil)))
       refine c9.skip Z (c9.skip Z (c9.skip Z (c9.nil)))
      dsimp only [j8]
      refine e7 (N1 Z Z (.z Z Z Z hb74 (.not Z Z (.O Z hb74 Z Z (.nil (b5 (.j (env' := [(0, .c (.yld 14)), (2, .c (.ptr 13 0 0)), (9, .c (.own 1 0 l4.length)), (10, .c (int (l4.length : Int))), (11, .c (int t73)), (38, .c (bool false))]) (σ' := [.one (.cells 3 [(wW start goal 1 l4.length)]), .one (vec 4 d3 l4), .dead, .one (.cells 1 [[.map 15]]), .one (mapB vU vI c63), .one (pmap 11 vU c64), .dead, .one (.cells 3 [[.own 10 0 c66.length, .map 5, int c65]]), .dead, .one (.cells 1 [[.imm (.val (.int .u32 a23))]]), .one (prow 11 c66), pool 4 b8 c67, .one (.cells 1 [[.ptr 0 0 0]]), .one (.cells 1 [[.imm (.val (.int .u32 a23))]]), .one (j6 96 [38] as70 bo70 .ready none [(5, none), (9, none)] [.ptr 3 0 0, .ptr 9 0 0]), mmap 15 2 vU i7 (mset c72 (Go.bits .or .u32 (Go.bits .andNot .u32 a23 ai14.del) ai14.add) ab51), .one (.cells 4 [[.imm (.val (.int .u32 ai14.pre)), .imm (.val (.int .u32 ai14.add)), .imm (.val (.int .u32 ai14.del)), int ai14.cost]]), .one (.cells 3 [[int t73, int ai14.cost, .imm (.val (.int .u32 (Go.bits .or .u32 (Go.bits .andNot .u32 a23 ai14.del) ai14.add)))]]), .one (vec 2 i7 [(⟨a23, ai14.cost⟩ : r9)])]) (15, [posM c72 (Go.bits .or .u32 (Go.bits .andNot .u32 a23 ai14.del) ai14.add)]) (19, []) Z Z Z ⟨Z, Z, Z, Z, Z, Z, Y⟩ Z ⟨⟨Z, Z⟩, ⟨Blk.im_ok _ _ _, i5 Z⟩, trivial, ⟨Z, Z⟩, ⟨Z, Z⟩, ⟨j5 Z, Y0 Z (pmap_mvR Z) ab9⟩, trivial, ⟨Z, Z⟩, trivial, ⟨Z, Z⟩, ⟨i4 Z, Y0 Z (prow_mvR Z) ab9⟩, (p9.poolR Z Z), ⟨Z, Z⟩, ⟨Z, Z⟩, ⟨Z, Z⟩, (p9.putMM Z Z Z Z), ⟨Z, Z⟩, ⟨Z, Z⟩, ⟨Blk.im_ok _ _ _, i5 Z⟩, Y⟩ (.condF Z (.skip (e7 (b5 (.u (.add Z Z Z (by omega) (.j Z Z (.nil ?_)))))))))))))))
      obtain rfl := oi h
      refine b5 (Sub.cut ⟨Z, Z, Z, Z, Z, Y⟩ Z ⟨.one Z, .vec, .dead, .one Z, .one Z, (.one (j5 Z)), .dead, .one Z, .dead, .one Z, (.one (i4 Z)), (.any l8), .one Z, .one Z, .one Z, (.any (mm_ok Z)), Y⟩ Z)
     ·replace h := J1 hb74 h
      refine AWP.u (.E Z Z Z Z Z Z (W.fieldAddr Z Z Z Z (.E Z Z Z Z Z Z (.bits Z Z Z (by simp) (W.fieldAddr Z Z Z Z (.E Z Z Z Z Z Z (.eql Z Z Z (.j Z Z (.B Z Z Z hb74 (.B Z Z Z hb74 (.B Z Z Z hb74 (.B Z Z Z hb74 (.B Z Z Z hb74 (.B Z Z Z hb74 (.B Z Z Z hb74 (.B Z Z Z hb74 (.B Z Z Z hb74 (.B Z Z Z hb74 (.B Z Z Z hb74 (.B Z Z Z hb74 (.B Z Z Z hb74 (.B Z Z Z hb74 (.U Z hb74 Z Z (.nil (b5 (.condF Z (.skip (e7 (b5 (.u (.add Z Z Z (by omega) (.j Z Z (.nil ?_)))))))))))))))))))))))))))))))))
      obtain rfl := oi h
      refine b5 (Sub.cut ⟨Z, Z, Z, Z, Z, Y⟩ Z ⟨.one Z, .vec, .dead, .one Z, .one Z, (.one (j5 Z)), .dead, .one Z, .dead, .one Z, (.one (i4 Z)), (.any l8), .one Z, .one Z, .one Z, (.any (mm_ok Z)), Y⟩ Z)
    ·intro e s hq
     obtain ⟨rfl, hs⟩ := hq
     refine ⟨_, hs, ?_⟩
     refine k6 ?_
     obtain rfl := oi hr70
     exact ⟨⟨[], [.one (.cells 3 [(wW start goal 1 l4.length)]), .one (vec 4 d3 l4), .dead, .one (.cells 1 [[.map 15]]), .one (mapB vU vI c63), .one (pmap 11 vU c64), .dead, .one (.cells 3 [[.own 10 0 c66.length, .map 5, int c65]]), .dead, .one (.cells 1 [[.imm (.val (.int .u32 a23))]]), .one (prow 11 c66), pool 4 b8 c67, .one (.cells 1 [[.ptr 0 0 0]]), .one (.cells 1 [[.imm (.val (.int .u32 a23))]]), .one (j6 96 [38] as70 bo70 .ready none [(5, none), (9, none)] [.ptr 3 0 0, .ptr 9 0 0]), mmap 15 2 vU i7 c72]⟩, Sub.env trivial, Done.normal Z ⟨Z, Z⟩⟩
   ·rintro tt ss ⟨rfl, rfl⟩
    try dsimp only at h ⊢
    refine aa3 Z Z (e7 (e7 (b5 (.u (.add Z Z Z (by omega) (.j Z Z (.nil ?_)))))))
    obtain rfl := oi h
    refine b5 ((Sub.moveM (env' := [(0, .c (.ptr 0 0 0)), (5, .c (.ptr 3 0 0)), (6, .c (.map 4)), (7, .c (.ptr 7 0 0)), (19, .c (row 1 eU32 l)), (20, .c (int (l.length : Int))), (21, .c (int (t62 + 1)))]) (σ' := [.one (.cells 3 [(wW start goal 1 l4.length)]), .one (vec 4 d3 l4), mmap 2 2 vU i7 c71, .one (.cells 1 [[.map 2]]), .one (mapB vU vI c63), .one (pmap 11 vU c64), .dead, .one (.cells 3 [[.own 10 0 c66.length, .map 5, int c65]]), .dead, .one (.cells 1 [[.imm (.val (.int .u32 a23))]]), .one (prow 11 c66), pool 4 b8 c67, .one (.cells 1 [[.ptr 0 0 0]]), .one (.cells 1 [[.imm (.val (.int .u32 a23))]]), .dead]) 2 15 Z Z Z ⟨Z, Z, Z, Z, Z, Z, Z, Y⟩ Z ⟨(.one Z Z), (.vec Z), (EntR.mmap Z Z Z), (.one Z Z), (.one Z Z), (.one (j5 Z) (C9 Z Z (k7 fun _ => Z))), .dead, (.one Z Z), .dead, (.one Z Z), (.one (i4 Z) (C9 Z Z (f8 fun _ => Z))), (EntR.pool Z Z), (.one Z Z), (.one Z Z), .dead, Y⟩).trans ((Sub.move (env' := [(0, .c (.ptr 0 0 0)), (5, .c (.ptr 3 0 0)), (6, .c (.map 4)), (7, .c (.ptr 7 0 0)), (19, .c (row 1 eU32 l)), (20, .c (int (l.length : Int))), (21, .c (int (t62 + 1)))]) (σ' := [.one (.cells 3 [(wW start goal 1 l4.length)]), .one (vec 4 d3 l4), mmap 2 2 vU i7 c71, .one (.cells 1 [[.map 2]]), .one (mapB vU vI c63), .one (pmap 11 vU c64), .dead, .one (.cells 3 [[.own 8 0 c66.length, .map 5, int c65]]), .one (prow 11 c66), .one (.cells 1 [[.imm (.val (.int .u32 a23))]]), .dead, pool 4 b8 c67, .one (.cells 1 [[.ptr 0 0 0]]), .one (.cells 1 [[.imm (.val (.int .u32 a23))]]), .dead]) 8 10 Z Z Z ⟨Z, Z, Z, Z, Z, Z, Z, Y⟩ Z ⟨⟨Z, Z⟩, ⟨Blk.im_ok _ _ _, i5 Z⟩, (p9.mmap Z Z Z), ⟨Z, Z⟩, ⟨Z, Z⟩, ⟨j5 Z, u6 Z I1⟩, trivial, ⟨Z, Z⟩, ⟨i4 Z, u6 Z I2⟩, ⟨Z, Z⟩, trivial, (p9.pool Z), ⟨Z, Z⟩, ⟨Z, Z⟩, trivial, Y⟩).trans ((Sub.moveM (env' := [(0, .c (.ptr 0 0 0)), (5, .c (.ptr 3 0 0)), (6, .c (.map 4)), (7, .c (.ptr 7 0 0)), (19, .c (row 1 eU32 l)), (20, .c (int (l.length : Int))), (21, .c (int (t62 + 1)))]) (σ' := [.one (.cells 3 [(wW start goal 1 l4.length)]), .one (vec 4 d3 l4), mmap 2 2 vU i7 c71, .one (.cells 1 [[.map 2]]), .one (mapB vU vI c63), .one (pmap 6 vU c64), pool 4 b8 c67, .one (.cells 3 [[.own 8 0 c66.length, .map 5, int c65]]), .one (prow 6 c66), .one (.cells 1 [[.imm (.val (.int .u32 a23))]]), .dead, .dead, .one (.cells 1 [[.ptr 0 0 0]]), .one (.cells 1 [[.imm (.val (.int .u32 a23))]]), .dead]) 6 11 Z Z Z ⟨Z, Z, Z, Z, Z, Z, Z, Y⟩ Z ⟨(.one Z Z), (.vec Z), (EntR.mmap Z Z Z), (.one Z Z), (.one Z Z), (.one (j5 Z) (C9 Z Z (k7 fun _ => Z))), (EntR.pool Z Z), (.one Z Z), (.one (i4 Z) (C9 Z Z (f8 fun _ => Z))), (.one Z Z), .dead, .dead, (.one Z Z), (.one Z Z), .dead, Y⟩).trans (Sub.cut ⟨Z, Z, Z, Z, Z, Z, Z, Y⟩ Z ⟨.one Z, .vec, (.any (mm_ok Z)), .one Z, .one Z, (.one (j5 Z)), (.any l8), .one Z, (.one (i4 Z)), Y⟩ Z))))
 ·intro e s hq
  obtain ⟨rfl, hs⟩ := hq
  refine ⟨_, hs, ?_⟩
  refine k6 (b5 (.q (.J ?_)))
  obtain ⟨c80, ho4, h⟩ := bind_some h
  refine AWP.loopS ho4 (fun (c75, c76, c77, c78, c79) => ⟨[(5, .c (.ptr 3 0 0)), (6, .c (.map 4)), (7, .c (.ptr 7 0 0))], [.one (.cells 3 [(wW start goal 1 l4.length)]), .one (vec 4 d3 l4), mmap 2 2 vU i7 c56, .one (.cells 1 [[.map 2]]), .one (mapB vU vI c75), .one (pmap 6 vU c76), pool 4 b8 c77, .one (.cells 3 [[.own 8 0 c79.length, .map 5, int c78]]), .one (prow 6 c79)]⟩) (fun c80 e st => e = .exit 4 ∧ Sub (M5 l start goal l4) st ⟨[(6, .c (.map 4))], [.one (.cells 3 [(wW start goal 1 l4.length)]), .one (vec 4 d3 l4), .dead, .dead, .one (mapB vU vI c80)]⟩) ?_ ?_ ?_
  ·try dsimp only
   exact Sub.env ⟨Z, Z, Z, Y⟩
  ·intro s o h
   obtain ⟨c75, c76, c77, c78, c79⟩ := s
   unfold G6 at h
   try dsimp only at h ⊢
   refine AWP.q (.q ?_)
   obtain ⟨a54, ha54, h⟩ := bind_some h
   refine AWP.u (.j Z Z (.callF (r2 := .c (int (c79.length : Int))) (σ'' := [.one (.cells 3 [(wW start goal 1 l4.length)]), .one (vec 4 d3 l4), mmap 2 2 vU i7 c56, .one (.cells 1 [[.map 2]]), .one (mapB vU vI c75), .one (pmap 6 vU c76), pool 4 b8 c77, .one (.cells 3 [[.own 8 0 c79.length, .map 5, int c78]]), .one (prow 6 c79)]) Z Z Z (FnOk.lend [7, 8, 5, 6] (aa6 ha54) Z Z Z Z Z Z (by exact ⟨(.one Z), (.one (i4 Z)), (.one (j5 Z)), (.any l8), Y⟩) Z (by exact ⟨(.live Z (.one Z)), (.live Z (.one (f8 fun _ => Z))), (.live Z (.one (k7 fun _ => Z))), (.live Z RenE.pool), Y⟩) Z Z (by exact ⟨(.old Z Z Z), (.old Z Z Z), (.old Z Z Z), (.old Z Z Z), (.old Z Z Z), (.new 2 Z Z (.one (k7 fun _ => Z))), (.new 3 Z Z RenE.pool), (.new 0 Z Z (.one Z)), (.new 1 Z Z (.one (f8 fun _ => Z))), Y⟩)) (.gtr Z Z Z (.nil (b5 (.ite Z h (fun hc81 h => ?_) (fun hc81 h => ?_)))))))
   ·refine AWP.skip (b5 (.J (.q ?_)))
    obtain ⟨a58, ha58, h⟩ := bind_some h
    refine AWP.u (.j Z Z (.callF (r2 := .tup [.c (.imm (.val (.int .u32 a58.2.2.2.1))), .c (int a58.2.2.2.2.1), .c (bool a58.2.2.2.2.2)]) (σ'' := [.one (.cells 3 [(wW start goal 1 l4.length)]), .one (vec 4 d3 l4), mmap 2 2 vU i7 c56, .one (.cells 1 [[.map 2]]), .one (mapB vU vI c75), .one (pmap 6 vU a58.1), pool 4 b8 a58.2.1, .one (.cells 3 [[.own 9 0 a58.2.2.1.length, .map 5, int c78]]), .dead, .one (prow 6 a58.2.2.1)]) Z Z Z (FnOk.lend [7, 8, 5, 6] (W1 ha58) Z Z Z Z Z Z (by exact ⟨(.one Z), (.one (i4 Z)), (.one (j5 Z)), (.any l8), Y⟩) Z (by exact ⟨(.live Z (.one Z)), (.live Z (.one (f8 fun _ => Z))), (.live Z (.one (k7 fun _ => Z))), (.live Z RenE.pool), Y⟩) Z Z (by exact ⟨(.old Z Z Z), (.old Z Z Z), (.old Z Z Z), (.old Z Z Z), (.old Z Z Z), (.new 2 Z Z (.one (k7 fun _ => Z))), (.new 3 Z Z RenE.pool), (.new 0 Z Z (.one Z)), .dead, (.new 4 Z Z (.one (f8 fun _ => Z))), Y⟩)) (.j Z Z (.ab Z Z Z (.ab Z Z Z (.ab Z Z Z (.v Z Z (.v Z Z (.v Z Z (.nil (b5 (.q (.u (.E Z Z Z Z Z Z (.j Z Z (S.lookupM (fk := vU) (key := a58.2.2.2.1) E3 Z Z Z Z Z (S.lenMM Z Z Z (fun hl65 => .j Z Z (.nil (b5 (.J ?_)))))))))))))))))))))
    obtain ⟨⟨c82, c83, c84, c85, c86⟩, ho5, h⟩ := bind_some h
    try dsimp only at h
    refine AWP.forS ho5 (fun t87 (c82, c83, c84, c85, c86) => ⟨[(5, .c (.ptr 3 0 0)), (6, .c (.map 4)), (7, .c (.ptr 7 0 0)), (12, .c (int a58.2.2.2.2.1)), (64, .c (rowC 2 c56 a58.2.2.2.1)), (65, .c (int ((rowM c56 a58.2.2.2.1).length : Int))), (66, .c (int t87))], [.one (.cells 3 [(wW start goal 1 l4.length)]), .one (vec 4 d3 l4), mmap 2 2 vU i7 c56, .one (.cells 1 [[.map 2]]), .one (mapB vU vI c82), .one (pmap 6 vU c83), pool 4 b8 c84, .one (.cells 3 [[.own 9 0 c86.length, .map 5, int c85]]), .dead, .one (prow 6 c86)]⟩) (fun (c82, c83, c84, c85, c86) e st => e = .exit 6 ∧ Sub (M5 l start goal l4) st ⟨[(5, .c (.ptr 3 0 0)), (6, .c (.map 4)), (7, .c (.ptr 7 0 0))], [.one (.cells 3 [(wW start goal 1 l4.length)]), .one (vec 4 d3 l4), mmap 2 2 vU i7 c56, .one (.cells 1 [[.map 2]]), .one (mapB vU vI c82), .one (pmap 6 vU c83), pool 4 b8 c84, .one (.cells 3 [[.own 9 0 c86.length, .map 5, int c85]]), .dead, .one (prow 6 c86)]⟩) ?_ ?_ ?_ ?_
    ·try dsimp only
     exact Sub.env ⟨Z, Z, Z, Z, Z, Z, Z, Y⟩
    ·intro t87 s hlot87 hltt87 _
     obtain ⟨c82, c83, c84, c85, c86⟩ := s
     try dsimp only
     refine AWP.q (.u (.F Z Z Z (.nil (b5 (.q (.ad Z hltt87 (.exit (d9 (d9 ⟨Z, ?_⟩)))))))))
     exact Sub.env ⟨Z, Z, Z, Y⟩
    ·intro t87 s o hlot87 hltt87 h
     obtain ⟨c82, c83, c84, c85, c86⟩ := s
     unfold G9 at h
     try dsimp only at h ⊢
     refine AWP.q (.u (.F Z Z Z (.nil (b5 (.q (.ae Z hltt87 (.skip (b5 ?_))))))))
     obtain ⟨⟨c88, c89, c90, c91, c92⟩, hx93, h⟩ := bind_some h
     refine AWP.seqJ (⟨[(5, .c (.ptr 3 0 0)), (6, .c (.map 4)), (7, .c (.ptr 7 0 0)), (12, .c (int a58.2.2.2.2.1)), (64, .c (rowC 2 c56 a58.2.2.2.1)), (65, .c (int ((rowM c56 a58.2.2.2.1).length : Int))), (66, .c (int t87))], [.one (.cells 3 [(wW start goal 1 l4.length)]), .one (vec 4 d3 l4), mmap 2 2 vU i7 c56, .one (.cells 1 [[.map 2]]), .one (mapB vU vI c88), .one (pmap 12 vU c89), .dead, .one (.cells 3 [[.own 11 0 c91.length, .map 5, int c90]]), .dead, .dead, .dead, .one (prow 12 c91), pool 4 b8 c92]⟩) ?_ ?_
     ·refine AWP.J (.q ?_)
      obtain ⟨a68, ha68, hx93⟩ := bind_some hx93
      refine AWP.u (S.idxMM ha68 Z Z Z Z (S.loadOAgg ha68 Z Z (mm_get Z ha68) Z Z Z Z (W.alloc Z Z Z Z (W.storeAgg Z Z Z Z Z Z Z (.nil (b5 (.q (.u (.j Z Z (W.fieldAddr Z Z Z Z (.E Z Z Z Z Z Z (S.add Z Z Z (.j Z Z (W.fieldAddr Z Z Z Z (.E Z Z Z Z Z Z (W.lookup (fk := vU) (fv := vI) (k := a68.ffrom) (z := 0) E3 Z (fun _ => Z) Z Z Z Z ?_))))))))))))))))
      refine AOps.F Z Z Z (.nil (b5 (.ite Z hx93 (fun hc94 hx93 => ?_) (fun hc94 hx93 => ?_))))
      ·refine AWP.q (.u (.j Z Z (W.fieldAddr Z Z Z Z (.E Z Z Z Z Z Z (.j Z Z (W.fieldAddr Z Z Z Z (.E Z Z Z Z Z Z (S.add Z Z Z (W.mapUpdate (fk := vU) (fv := vI) (k := a68.ffrom) (a := w64 (a58.2.2.2.2.1 + a68.cost)) E3 Z Z Z Z Z (.nil (b5 ?_)))))))))))
       obtain ⟨a93, ha93, hx93⟩ := bind_some hx93
       refine AWP.u (.j Z Z (W.fieldAddr Z Z Z Z (.E Z Z Z Z Z Z (.j Z Z (W.fieldAddr Z Z Z Z (.E Z Z Z Z Z Z (S.add Z Z Z (.callF (r2 := .tup []) (σ'' := [.one (.cells 3 [(wW start goal 1 l4.length)]), .one (vec 4 d3 l4), mmap 2 2 vU i7 c56, .one (.cells 1 [[.map 2]]), .one (mapB vU vI (mset c82 a68.ffrom (w64 (a58.2.2.2.2.1 + a68.cost)))), .one (pmap 12 vU a93.1), .dead, .one (.cells 3 [[.own 11 0 a93.2.1.length, .map 5, int (w64 (c85 + 1))]]), .dead, .dead, .one (.cells 2 [[.imm (.val (.int .u32 a68.ffrom)), int a68.cost]]), .one (prow 12 a93.2.1), pool 4 b8 a93.2.2]) Z Z Z (FnOk.lend [7, 9, 5, 6] (Y3 ha93) Z Z Z Z Z Z (by exact ⟨(.one Z), (.one (i4 Z)), (.one (j5 Z)), (.any l8), Y⟩) Z (by exact ⟨(.live Z (.one Z)), (.live Z (.one (f8 fun _ => Z))), (.live Z (.one (k7 fun _ => Z))), (.live Z RenE.pool), Y⟩) Z Z (by exact ⟨(.old Z Z Z), (.old Z Z Z), (.old Z Z Z), (.old Z Z Z), (.old Z Z Z), (.new 2 Z Z (.one (k7 fun _ => Z))), .dead, (.new 0 Z Z (.one Z)), .dead, .dead, (.old Z Z Z), (.new 4 Z Z (.one (f8 fun _ => Z))), (.new 5 Z Z RenE.pool), Y⟩)) (.nil (e7 ?_))))))))))
       have ej := Option.some.inj hx93
       simp only [Prod.mk.injEq] at ej
       obtain ⟨ej0, ej1, ej2, ej3, ej4⟩ := ej
       subst ej0
       subst ej1
       subst ej2
       subst ej3
       subst ej4
       refine b5 (Sub.cut ⟨Z, Z, Z, Z, Z, Z, Z, Y⟩ Z ⟨.one Z, .vec, (.any (mm_ok Z)), .one Z, .one Z, (.one (j5 Z)), .dead, .one Z, .dead, .dead, .dead, (.one (i4 Z)), (.any l8), Y⟩ (eOk1 Z (eOk1 Z (eOk1 Z (eOk1 Z (eOk1 (ab5 Z) (eOk1 Z (eOk1 Z Z))))))))
      ·refine AWP.skip (e7 ?_)
       have ej := Option.some.inj hx93
       simp only [Prod.mk.injEq] at ej
       obtain ⟨ej0, ej1, ej2, ej3, ej4⟩ := ej
       subst ej0
       subst ej1
       subst ej2
       subst ej3
       subst ej4
       refine b5 ((Sub.move (env' := [(5, .c (.ptr 3 0 0)), (6, .c (.map 4)), (7, .c (.ptr 7 0 0)), (12, .c (int a58.2.2.2.2.1)), (64, .c (rowC 2 c56 a58.2.2.2.1)), (65, .c (int ((rowM c56 a58.2.2.2.1).length : Int))), (66, .c (int t87))]) (σ' := [.one (.cells 3 [(wW start goal 1 l4.length)]), .one (vec 4 d3 l4), mmap 2 2 vU i7 c56, .one (.cells 1 [[.map 2]]), .one (mapB vU vI c82), .one (pmap 6 vU c83), pool 4 b8 c84, .one (.cells 3 [[.own 11 0 c86.length, .map 5, int c85]]), .dead, .dead, .one (.cells 2 [[.imm (.val (.int .u32 a68.ffrom)), int a68.cost]]), .one (prow 6 c86)]) 11 9 Z Z Z ⟨Z, Z, Z, Z, rowC_mv (fun _ => Z) Z, Z, Z, Y⟩ (eOk1 Z (eOk1 Z (eOk1 Z (eOk1 Z (eOk1 (ab5 Z) (eOk1 Z (eOk1 Z Z))))))) ⟨⟨Z, Z⟩, ⟨Blk.im_ok _ _ _, i5 Z⟩, (p9.mmap Z Z Z), ⟨Z, Z⟩, ⟨Z, Z⟩, ⟨j5 Z, u6 Z I1⟩, (p9.pool Z), ⟨Z, Z⟩, trivial, trivial, ⟨Z, Z⟩, ⟨i4 Z, u6 Z I2⟩, Y⟩).trans ((Sub.moveM (env' := [(5, .c (.ptr 3 0 0)), (6, .c (.map 4)), (7, .c (.ptr 7 0 0)), (12, .c (int a58.2.2.2.2.1)), (64, .c (rowC 2 c56 a58.2.2.2.1)), (65, .c (int ((rowM c56 a58.2.2.2.1).length : Int))), (66, .c (int t87))]) (σ' := [.one (.cells 3 [(wW start goal 1 l4.length)]), .one (vec 4 d3 l4), mmap 2 2 vU i7 c56, .one (.cells 1 [[.map 2]]), .one (mapB vU vI c82), .one (pmap 12 vU c83), .dead, .one (.cells 3 [[.own 11 0 c86.length, .map 5, int c85]]), .dead, .dead, .one (.cells 2 [[.imm (.val (.int .u32 a68.ffrom)), int a68.cost]]), .one (prow 12 c86), pool 4 b8 c84]) 12 6 Z Z Z ⟨Z, Z, Z, Z, rowC_mv (fun _ => Z) Z, Z, Z, Y⟩ (eOk1 Z (eOk1 Z (eOk1 Z (eOk1 Z (eOk1 (ab5 Z) (eOk1 Z (eOk1 Z Z))))))) ⟨(.one Z Z), (.vec Z), (EntR.mmap Z Z Z), (.one Z Z), (.one Z Z), (.one (j5 Z) (C9 Z Z (k7 fun _ => Z))), .dead, (.one Z Z), .dead, .dead, (.one Z Z), (.one (i4 Z) (C9 Z Z (f8 fun _ => Z))), (EntR.pool Z Z), Y⟩).trans (Sub.cut ⟨Z, Z, Z, Z, Z, Z, Z, Y⟩ Z ⟨.one Z, .vec, (.any (mm_ok Z)), .one Z, .one Z, (.one (j5 Z)), .dead, .one Z, .dead, .dead, .dead, (.one (i4 Z)), (.any l8), Y⟩ (eOk1 Z (eOk1 Z (eOk1 Z (eOk1 Z (eOk1 (ab5 Z) (eOk1 Z (eOk1 Z Z))))))))))
     ·try dsimp only at h
      refine AWP.u (.add Z Z Z (by omega) (.j Z Z (.nil ?_)))
      obtain rfl := oi h
      refine b5 ((Sub.move (env' := [(5, .c (.ptr 3 0 0)), (6, .c (.map 4)), (7, .c (.ptr 7 0 0)), (12, .c (int a58.2.2.2.2.1)), (64, .c (rowC 2 c56 a58.2.2.2.1)), (65, .c (int ((rowM c56 a58.2.2.2.1).length : Int))), (66, .c (int (t87 + 1)))]) (σ' := [.one (.cells 3 [(wW start goal 1 l4.length)]), .one (vec 4 d3 l4), mmap 2 2 vU i7 c56, .one (.cells 1 [[.map 2]]), .one (mapB vU vI c88), .one (pmap 12 vU c89), .dead, .one (.cells 3 [[.own 9 0 c91.length, .map 5, int c90]]), .dead, .one (prow 12 c91), .dead, .dead, pool 4 b8 c92]) 9 11 Z Z Z ⟨Z, Z, Z, Z, rowC_mv (fun _ => Z) Z, Z, Z, Y⟩ (eOk1 Z (eOk1 Z (eOk1 Z (eOk1 Z (eOk1 (ab5 Z) (eOk1 Z (eOk1 Z Z))))))) ⟨⟨Z, Z⟩, ⟨Blk.im_ok _ _ _, i5 Z⟩, (p9.mmap Z Z Z), ⟨Z, Z⟩, ⟨Z, Z⟩, ⟨j5 Z, u6 Z I1⟩, trivial, ⟨Z, Z⟩, trivial, ⟨i4 Z, u6 Z I2⟩, trivial, trivial, (p9.pool Z), Y⟩).trans ((Sub.moveM (env' := [(5, .c (.ptr 3 0 0)), (6, .c (.map 4)), (7, .c (.ptr 7 0 0)), (12, .c (int a58.2.2.2.2.1)), (64, .c (rowC 2 c56 a58.2.2.2.1)), (65, .c (int ((rowM c56 a58.2.2.2.1).length : Int))), (66, .c (int (t87 + 1)))]) (σ' := [.one (.cells 3 [(wW start goal 1 l4.length)]), .one (vec 4 d3 l4), mmap 2 2 vU i7 c56, .one (.cells 1 [[.map 2]]), .one (mapB vU vI c88), .one (pmap 6 vU c89), pool 4 b8 c92, .one (.cells 3 [[.own 9 0 c91.length, .map 5, int c90]]), .dead, .one (prow 6 c91), .dead, .dead]) 6 12 Z Z Z ⟨Z, Z, Z, Z, rowC_mv (fun _ => Z) Z, Z, Z, Y⟩ (eOk1 Z (eOk1 Z (eOk1 Z (eOk1 Z (eOk1 (ab5 Z) (eOk1 Z (eOk1 Z Z))))))) ⟨(.one Z Z), (.vec Z), (EntR.mmap Z Z Z), (.one Z Z), (.one Z Z), (.one (j5 Z) (C9 Z Z (k7 fun _ => Z))), (EntR.pool Z Z), (.one Z Z), .dead, (.one (i4 Z) (C9 Z Z (f8 fun _ => Z))), .dead, .dead, Y⟩).trans (Sub.cut ⟨Z, Z, Z, Z, Z, Z, Z, Y⟩ Z ⟨.one Z, .vec, (.any (mm_ok Z)), .one Z, .one Z, (.one (j5 Z)), (.any l8), .one Z, .dead, (.one (i4 Z)), Y⟩ (eOk1 Z (eOk1 Z (eOk1 Z (eOk1 Z (eOk1 (ab5 Z) (eOk1 Z (eOk1 Z Z))))))))))
    ·intro e s hq
     obtain ⟨rfl, hs⟩ := hq
     refine ⟨_, hs, ?_⟩
     refine k6 (e7 ?_)
     obtain rfl := oi h
     refine b5 ⟨_, Z, ?_⟩
     exact (Sub.move (env' := [(5, .c (.ptr 3 0 0)), (6, .c (.map 4)), (7, .c (.ptr 7 0 0))]) (σ' := [.one (.cells 3 [(wW start goal 1 l4.length)]), .one (vec 4 d3 l4), mmap 2 2 vU i7 c56, .one (.cells 1 [[.map 2]]), .one (mapB vU vI c82), .one (pmap 6 vU c83), pool 4 b8 c84, .one (.cells 3 [[.own 8 0 c86.length, .map 5, int c85]]), .one (prow 6 c86)]) 8 9 Z Z Z ⟨Z, Z, Z, Y⟩ Z ⟨⟨Z, Z⟩, ⟨Blk.im_ok _ _ _, i5 Z⟩, (p9.mmap Z Z Z), ⟨Z, Z⟩, ⟨Z, Z⟩, ⟨j5 Z, u6 Z I1⟩, (p9.pool Z), ⟨Z, Z⟩, ⟨i4 Z, u6 Z I2⟩, Y⟩).trans (Sub.env ⟨Z, Z, Z, Y⟩)
   ·refine AWP.exit (d9 ?_)
    obtain rfl := oi h
    refine d9 ⟨_, Z, Z, ?_⟩
    exact Sub.cut ⟨Z, Y⟩ Z ⟨.one Z, .vec, .dead, .dead, .one Z, Y⟩ Z
  ·intro e s hq
   obtain ⟨rfl, hs⟩ := hq
   refine ⟨_, hs, ?_⟩
   refine k6 (b5 (.q (.u (.j Z Z (.v Z Z (.nil (b5 (.ret ?_))))))))
   obtain rfl := oi h
   exact ⟨⟨[(4, .c (.map 4))], [.one (.cells 3 [(wW start goal 1 l4.length)]), .one (vec 4 d3 l4), .dead, .dead, .one (mapB vU vI c80)]⟩, Sub.env ⟨Z, Y⟩, Done.ret Z ⟨Z, Z⟩⟩
theorem ap3 {t : d8} {r : Int × k8} (h : O6 t = some r) : f7 prog 13 [.agg (tT t)] (.tup [.c (int r.1), .agg [int r.2.code, int r.2.index]]) := by
 unfold f7
 refine FnOk.enter (rs := [.t 2, .cell 3 27 2]) func13 Z ntmps13 results13 Z ⟨trivial, rv _ Z, Y⟩ (by kernel_rfl) Z ?_
 unfold O6 at h
 refine AWP.q (.u (W.box Z Z Z Z Z Z (.v Z Z (W.alloc Z Z Z Z (.nil (b5 (.q ?_)))))))
 obtain ⟨fk2, hfk2, h⟩ := bind_some h
 rcases fk2 with fk2 | fk2
 ·try dsimp only at h
  refine AWP.u (W.loadAgg Z Z Z Z Z Z Z (.callF (r2 := .tup [.c (.imm (.val (.pointer none))), .c (row 1 eU32 []), .agg [int fk2.1, int fk2.2]]) (σ'' := [.one (.cells 4 [(tT t)]), .one (.cells 2 [[int 0, int 0]]), .dead, .one (.cells 2 [[int fk2.1, int fk2.2]])]) Z Z Z (FnOk.lend [] (FnOk.alt1 (ad2 hfk2)) Z Z Z Z Z Z (by exact trivial) Z (by exact trivial) Z Z (by exact ⟨(.old Z Z Z), (.old Z Z Z), .dead, (.new 1 Z Z (.one Z)), Y⟩)) (.j Z Z (.ab Z Z Z (.ab Z Z Z (.ab Z Z Z (W.alloc Z Z Z Z (.v Z Z (.v Z Z (W.storeAgg Z Z Z Z Z Z Z (.nil (b5 (.q (.q (.u (W.loadAgg Z Z Z Z Z Z Z (W.build Z Z Z Z (.neqP Z Z Z Z Z Z Z (.nil (b5 (.ag Z h (fun hc3 h => ?_) (fun hc3 h => ?_))))))))))))))))))))))
  ·refine AWP.q (.drawEI [2] mixed Z Z Z ?_)
   refine d5.consN Z Z (fun E => W.loadAgg Z Z Z Z Z Z Z .N) Z (.consN Z Z (fun E => AOps.v Z Z .N) Z ?_)
   apply d5.consE (v := .undef); exact Z; exact Z; intro E
   refine W.storeAgg Z Z Z Z Z Z Z .N
   exact Z
   exact Z
   refine d5.done Z ?_ ?_
   ·refine c9.cons Z Z ?_ ?_
    refine b7.go Z Z (fun E => W.loadAgg Z Z Z Z Z Z Z .N) ?_
    refine b7.skip Z (b7.nil)
    refine c9.cons Z Z ?_ ?_
    refine b7.go Z Z (fun E => AOps.v Z Z .N) ?_
    refine b7.skip Z (b7.nil)
    refine c9.skip Z (c9.nil)
   dsimp only [j8]
   refine b5 (.ret (e8 ?_))
   obtain rfl := oi h
   exact Done.ret Z Z
  ·cases h
 ·try dsimp only at h
  refine AWP.u (W.loadAgg Z Z Z Z Z Z Z (.callF (r2 := .tup [.c (.ptr 6 0 0), .c (row 1 eU32 fk2.2.2.2), .agg [int 0, int 0]]) (σ'' := [.one (.cells 4 [(tT t)]), .one (.cells 2 [[int 0, int 0]]), .dead, .one (.cells 2 [[int 0, int 0]]), .dead, .dead, .one (.cells 3 [[.imm (.val (.int .u32 fk2.1)), .imm (.val (.int .u32 fk2.2.1)), .own 7 0 fk2.2.2.1.length]]), .one (vec 4 d3 fk2.2.2.1)]) Z Z Z (FnOk.lend [] (FnOk.alt2 (ad2 hfk2)) Z Z Z Z Z Z (by exact trivial) Z (by exact trivial) Z Z (by exact ⟨(.old Z Z Z), (.old Z Z Z), .dead, (.new 1 Z Z (.one Z)), .dead, .dead, (.new 4 Z Z (.one Z)), (.new 5 Z Z .vec), Y⟩)) (.j Z Z (.ab Z Z Z (.ab Z Z Z (.ab Z Z Z (W.alloc Z Z Z Z (.v Z Z (.v Z Z (W.storeAgg Z Z Z Z Z Z Z (.nil (b5 (.q (.q (.u (W.loadAgg Z Z Z Z Z Z Z (W.build Z Z Z Z (.neqP Z Z Z Z Z Z Z (.nil (b5 (.ag Z h (fun hc3 h => ?_) (fun hc3 h => ?_))))))))))))))))))))))
  ·refine AWP.q (.drawEI [2] mixed Z Z Z ?_)
   refine d5.consN Z Z (fun E => W.loadAgg Z Z Z Z Z Z Z .N) Z (.consN Z Z (fun E => AOps.v Z Z .N) Z ?_)
   apply d5.consE (v := .undef); exact Z; exact Z; intro E
   refine W.storeAgg Z Z Z Z Z Z Z .N
   exact Z
   exact Z
   refine d5.done Z ?_ ?_
   ·refine c9.cons Z Z ?_ ?_
    refine b7.go Z Z (fun E => W.loadAgg Z Z Z Z Z Z Z .N) ?_
    refine b7.skip Z (b7.nil)
    refine c9.cons Z Z ?_ ?_
    refine b7.go Z Z (fun E => AOps.v Z Z .N) ?_
    refine b7.skip Z (b7.nil)
    refine c9.skip Z (c9.nil)
   dsimp only [j8]
   refine b5 (.ret (e8 ?_))
   obtain rfl := oi h
   exact Done.ret Z Z
  ·refine AWP.skip (b5 (.q ?_))
   obtain ⟨a19, ha19, a21, ha21, h⟩ := b2 h
   refine AWP.u (.j Z Z (.j Z Z (.callF (r2 := .c (.map 11)) (σ'' := [.one (.cells 4 [(tT t)]), .one (.cells 2 [[int 0, int 0]]), .dead, .one (.cells 2 [[int 0, int 0]]), .dead, .dead, .one (.cells 3 [[.imm (.val (.int .u32 fk2.1)), .imm (.val (.int .u32 fk2.2.1)), .own 7 0 fk2.2.2.1.length]]), .one (vec 4 d3 fk2.2.2.1), .one (.cells 2 [[int 0, int 0]]), .dead, .dead, .one (mapB vU vI a19)]) Z Z Z (FnOk.lend [6, 7] (ao5 ha19) Z Z Z Z Z Z (by exact ⟨(.one Z), .vec, Y⟩) Z (by exact ⟨(.live Z (.one Z)), (.live Z .vec), Y⟩) Z Z (by exact ⟨(.old Z Z Z), (.old Z Z Z), .dead, (.old Z Z Z), .dead, .dead, (.new 0 Z Z (.one Z)), (.new 1 Z Z .vec), (.old Z Z Z), .dead, .dead, (.new 4 Z Z (.one Z)), Y⟩)) (.j Z Z (.callF (r2 := .c (.imm (.val (.int .u32 fk2.1)))) (σ'' := [.one (.cells 4 [(tT t)]), .one (.cells 2 [[int 0, int 0]]), .dead, .one (.cells 2 [[int 0, int 0]]), .dead, .dead, .one (.cells 3 [[.imm (.val (.int .u32 fk2.1)), .imm (.val (.int .u32 fk2.2.1)), .own 7 0 fk2.2.2.1.length]]), .one (vec 4 d3 fk2.2.2.1), .one (.cells 2 [[int 0, int 0]]), .dead, .dead, .one (mapB vU vI a19)]) Z Z Z (FnOk.lend [6, 7] (M1 ha21) Z Z Z Z Z Z (by exact ⟨(.one Z), .vec, Y⟩) Z (by exact ⟨(.live Z (.one Z)), (.live Z .vec), Y⟩) Z Z (by exact ⟨(.old Z Z Z), (.old Z Z Z), .dead, (.old Z Z Z), .dead, .dead, (.new 0 Z Z (.one Z)), (.new 1 Z Z .vec), (.old Z Z Z), .dead, .dead, (.old Z Z Z), Y⟩)) (W.lookup (fk := vU) (fv := vI) (k := fk2.1) (z := 0) E3 Z (fun _ => Z) Z Z Z Z ?_))))))
   refine W.build Z Z Z Z (.v Z Z (W.storeAgg Z Z Z Z Z Z Z (.nil (b5 (.ret ?_)))))
   obtain rfl := oi h
   exact Done.ret Z Z
theorem an0 {av : List Int} {bv : List Int} {r : Int × k8} (h : J8 av bv = some r) : f7 prog 23 [.c (row 1 intI av), .c (row 1 intI bv)] (.tup [.c (int r.1), .agg [int r.2.code, int r.2.index]]) := by
 unfold f7
 refine FnOk.enter (rs := [.t 4, .cell 5 27 2]) func23 Z ntmps23 results23 Z ⟨trivial, rv _ Z, Y⟩ (by kernel_rfl) Z ?_
 unfold J8 at h
 refine AWP.q (.u (.v Z Z (W.alloc Z Z Z Z (.nil (b5 (.q (.seqJ (⟨[(0, .c (row 1 intI av)), (1, .c (row 1 intI bv)), (5, .c (.ptr 0 0 0)), (21, .c (bool ((decide (60 < (av.length : Int))) || (decide (60 < (bv.length : Int))))))], [.one (.cells 2 [[int 0, int 0]])]⟩) ?_ ?_)))))))
 ·rcases bft (decide (60 < (av.length : Int))) with hb1 | hb1
  ·refine AWP.u (.j Z Z (S.len Z Z (fun hl15 => .gtr Z Z Z (.j Z Z (.B Z Z Z hb1 (.B Z Z Z hb1 (.B Z Z Z hb1 (.O Z hb1 Z Z (.nil (b5 ?_))))))))))
   simp only [V9 hb1, or_t hb1, Bool.false_or, Bool.true_or, Bool.false_and, Bool.true_and]
   exact Sub.env ⟨Z, Z, Z, Z, Y⟩
  ·refine AWP.u (.j Z Z (S.len Z Z (fun hl15 => .gtr Z Z Z (.j Z Z (.z Z Z Z hb1 (.j Z Z ?_))))))
   refine AOps.z Z Z Z hb1 ?_; refine S.len Z Z (fun hl19 => ?_)
   refine AOps.z Z Z Z hb1 (.gtr Z Z Z (.U Z hb1 Z Z (.nil (b5 ?_))))
   simp only [Q0 hb1, or_f hb1, Bool.false_or, Bool.true_or, Bool.false_and, Bool.true_and]
   exact Sub.env ⟨Z, Z, Z, Z, Y⟩
 ·refine AWP.ag Z h (fun hc3 h => ?_) (fun hc3 h => ?_)
  ·refine AWP.q (.u (W.build Z Z Z Z (.v Z Z (W.storeAgg Z Z Z Z Z Z Z (.nil (b5 (.ret (e8 ?_))))))))
   obtain rfl := oi h
   exact Done.ret Z Z
  ·refine AWP.skip (b5 (.q ?_))
   obtain ⟨a26, ha26, h⟩ := bind_some h
   refine AWP.u (.j Z Z (S.len Z Z (fun hl24 => S.add Z Z Z (S.make (f := intI) ha26 (.val .nil) Z Z Z Z Z Z (.v Z Z (.nil (b5 (.q (.q (.u (.j Z Z (S.lenO Z Z Z (fun hl28 => .j Z Z (.nil (b5 (.J ?_))))))))))))))))
   obtain ⟨c4, ho1, h⟩ := bind_some h
   refine AWP.forS ho1 (fun t5 c4 => ⟨[(0, .c (row 1 intI av)), (1, .c (row 1 intI bv)), (5, .c (.ptr 0 0 0)), (6, .c (.own 1 0 c4.length)), (28, .c (int (a26.length : Int))), (29, .c (int t5))], [.one (.cells 2 [[int 0, int 0]]), .one (vec 1 intI c4)]⟩) (fun c4 e st => e = .exit 0 ∧ Sub [] st ⟨[(0, .c (row 1 intI av)), (1, .c (row 1 intI bv)), (5, .c (.ptr 0 0 0)), (6, .c (.own 1 0 c4.length))], [.one (.cells 2 [[int 0, int 0]]), .one (vec 1 intI c4)]⟩) ?_ ?_ ?_ ?_
   ·try dsimp only
    exact Sub.env ⟨Z, Z, Z, Z, Z, Z, Y⟩
   ·intro t5 c4 hlot5 hltt5 _
    try dsimp only
    refine AWP.q (.u (.F Z Z Z (.nil (b5 (.q (.ad Z hltt5 (.exit (d9 (d9 ⟨Z, ?_⟩)))))))))
    exact Sub.env ⟨Z, Z, Z, Z, Y⟩
   ·intro t5 c4 o hlot5 hltt5 h
    unfold J7 at h
    try dsimp only at h ⊢
    refine AWP.q (.u (.F Z Z Z (.nil (b5 (.q (.ae Z hltt5 (.skip (b5 (.q (.J (.q (.u (.j Z Z (.v Z Z (.nil (b5 ?_))))))))))))))))
    obtain ⟨a35, ha35, h⟩ := bind_some h
    refine AWP.u (.j Z Z (.j Z Z (.j Z Z (S.idxO ha35 Z Z Z Z Z (S.storeO1 (f := intI) (a' := t5) (e9 ha35) (fun _ => ⟨_, Z⟩) Z Z Z Z Z ?_)))))
    refine AOps.nil (e7 (b5 (.u (.add Z Z Z (by omega) (.j Z Z (.nil ?_))))))
    obtain rfl := oi h
    refine b5 (Sub.env ⟨Z, Z, Z, (J4 (by first | rfl | simp only [List.length_set])), Z, Z, Y⟩)
   ·intro e s hq
    obtain ⟨rfl, hs⟩ := hq
    refine ⟨_, hs, ?_⟩
    refine k6 (b5 (.q (.q (.u (.j Z Z (S.len Z Z (fun hl38 => .j Z Z (.nil (b5 (.J ?_))))))))))
    obtain ⟨c6, ho2, h⟩ := bind_some h
    refine AWP.forS ho2 (fun t7 c6 => ⟨[(1, .c (row 1 intI bv)), (5, .c (.ptr 0 0 0)), (6, .c (.own 1 0 c6.length)), (37, .c (row 1 intI av)), (38, .c (int (av.length : Int))), (39, .c (int t7))], [.one (.cells 2 [[int 0, int 0]]), .one (vec 1 intI c6)]⟩) (fun c6 e st => e = .exit 2 ∧ Sub [] st ⟨[(1, .c (row 1 intI bv)), (5, .c (.ptr 0 0 0)), (6, .c (.own 1 0 c6.length))], [.one (.cells 2 [[int 0, int 0]]), .one (vec 1 intI c6)]⟩) ?_ ?_ ?_ ?_
    ·try dsimp only
     exact Sub.env ⟨Z, Z, Z, Z, Z, Z, Y⟩
    ·intro t7 c6 hlot7 hltt7 _
     try dsimp only
     refine AWP.q (.u (.F Z Z Z (.nil (b5 (.q (.ad Z hltt7 (.exit (d9 (d9 ⟨Z, ?_⟩)))))))))
     exact Sub.env ⟨Z, Z, Z, Y⟩
    ·intro t7 c6 o hlot7 hltt7 h
     unfold F2 at h
     try dsimp only at h ⊢
     refine AWP.q (.u (.F Z Z Z (.nil (b5 (.q (.ae Z hltt7 (.skip (b5 (.q (.J (.q ?_)))))))))))
     obtain ⟨a41, ha41, h⟩ := bind_some h
     refine AWP.u (S.idx ha41 Z Z Z Z (.af Z Z Z Z (.v Z Z (.nil (b5 (.q ?_))))))
     obtain ⟨a44, ha44, h⟩ := bind_some h
     refine AWP.u (.j Z Z (S.idxO ha44 Z Z Z Z Z (S.loadO ha44 Z Z Z Z Z (.v Z Z (.nil (b5 (.q ?_)))))))
     obtain ⟨a47, ha47, a50, ha50, h⟩ := b2 h
     refine AWP.u (.j Z Z (S.idxO ha47 Z Z Z Z Z (S.loadO ha47 Z Z Z Z Z (S.add Z Z Z (S.idxO ha50 Z Z Z Z Z (S.storeO1 (f := intI) (a' := w64 (a47 + 1)) (e9 ha50) (fun _ => ⟨_, Z⟩) Z Z Z Z Z ?_))))))
     refine AOps.nil (b5 (.q (.u (.j Z Z (S.len Z Z (fun hl52 => .j Z Z (.nil (b5 (.J ?_)))))))))
     obtain ⟨⟨c8, diagonal9⟩, ho3, h⟩ := bind_some h
     try dsimp only at h
     refine AWP.forS ho3 (fun t10 (c8, diagonal9) => ⟨[(1, .c (row 1 intI bv)), (5, .c (.ptr 0 0 0)), (6, .c (.own 1 0 c8.length)), (9, .c (int a41)), (10, .c (int diagonal9)), (37, .c (row 1 intI av)), (38, .c (int (av.length : Int))), (39, .c (int t7)), (51, .c (row 1 intI bv)), (52, .c (int (bv.length : Int))), (53, .c (int t10))], [.one (.cells 2 [[int 0, int 0]]), .one (vec 1 intI c8)]⟩) (fun (c8, diagonal9) e st => e = .exit 4 ∧ Sub [] st ⟨[(1, .c (row 1 intI bv)), (5, .c (.ptr 0 0 0)), (6, .c (.own 1 0 c8.length)), (37, .c (row 1 intI av)), (38, .c (int (av.length : Int))), (39, .c (int t7))], [.one (.cells 2 [[int 0, int 0]]), .one (vec 1 intI c8)]⟩) ?_ ?_ ?_ ?_
     ·try dsimp only
      exact Sub.env ⟨Z, Z, (J4 (by first | rfl | simp only [List.length_set])), Z, Z, Z, Z, Z, Z, Z, Z, Y⟩
     ·intro t10 s hlot10 hltt10 _
      obtain ⟨c8, diagonal9⟩ := s
      try dsimp only
      refine AWP.q (.u (.F Z Z Z (.nil (b5 (.q (.ad Z hltt10 (.exit (d9 (d9 ⟨Z, ?_⟩)))))))))
      exact Sub.env ⟨Z, Z, Z, Z, Z, Z, Y⟩
     ·intro t10 s o hlot10 hltt10 h
      obtain ⟨c8, diagonal9⟩ := s
      unfold L9 at h
      try dsimp only at h ⊢
      refine AWP.q (.u (.F Z Z Z (.nil (b5 (.q (.ae Z hltt10 (.skip (b5 (.q (.J (.q ?_)))))))))))
      obtain ⟨a56, ha56, h⟩ := bind_some h
      refine AWP.u (.j Z Z (S.idx ha56 Z Z Z Z (.af Z Z Z Z (.v Z Z (.v Z Z (.nil (b5 (.q ?_))))))))
      obtain ⟨a60, ha60, a65, ha65, h⟩ := b2 h
      refine AWP.drawI mixed Z ?_
      refine i9.consF Z (fun E => AOps.j Z Z .N) Z (.consF Z (fun E => AOps.j Z Z .N) Z (.consF Z (fun E => S.idxO ha60 Z Z Z Z Z .N) Z (.consF Z (fun E => S.loadO ha60 Z Z Z Z Z .N) Z (.consF Z (fun E => AOps.j Z Z .N) Z (.consF Z (fun E => AOps.j Z Z .N) Z (.consF Z (fun E => AOps.add Z Z Z (by omega) .N) Z (.consF Z (fun E => S.idxO ha65 Z Z Z Z Z .N) Z (.consF Z (fun E => S.loadO ha65 Z Z Z Z Z .N) Z (.consF Z (fun E => AOps.min2 Z Z Z .N) Z (.consF Z (fun E => S.add Z Z Z .N) Z (.consF Z (fun E => AOps.v Z Z .N) Z ?_)))))))))))
      refine i9.done ?_
      dsimp only [j8]
      refine b5 ?_
      obtain ⟨nv11, hx12, h⟩ := bind_some h
      refine AWP.seqJ (⟨[(1, .c (row 1 intI bv)), (5, .c (.ptr 0 0 0)), (6, .c (.own 1 0 c8.length)), (9, .c (int a41)), (11, .c (int t10)), (13, .c (int nv11)), (37, .c (row 1 intI av)), (38, .c (int (av.length : Int))), (39, .c (int t7)), (51, .c (row 1 intI bv)), (52, .c (int (bv.length : Int))), (53, .c (int t10))], [.one (.cells 2 [[int 0, int 0]]), .one (vec 1 intI c8)]⟩) ?_ ?_
      ·refine AWP.q (.u (.j Z Z (.j Z Z (.eql Z Z Z (.nil (b5 (.ite Z hx12 (fun hc13 hx12 => ?_) (fun hc13 hx12 => ?_))))))))
       ·refine AWP.u (.j Z Z (.j Z Z (.min2 Z Z Z (.v Z Z (.nil ?_)))))
        obtain rfl := oi hx12
        refine b5 (Sub.env ⟨Z, Z, Z, Z, Z, Z, Z, Z, Z, Z, Z, Z, Y⟩)
       ·refine AWP.skip ?_
        obtain rfl := oi hx12
        refine b5 (Sub.env ⟨Z, Z, Z, Z, Z, Z, Z, Z, Z, Z, Z, Z, Y⟩)
      ·obtain ⟨a81, ha81, a84, ha84, h⟩ := b2 h
       refine AWP.u (.j Z Z (.j Z Z (.add Z Z Z (by omega) (.j Z Z (.j Z Z (.add Z Z Z (by omega) (S.idxO ha81 Z Z Z Z Z (S.loadO ha81 Z Z Z Z Z (.j Z Z (.v Z Z (S.idxO ha84 Z Z Z Z Z (S.storeO1 (f := intI) (a' := nv11) (e9 ha84) (fun _ => ⟨_, Z⟩) Z Z Z Z Z ?_))))))))))))
       refine AOps.nil (e7 (b5 (.u (.add Z Z Z (by omega) (.j Z Z (.nil ?_))))))
       obtain rfl := oi h
       refine b5 (Sub.env ⟨Z, Z, (J4 (by first | rfl | simp only [List.length_set])), Z, Z, Z, Z, Z, Z, Z, Z, Y⟩)
     ·intro e s hq
      obtain ⟨rfl, hs⟩ := hq
      refine ⟨_, hs, ?_⟩
      refine k6 (e7 (b5 (.u (.add Z Z Z (by omega) (.j Z Z (.nil ?_))))))
      obtain rfl := oi h
      refine b5 (Sub.env ⟨Z, Z, Z, Z, Z, Z, Y⟩)
    ·intro e s hq
     obtain ⟨rfl, hs⟩ := hq
     refine ⟨_, hs, ?_⟩
     refine k6 (b5 (.q ?_))
     obtain ⟨a90, ha90, h⟩ := bind_some h
     refine AWP.u (.j Z Z (.j Z Z (S.len Z Z (fun hl89 => S.idxO ha90 Z Z Z Z Z (S.loadO ha90 Z Z Z Z Z (W.build Z Z Z Z (.v Z Z (W.storeAgg Z Z Z Z Z Z Z (.nil (b5 (.ret ?_)))))))))))
     obtain rfl := oi h
     exact Done.ret Z Z
theorem law8_step_ok {r : d8} (h : ai4 = some r) : f7 prog 24 [] (.agg (tT r)) := by
 unfold f7
 refine FnOk.enter (rs := [.cell 0 25 4]) func24 Z ntmps24 results24 Z ⟨rv _ Z, Y⟩ (by kernel_rfl) Z ?_
 unfold ai4 at h
 refine AWP.q (.u (W.alloc Z Z Z Z (.nil (b5 (.q (.u (S.lit (f := intI) (l := [0]) (ess := [[int 0]]) Z Z Z Z Z Z Z ⟨⟨.inl Z, Y⟩, Y⟩ Z Z Z (S.lit (f := intI) (l := [1]) (ess := [[int 1]]) Z Z Z Z Z Z Z ⟨⟨.inl Z, Y⟩, Y⟩ Z Z Z (S.lit (f := intI) (l := [0]) (ess := [[int 0]]) Z Z Z Z Z Z Z ⟨⟨.inl Z, Y⟩, Y⟩ Z Z Z (S.lit (f := intI) (l := [1]) (ess := [[int 1]]) Z Z Z Z Z Z Z ⟨⟨.inl Z, Y⟩, Y⟩ Z Z Z (S.lit (f := intI) (l := [0]) (ess := [[int 0]]) Z Z Z Z Z Z Z ⟨⟨.inl Z, Y⟩, Y⟩ Z Z Z (W.build Z Z Z Z (S.lit (f := intI) (l := [1]) (ess := [[int 1]]) Z Z Z Z Z Z Z ⟨⟨.inl Z, Y⟩, Y⟩ Z Z Z (W.build Z Z Z Z ?_))))))))))))))
 refine AOps.frzV (id := 3) (l := [0]) (env2 := [(0, .c (.ptr 0 0 0)), (1, .c (.own 1 0 ([0].length))), (2, .c (.own 2 0 ([1].length))), (6, .agg [row 1 intI [0], .own 4 0 ([1].length), .own 5 0 ([0].length), int 1]), (8, .agg [.imm (.val nL), .own 6 0 ([1].length), .imm (.val nL), int 3])]) (σ2 := [.one (.cells 4 [[int 0, .imm (.val nL), .imm (.val nL), .imm (.val nL)]]), .one (vec 1 intI [0]), .one (vec 1 intI [1]), .dead, .one (vec 1 intI [1]), .one (vec 1 intI [0]), .one (vec 1 intI [1])]) Z Z (by exact ⟨⟨_, Z, .inl ⟨Z, Z⟩⟩, ⟨_, Z, .inl ⟨Z, Z⟩⟩, ⟨_, Z, .inl ⟨Z, Z⟩⟩, ⟨_, Z, ⟨.inr ⟨_, Z, Z, Z⟩, .inl ⟨Z, Z⟩, .inl ⟨Z, Z⟩, .inl ⟨Z, Z⟩, Y⟩⟩, ⟨_, Z, ⟨.inl ⟨Z, Z⟩, .inl ⟨Z, Z⟩, .inl ⟨Z, Z⟩, .inl ⟨Z, Z⟩, Y⟩⟩, Y⟩) Z (by exact ⟨⟨Z, .inl ⟨Z, Z⟩, .inl ⟨Z, Z⟩, .inl ⟨Z, Z⟩, .inl ⟨Z, Z⟩, Y⟩, FrzB.vec, FrzB.vec, trivial, FrzB.vec, FrzB.vec, FrzB.vec, Y⟩) ?_; refine AOps.frzV (id := 4) (l := [1]) (env2 := [(0, .c (.ptr 0 0 0)), (1, .c (.own 1 0 ([0].length))), (2, .c (.own 2 0 ([1].length))), (6, .agg [row 1 intI [0], row 1 intI [1], .own 5 0 ([0].length), int 1]), (8, .agg [.imm (.val nL), .own 6 0 ([1].length), .imm (.val nL), int 3])]) (σ2 := [.one (.cells 4 [[int 0, .imm (.val nL), .imm (.val nL), .imm (.val nL)]]), .one (vec 1 intI [0]), .one (vec 1 intI [1]), .dead, .dead, .one (vec 1 intI [0]), .one (vec 1 intI [1])]) Z Z (by exact ⟨⟨_, Z, .inl ⟨Z, Z⟩⟩, ⟨_, Z, .inl ⟨Z, Z⟩⟩, ⟨_, Z, .inl ⟨Z, Z⟩⟩, ⟨_, Z, ⟨.inl ⟨Z, Z⟩, .inr ⟨_, Z, Z, Z⟩, .inl ⟨Z, Z⟩, .inl ⟨Z, Z⟩, Y⟩⟩, ⟨_, Z, ⟨.inl ⟨Z, Z⟩, .inl ⟨Z, Z⟩, .inl ⟨Z, Z⟩, .inl ⟨Z, Z⟩, Y⟩⟩, Y⟩) Z (by exact ⟨⟨Z, .inl ⟨Z, Z⟩, .inl ⟨Z, Z⟩, .inl ⟨Z, Z⟩, .inl ⟨Z, Z⟩, Y⟩, FrzB.vec, FrzB.vec, trivial, trivial, FrzB.vec, FrzB.vec, Y⟩) ?_; refine AOps.frzV (id := 5) (l := [0]) (env2 := [(0, .c (.ptr 0 0 0)), (1, .c (.own 1 0 ([0].length))), (2, .c (.own 2 0 ([1].length))), (6, .agg [row 1 intI [0], row 1 intI [1], row 1 intI [0], int 1]), (8, .agg [.imm (.val nL), .own 6 0 ([1].length), .imm (.val nL), int 3])]) (σ2 := [.one (.cells 4 [[int 0, .imm (.val nL), .imm (.val nL), .imm (.val nL)]]), .one (vec 1 intI [0]), .one (vec 1 intI [1]), .dead, .dead, .dead, .one (vec 1 intI [1])]) Z Z (by exact ⟨⟨_, Z, .inl ⟨Z, Z⟩⟩, ⟨_, Z, .inl ⟨Z, Z⟩⟩, ⟨_, Z, .inl ⟨Z, Z⟩⟩, ⟨_, Z, ⟨.inl ⟨Z, Z⟩, .inl ⟨Z, Z⟩, .inr ⟨_, Z, Z, Z⟩, .inl ⟨Z, Z⟩, Y⟩⟩, ⟨_, Z, ⟨.inl ⟨Z, Z⟩, .inl ⟨Z, Z⟩, .inl ⟨Z, Z⟩, .inl ⟨Z, Z⟩, Y⟩⟩, Y⟩) Z (by exact ⟨⟨Z, .inl ⟨Z, Z⟩, .inl ⟨Z, Z⟩, .inl ⟨Z, Z⟩, .inl ⟨Z, Z⟩, Y⟩, FrzB.vec, FrzB.vec, trivial, trivial, trivial, FrzB.vec, Y⟩) ?_; refine AOps.frzV (id := 6) (l := [1]) (env2 := [(0, .c (.ptr 0 0 0)), (1, .c (.own 1 0 ([0].length))), (2, .c (.own 2 0 ([1].length))), (6, .agg [row 1 intI [0], row 1 intI [1], row 1 intI [0], int 1]), (8, .agg [.imm (.val nL), row 1 intI [1], .imm (.val nL), int 3])]) (σ2 := [.one (.cells 4 [[int 0, .imm (.val nL), .imm (.val nL), .imm (.val nL)]]), .one (vec 1 intI [0]), .one (vec 1 intI [1]), .dead, .dead, .dead, .dead]) Z Z (by exact ⟨⟨_, Z, .inl ⟨Z, Z⟩⟩, ⟨_, Z, .inl ⟨Z, Z⟩⟩, ⟨_, Z, .inl ⟨Z, Z⟩⟩, ⟨_, Z, ⟨.inl ⟨Z, Z⟩, .inl ⟨Z, Z⟩, .inl ⟨Z, Z⟩, .inl ⟨Z, Z⟩, Y⟩⟩, ⟨_, Z, ⟨.inl ⟨Z, Z⟩, .inr ⟨_, Z, Z, Z⟩, .inl ⟨Z, Z⟩, .inl ⟨Z, Z⟩, Y⟩⟩, Y⟩) Z (by exact ⟨⟨Z, .inl ⟨Z, Z⟩, .inl ⟨Z, Z⟩, .inl ⟨Z, Z⟩, .inl ⟨Z, Z⟩, Y⟩, FrzB.vec, FrzB.vec, trivial, trivial, trivial, trivial, Y⟩) ?_; refine S.lit (f := d7) (l := [(⟨[0], [1], [0], 1⟩ : i8), (⟨[], [1], [], 3⟩ : i8)]) (ess := [[row 1 intI [0], row 1 intI [1], row 1 intI [0], int 1], [.imm (.val nL), row 1 intI [1], .imm (.val nL), int 3]]) Z Z Z Z Z Z Z ⟨⟨.inl Z, .inl Z, .inl Z, .inl Z, Y⟩, ⟨.inr ⟨Z, _, Z⟩, .inl Z, .inr ⟨Z, _, Z⟩, .inl Z, Y⟩, Y⟩ Z Z Z ?_
 refine W.build Z Z Z Z (W.storeAgg Z Z Z Z Z Z Z (.nil (b5 (.frzV (id := 1) (l := [0]) (env2 := [(0, .c (.ptr 0 0 0))]) (σ2 := [.one (.cells 4 [[int 2, row 1 intI [0], .own 2 0 ([1].length), .own 7 0 (([(⟨[0], [1], [0], 1⟩ : i8), (⟨[], [1], [], 3⟩ : i8)]).length)]]), .dead, .one (vec 1 intI [1]), .dead, .dead, .dead, .dead, .one (vec 4 d7 ([(⟨[0], [1], [0], 1⟩ : i8), (⟨[], [1], [], 3⟩ : i8)]))]) Z Z (by exact ⟨⟨_, Z, .inl ⟨Z, Z⟩⟩, Y⟩) Z (by exact ⟨⟨Z, .inl ⟨Z, Z⟩, .inr ⟨_, Z, Z, Z⟩, .inl ⟨Z, Z⟩, .inl ⟨Z, Z⟩, Y⟩, trivial, FrzB.vec, trivial, trivial, trivial, trivial, FrzB.vec, Y⟩) (.frzV (id := 2) (l := [1]) (env2 := [(0, .c (.ptr 0 0 0))]) (σ2 := [.one (.cells 4 [[int 2, row 1 intI [0], row 1 intI [1], .own 7 0 (([(⟨[0], [1], [0], 1⟩ : i8), (⟨[], [1], [], 3⟩ : i8)]).length)]]), .dead, .dead, .dead, .dead, .dead, .dead, .one (vec 4 d7 ([(⟨[0], [1], [0], 1⟩ : i8), (⟨[], [1], [], 3⟩ : i8)]))]) Z Z (by exact ⟨⟨_, Z, .inl ⟨Z, Z⟩⟩, Y⟩) Z (by exact ⟨⟨Z, .inl ⟨Z, Z⟩, .inl ⟨Z, Z⟩, .inr ⟨_, Z, Z, Z⟩, .inl ⟨Z, Z⟩, Y⟩, trivial, trivial, trivial, trivial, trivial, trivial, FrzB.vec, Y⟩) (.frzV (id := 7) (l := [(⟨[0], [1], [0], 1⟩ : i8), (⟨[], [1], [], 3⟩ : i8)]) (env2 := [(0, .c (.ptr 0 0 0))]) (σ2 := [.one (.cells 4 [[int 2, row 1 intI [0], row 1 intI [1], row 4 d7 ([(⟨[0], [1], [0], 1⟩ : i8), (⟨[], [1], [], 3⟩ : i8)])]]), .dead, .dead, .dead, .dead, .dead, .dead, .dead]) Z Z (by exact ⟨⟨_, Z, .inl ⟨Z, Z⟩⟩, Y⟩) Z (by exact ⟨⟨Z, .inl ⟨Z, Z⟩, .inl ⟨Z, Z⟩, .inl ⟨Z, Z⟩, .inr ⟨_, Z, Z, Z⟩, Y⟩, trivial, trivial, trivial, trivial, trivial, trivial, trivial, Y⟩) (.ret ?_)))))))
 obtain rfl := oi h
 exact Done.ret Z Z
theorem ap1 {av : List Int} {bv : List Int} {r : Bool} (h : O7 av bv = some r) : f7 prog 25 [.c (row 1 intI av), .c (row 1 intI bv)] (.c (bool r)) := by
 unfold f7
 refine FnOk.enter (rs := [.t 4]) func25 Z ntmps25 results25 Z ⟨trivial, Y⟩ (by kernel_rfl) Z ?_
 unfold O7 at h
 refine AWP.q (.u (.v Z Z (.nil (b5 (.q (.q (.u (.j Z Z (S.len Z Z (fun hl7 => .j Z Z (S.len Z Z (fun hl9 => .neq Z Z Z (.nil (b5 (.iteN Z h (fun hc3 h => ?_) (fun hc3 h => ?_))))))))))))))))
 ·refine AWP.q (.u (.v Z Z (.nil (b5 (.ret (e8 ?_))))))
  obtain rfl := oi h
  exact Done.ret Z Z
 ·refine AWP.skip (b5 (.q (.q (.u (.v Z Z (.nil (b5 (.J ?_))))))))
  obtain ⟨oo, ho1, h⟩ := bind_some h
  refine AWP.rngS ho1 (fun iv4 _ => ⟨[(0, .c (row 1 intI av)), (1, .c (row 1 intI bv)), (5, .c (int iv4))], []⟩) (fun o e st => match o with | .inl _ => e = .exit 0 ∧ Sub [] st ⟨[], []⟩ | .inr x => e = .ret ∧ Done [.t 4] (fun t _ => t = .c (bool x)) .ret st) ?_ ?_ ?_ ?_
  ·try dsimp only
   exact Sub.env ⟨Z, Z, Z, Y⟩
  ·intro iv4 s hloiv4 hltiv4 _
   try dsimp only
   refine AWP.q (.q (.u (.j Z Z (.j Z Z (S.len Z Z (fun hl13 => .F Z Z Z (.nil (b5 (.ad Z hltiv4 (.exit (d9 (d9 ⟨Z, ?_⟩))))))))))))
   exact Sub.env trivial
  ·intro iv4 s o hloiv4 hltiv4 h
   unfold O2 at h
   try dsimp only at h ⊢
   refine AWP.q (.q (.u (.j Z Z (.j Z Z (S.len Z Z (fun hl13 => .F Z Z Z (.nil (b5 (.ae Z hltiv4 (.skip (b5 (.q (.J (.q ?_))))))))))))))
   obtain ⟨a19, ha19, a23, ha23, h⟩ := b2 h
   refine AWP.drawI mixed Z ?_
   refine i9.consF Z (fun E => AOps.j Z Z .N) Z (.consF Z (fun E => AOps.j Z Z .N) Z (.consF Z (fun E => S.idx ha19 Z Z Z Z .N) Z (.consF Z (fun E => AOps.af Z Z Z Z .N) Z (.consF Z (fun E => AOps.j Z Z .N) Z (.consF Z (fun E => AOps.j Z Z .N) Z (.consF Z (fun E => S.idx ha23 Z Z Z Z .N) Z (.consF Z (fun E => AOps.af Z Z Z Z .N) Z (.consF Z (fun E => AOps.neq Z Z Z .N) Z ?_))))))))
   refine i9.done ?_
   dsimp only [j8]
   refine b5 (.iteN Z h (fun hc5 h => ?_) (fun hc5 h => ?_))
   ·refine AWP.q (.u (.v Z Z (.nil (b5 (.ret (l7 (e8 ?_)))))))
    obtain rfl := oi h
    refine e8 ⟨_, Z, Z, ?_⟩
    exact Done.ret Z Z
   ·refine AWP.skip (e7 (b5 (.u (.j Z Z (.add Z Z Z (by omega) (.v Z Z (.nil ?_)))))))
    obtain rfl := oi h
    refine b5 ⟨_, Z, ?_⟩
    exact Sub.env ⟨Z, Z, Z, Y⟩
  ·intro e s hq
   rcases oo with u | x
   ·try dsimp only at h hq
    obtain ⟨rfl, hs⟩ := hq
    refine ⟨_, hs, ?_⟩
    refine k6 (b5 (.q (.u (.v Z Z (.nil (b5 (.ret ?_)))))))
    obtain rfl := oi h
    exact Done.ret Z Z
   ·try dsimp only at h hq
    obtain ⟨rfl, hs⟩ := hq
    refine ⟨_, Sub.refl _ _, ?_⟩
    refine l7 (e8 ?_)
    obtain rfl := oi h
    exact hs
theorem ai5 {r : Bool} (h : N3 = some r) : f7 prog 7 [] (.c (bool r)) := by
 unfold f7
 refine FnOk.enter (rs := [.t 0]) func7 Z ntmps7 results7 Z ⟨trivial, Y⟩ (by kernel_rfl) Z ?_
 unfold N3 at h
 refine AWP.q (.u (.v Z Z (.nil (b5 (.q ?_)))))
 obtain ⟨a10, ha10, h⟩ := bind_some h
 refine AWP.u (S.lit (f := intI) (l := [1, 2]) (ess := [[int 1], [int 2]]) Z Z Z Z Z Z Z ⟨⟨.inl Z, Y⟩, ⟨.inl Z, Y⟩, Y⟩ Z Z Z (S.lit (f := intI) (l := [2, 3]) (ess := [[int 2], [int 3]]) Z Z Z Z Z Z Z ⟨⟨.inl Z, Y⟩, ⟨.inl Z, Y⟩, Y⟩ Z Z Z (.callL Z Z (.cons (.c (.own Z Z)) (.cons (.c (.own Z Z)) .nil)) Z (an0 ha10) Z (.j Z Z (.ab Z Z Z (.ab Z Z Z (W.alloc Z Z Z Z (.v Z Z (W.storeAgg Z Z Z Z Z Z Z (.nil (b5 (.q ?_))))))))))))
 obtain ⟨a14, ha14, a16, ha16, h⟩ := b2 h
 refine AWP.u (.aa Z Z Z Z (law8_step_ok ha14) Z (S.lit (f := intI) (l := [1]) (ess := [[int 1]]) Z Z Z Z Z Z Z ⟨⟨.inl Z, Y⟩, Y⟩ Z Z Z (.frzV (id := 3) (l := [1]) (env2 := [(1, .c (int a10.1)), (2, .c (.ptr 2 0 0)), (14, .agg (tT a14)), (15, .c (row 1 intI [1]))]) (σ2 := [.one (vec 1 intI [1, 2]), .one (vec 1 intI [2, 3]), .one (.cells 2 [[int a10.2.code, int a10.2.index]]), .dead]) Z Z (by exact ⟨⟨_, Z, .inl ⟨Z, Z⟩⟩, ⟨_, Z, .inl ⟨Z, Z⟩⟩, ⟨_, Z, ⟨.inl ⟨Z, Z⟩, .inl ⟨Z, Z⟩, .inl ⟨Z, Z⟩, .inl ⟨Z, Z⟩, Y⟩⟩, ⟨_, Z, .inr ⟨_, Z, Z, Z⟩⟩, Y⟩) Z (by exact ⟨FrzB.vec, FrzB.vec, ⟨Z, .inl ⟨Z, Z⟩, .inl ⟨Z, Z⟩, Y⟩, trivial, Y⟩) (.aa Z Z Z Z (ak8 ha16) Z (.j Z Z (.ab Z Z Z (.ab Z Z Z (.ab Z Z Z (.ab Z Z Z (W.alloc Z Z Z Z (.v Z Z (.v Z Z (.v Z Z (W.storeAgg Z Z Z Z Z Z Z (.nil (b5 ?_))))))))))))))))
 obtain ⟨t1, hx2, h⟩ := bind_some h
 refine AWP.seqJ (⟨[(0, .c (bool t1))], []⟩) ?_ ?_
 ·rcases bft (decide (a10.2.code = 0)) with hb3 | hb3
  ·replace hx2 := I8 hb3 hx2
   rcases bft (decide (a16.2.2.2.code = 0)) with hb4 | hb4
   ·replace hx2 := I8 hb4 hx2
    rcases bft (decide (a10.1 = 2)) with hb5 | hb5
    ·replace hx2 := I8 hb5 hx2
     rcases bft (a16.2.2.1) with hb6 | hb6
     ·replace hx2 := iteBT hb6 hx2
      rcases bft (decide (a16.2.1 = 0)) with hb7 | hb7
      ·replace hx2 := I8 hb7 hx2
       obtain ⟨a43, ha43, hx2⟩ := bind_some hx2
       refine AWP.u (W.fieldAddr Z Z Z Z (.E Z Z Z Z Z Z (.eql Z Z Z (.j Z Z (.z Z Z Z hb3 (W.fieldAddr Z Z Z Z (.z Z Z Z hb3 (.E Z Z Z Z Z Z (.z Z Z Z hb3 (.eql Z Z Z (.O Z hb3 Z Z (.j Z Z (.z Z Z Z hb4 (.j Z Z (.z Z Z Z hb4 (.eql Z Z Z (.O Z hb4 Z Z (.j Z Z (.z Z Z Z hb5 (.j Z Z (.O Z hb5 Z Z (.j Z Z (.z Z Z Z hb6 (.j Z Z (.z Z Z Z hb6 (.eql Z Z Z (.O Z hb6 Z Z (.j Z Z (.z Z Z Z hb7 (.j Z Z (.z Z Z Z hb7 (S.lit (f := intI) (l := [1]) (ess := [[int 1]]) Z Z Z Z Z Z Z ⟨⟨.inl Z, Y⟩, Y⟩ Z Z Z (.z Z Z Z hb7 (.callL Z Z (.cons (.c .imm) (.cons (.c (.own Z Z)) .nil)) Z (ap1 ha43) Z (.O Z hb7 Z Z (.v Z Z (.nil ?_)))))))))))))))))))))))))))))))))))))
       obtain rfl := oi hx2
       refine b5 (Sub.cut ⟨Z, Y⟩ Z trivial Z)
      ·replace hx2 := J1 hb7 hx2
       refine AWP.u (W.fieldAddr Z Z Z Z (.E Z Z Z Z Z Z (.eql Z Z Z (.j Z Z (.z Z Z Z hb3 (W.fieldAddr Z Z Z Z (.z Z Z Z hb3 (.E Z Z Z Z Z Z (.z Z Z Z hb3 (.eql Z Z Z (.O Z hb3 Z Z (.j Z Z (.z Z Z Z hb4 (.j Z Z (.z Z Z Z hb4 (.eql Z Z Z (.O Z hb4 Z Z (.j Z Z (.z Z Z Z hb5 (.j Z Z (.O Z hb5 Z Z (.j Z Z (.z Z Z Z hb6 (.j Z Z (.z Z Z Z hb6 (.eql Z Z Z (.O Z hb6 Z Z (.j Z Z (.B Z Z Z hb7 (.B Z Z Z hb7 (.B Z Z Z hb7 (.U Z hb7 Z Z (.v Z Z (.nil ?_))))))))))))))))))))))))))))))))))
       obtain rfl := oi hx2
       refine b5 (Sub.cut ⟨Z, Y⟩ Z trivial Z)
     ·replace hx2 := iteBF hb6 hx2
      refine AWP.u (W.fieldAddr Z Z Z Z (.E Z Z Z Z Z Z (.eql Z Z Z (.j Z Z (.z Z Z Z hb3 (W.fieldAddr Z Z Z Z (.z Z Z Z hb3 (.E Z Z Z Z Z Z (.z Z Z Z hb3 (.eql Z Z Z (.O Z hb3 Z Z (.j Z Z (.z Z Z Z hb4 (.j Z Z (.z Z Z Z hb4 (.eql Z Z Z (.O Z hb4 Z Z (.j Z Z (.z Z Z Z hb5 (.j Z Z (.O Z hb5 Z Z (.j Z Z (.B Z Z Z hb6 (.B Z Z Z hb6 (.U Z hb6 Z Z (.j Z Z (.B Z Z Z Z (.B Z Z Z Z (.B Z Z Z Z (.U Z Z Z Z (.v Z Z (.nil ?_))))))))))))))))))))))))))))))))
      obtain rfl := oi hx2
      refine b5 (Sub.cut ⟨Z, Y⟩ Z trivial Z)
    ·replace hx2 := J1 hb5 hx2
     refine AWP.u (W.fieldAddr Z Z Z Z (.E Z Z Z Z Z Z (.eql Z Z Z (.j Z Z (.z Z Z Z hb3 (W.fieldAddr Z Z Z Z (.z Z Z Z hb3 (.E Z Z Z Z Z Z (.z Z Z Z hb3 (.eql Z Z Z (.O Z hb3 Z Z (.j Z Z (.z Z Z Z hb4 (.j Z Z (.z Z Z Z hb4 (.eql Z Z Z (.O Z hb4 Z Z (.j Z Z (.B Z Z Z hb5 (.U Z hb5 Z Z (.j Z Z (.B Z Z Z Z (.B Z Z Z Z (.U Z Z Z Z (.j Z Z (.B Z Z Z Z (.B Z Z Z Z (.B Z Z Z Z (.U Z Z Z Z (.v Z Z (.nil ?_)))))))))))))))))))))))))))))))
     obtain rfl := oi hx2
     refine b5 (Sub.cut ⟨Z, Y⟩ Z trivial Z)
   ·replace hx2 := J1 hb4 hx2
    refine AWP.u (W.fieldAddr Z Z Z Z (.E Z Z Z Z Z Z (.eql Z Z Z (.j Z Z (.z Z Z Z hb3 (W.fieldAddr Z Z Z Z (.z Z Z Z hb3 (.E Z Z Z Z Z Z (.z Z Z Z hb3 (.eql Z Z Z (.O Z hb3 Z Z (.j Z Z (.B Z Z Z hb4 (.B Z Z Z hb4 (.U Z hb4 Z Z (.j Z Z (.B Z Z Z Z (.U Z Z Z Z (.j Z Z (.B Z Z Z Z (.B Z Z Z Z (.U Z Z Z Z (.j Z Z (.B Z Z Z Z (.B Z Z Z Z (.B Z Z Z Z (.U Z Z Z Z (.v Z Z (.nil ?_)))))))))))))))))))))))))))))
    obtain rfl := oi hx2
    refine b5 (Sub.cut ⟨Z, Y⟩ Z trivial Z)
  ·replace hx2 := J1 hb3 hx2
   refine AWP.u (W.fieldAddr Z Z Z Z (.E Z Z Z Z Z Z (.eql Z Z Z (.j Z Z (.B Z Z Z hb3 (.B Z Z Z hb3 (.B Z Z Z hb3 (.U Z hb3 Z Z (.j Z Z (.B Z Z Z Z (.B Z Z Z Z (.U Z Z Z Z (.j Z Z (.B Z Z Z Z (.U Z Z Z Z (.j Z Z (.B Z Z Z Z (.B Z Z Z Z (.U Z Z Z Z (.j Z Z (.B Z Z Z Z (.B Z Z Z Z (.B Z Z Z Z (.U Z Z Z Z (.v Z Z (.nil ?_))))))))))))))))))))))))))
   obtain rfl := oi hx2
   refine b5 (Sub.cut ⟨Z, Y⟩ Z trivial Z)
 ·refine AWP.ret ?_
  obtain rfl := oi h
  exact Done.ret Z Z
theorem ac8 {t : d8} {plan : List Int} {r : Bool} (h : B9 t plan = some r) : f7 prog 4 [.agg (tT t), .c (row 1 intI plan)] (.c (bool r)) := by
 unfold f7
 refine FnOk.enter (rs := [.t 4]) func4 Z ntmps4 results4 Z ⟨trivial, Y⟩ (by kernel_rfl) Z ?_
 unfold B9 at h
 refine AWP.q (.u (W.box Z Z Z Z Z Z (.v Z Z (.nil (b5 (.q ?_))))))
 obtain ⟨a14, ha14, h⟩ := bind_some h
 refine AWP.u (W.loadAgg Z Z Z Z Z Z Z (.j Z Z (.aa Z Z Z Z (ak8 ha14) Z (.j Z Z (.ab Z Z Z (.ab Z Z Z (.ab Z Z Z (.ab Z Z Z (W.alloc Z Z Z Z (.v Z Z (.v Z Z (.v Z Z (W.storeAgg Z Z Z Z Z Z Z (.nil (b5 (.q ?_))))))))))))))))
 obtain ⟨a21, ha21, h⟩ := bind_some h
 refine AWP.u (W.loadAgg Z Z Z Z Z Z Z (.aa Z Z Z Z (ap3 ha21) Z (.j Z Z (.ab Z Z Z (.ab Z Z Z (W.alloc Z Z Z Z (.v Z Z (W.storeAgg Z Z Z Z Z Z Z (.nil (b5 (.q (.seqJ (⟨[(7, .c (bool a14.2.2.1)), (9, .c (int a21.1)), (31, .c (bool ((!(decide (a14.2.2.2.code = 0))) || (!(decide (a21.2.code = 0))))))], [.one (.cells 4 [(tT t)]), .one (.cells 2 [[int a14.2.2.2.code, int a14.2.2.2.index]]), .one (.cells 2 [[int a21.2.code, int a21.2.index]])]⟩) ?_ ?_))))))))))))
 ·rcases bft (!(decide (a14.2.2.2.code = 0))) with hb1 | hb1
  ·refine AWP.u (W.fieldAddr Z Z Z Z (.E Z Z Z Z Z Z (.neq Z Z Z (.j Z Z (.B Z Z Z hb1 (.B Z Z Z hb1 (.B Z Z Z hb1 (.O Z hb1 Z Z (.nil (b5 ?_))))))))))
   simp only [V9 hb1, or_t hb1, Bool.false_or, Bool.true_or, Bool.false_and, Bool.true_and]
   exact Sub.env ⟨Z, Z, Z, Y⟩
  ·refine AWP.u (W.fieldAddr Z Z Z Z (.E Z Z Z Z Z Z (.neq Z Z Z (.j Z Z (.z Z Z Z hb1 (W.fieldAddr Z Z Z Z (.z Z Z Z hb1 (.E Z Z Z Z Z Z (.z Z Z Z hb1 (.neq Z Z Z (.U Z hb1 Z Z (.nil (b5 ?_)))))))))))))
   simp only [Q0 hb1, or_f hb1, Bool.false_or, Bool.true_or, Bool.false_and, Bool.true_and]
   exact Sub.env ⟨Z, Z, Z, Y⟩
 ·refine AWP.ag Z h (fun hc3 h => ?_) (fun hc3 h => ?_)
  ·refine AWP.q ?_
   obtain ⟨a32, ha32, h⟩ := bind_some h
   refine AWP.u (.aa Z Z Z Z (ai5 ha32) Z (.v Z Z (.nil (b5 (.ret (e8 ?_))))))
   obtain rfl := oi h
   exact Done.ret Z Z
  ·refine AWP.skip (b5 ?_)
   obtain ⟨t4, hx5, h⟩ := bind_some h
   refine AWP.seqJ (⟨[(4, .c (bool t4))], []⟩) ?_ ?_
   ·rcases bft (decide (a14.2.2.1 = (decide (a21.1 < 1000000000)))) with hb6 | hb6
    ·replace hx5 := I8 hb6 hx5
     obtain ⟨a38, ha38, hx5⟩ := bind_some hx5
     refine AWP.u (.j Z Z (.j Z Z (.F Z Z Z (.eqlB Z Z Z (.j Z Z (.z Z Z Z hb6 (.aa Z Z Z Z (ai5 ha38) Z (.O Z hb6 Z Z (.v Z Z (.nil ?_))))))))))
     obtain rfl := oi hx5
     refine b5 (Sub.cut ⟨Z, Y⟩ Z trivial Z)
    ·replace hx5 := J1 hb6 hx5
     refine AWP.u (.j Z Z (.j Z Z (.F Z Z Z (.eqlB Z Z Z (.j Z Z (.B Z Z Z hb6 (.U Z hb6 Z Z (.v Z Z (.nil ?_)))))))))
     obtain rfl := oi hx5
     refine b5 (Sub.cut ⟨Z, Y⟩ Z trivial Z)
   ·refine AWP.ret ?_
    obtain rfl := oi h
    exact Done.ret Z Z
end Ab
end
section
namespace Ab
open Go
theorem D7 {α : Type} {l : List α} {k : Nat} : ix l (k : Int) = l[k]? := by simp [ix]
theorem m7 {α : Type} {l : List α} {i : Int} (h0 : 0 ≤ i) (h1 : i < l.length) : ∃ a, ix l i = some a ∧ l[i.toNat]? = some a := by
 have h : i.toNat < l.length := by omega
 exact ⟨l[i.toNat], by simp [ix, h0, h], by simp [h]⟩
theorem o7 {α : Type} {l : List α} {i : Int} {a : α} (h : ix l i = some a) : 0 ≤ i ∧ i < l.length ∧ l[i.toNat]? = some a := by
 unfold ix at h
 split at h
 ·have := (List.getElem?_eq_some_iff.1 h).1
  exact ⟨by assumption, by omega, h⟩
 ·cases h
theorem v7 {n : Int} (h1 : -9223372036854775808 ≤ n) (h2 : n ≤ 9223372036854775807) : w64 n = n := w64_eq ⟨h1, h2⟩
theorem forN_inv {S : Type} {body : Int → S → Option S} (P : Int → S → Prop) : ∀ (k : Nat) (i : Int) (s : S), P i s →
  (∀ j s, i ≤ j → j < i + k → P j s → ∃ s', body j s = some s' ∧ P (j + 1) s') → ∃ s', forN body k i s = some s' ∧ P (i + k) s'
 | 0, i, s, h, _ => ⟨s, rfl, by simpa using h⟩
 | k + 1, i, s, h, hb => by
  obtain ⟨s1, h1, h2⟩ := hb i s (Int.le_refl _) (by omega) h
  obtain ⟨s2, h3, h4⟩ := forN_inv P k (i + 1) s1 h2 (fun j s g1 g2 => hb j s (by omega) (by omega))
  exact ⟨s2, by simp only [forN, h1]; exact h3, by rw [show i + ((k + 1 : Nat) : Int) = i + 1 + k by omega]; exact h4⟩
theorem E4 {S : Type} {body : Int → S → Option S} {n : Int} (P : Int → S → Prop) {s : S} (hn : 0 ≤ n) (h0 : P 0 s)
  (hb : ∀ j s, 0 ≤ j → j < n → P j s → ∃ s', body j s = some s' ∧ P (j + 1) s') : ∃ s', forR 0 n body s = some s' ∧ P n s' := by
 obtain ⟨s', h1, h2⟩ := forN_inv P (n - 0).toNat 0 s h0 (fun j s g1 g2 => hb j s g1 (by omega))
 exact ⟨s', h1, by rwa [show (0 : Int) + ((n - 0).toNat : Int) = n by omega] at h2⟩
theorem rngN_inv {S O : Type} {body : Int → S → Option (S ⊕ O)} (P : Int → S → Prop) (Q : O → Prop) : ∀ (k : Nat) (i : Int) (s : S), P i s →
  (∀ j s, i ≤ j → j < i + k → P j s → (∃ s', body j s = some (.inl s') ∧ P (j + 1) s') ∨ ∃ o, body j s = some (.inr o) ∧ Q o) →
  (∃ s', rngN body k i s = some (.inl s') ∧ P (i + k) s') ∨ ∃ o, rngN body k i s = some (.inr o) ∧ Q o
 | 0, i, s, h, _ => .inl ⟨s, rfl, by simpa using h⟩
 | k + 1, i, s, h, hb => by
  rcases hb i s (Int.le_refl _) (by omega) h with ⟨s1, h1, h2⟩ | ⟨o, h1, h2⟩
  ·rcases rngN_inv P Q k (i + 1) s1 h2 (fun j s g1 g2 => hb j s (by omega) (by omega)) with ⟨s2, h3, h4⟩ | ⟨o, h3, h4⟩
   ·exact .inl ⟨s2, by simp only [rngN, h1]; exact h3, by rw [show i + ((k + 1 : Nat) : Int) = i + 1 + k by omega]; exact h4⟩
   ·exact .inr ⟨o, by simp only [rngN, h1]; exact h3, h4⟩
  ·exact .inr ⟨o, by simp only [rngN, h1], h2⟩
theorem am5 {S O : Type} {body : Int → S → Option (S ⊕ O)} {n : Int} (P : Int → S → Prop) (Q : O → Prop) {s : S} (hn : 0 ≤ n) (h0 : P 0 s)
  (hb : ∀ j s, 0 ≤ j → j < n → P j s → (∃ s', body j s = some (.inl s') ∧ P (j + 1) s') ∨ ∃ o, body j s = some (.inr o) ∧ Q o) :
  (∃ s', rngX 0 n body s = some (.inl s') ∧ P n s') ∨ ∃ o, rngX 0 n body s = some (.inr o) ∧ Q o := by
 rcases rngN_inv P Q (n - 0).toNat 0 s h0 (fun j s g1 g2 => hb j s g1 (by omega)) with ⟨s', h1, h2⟩ | h
 ·exact .inl ⟨s', h1, by rwa [show (0 : Int) + ((n - 0).toNat : Int) = n by omega] at h2⟩
 ·exact .inr h
theorem LoopN_inv {S O : Type} {body : S → Option (S ⊕ O)} (P : S → Prop) (Q : O → Prop) (μ : S → Nat) (hb : ∀ s, P s → (∃ s', body s = some (.inl s') ∧ P s' ∧ μ s' < μ s) ∨ ∃ o, body s = some (.inr o) ∧ Q o) :
  ∀ (k : Nat) (s : S), μ s < k → P s → ∃ o, F8 body k s = some o ∧ Q o
 | 0, s, h, _ => by omega
 | k + 1, s, h, hs => by
  rcases hb s hs with ⟨s', h1, h2, h3⟩ | ⟨o, h1, h2⟩
  ·obtain ⟨o, g1, g2⟩ := LoopN_inv P Q μ hb k s' (by omega) h2
   exact ⟨o, by simp only [F8, h1]; exact g1, g2⟩
  ·exact ⟨o, by simp only [F8, h1], h2⟩
theorem O4 {S O : Type} {body : S → Option (S ⊕ O)} (P : S → Prop) (Q : O → Prop) (μ : S → Nat) {s : S} (hs : P s)
  (hb : ∀ s, P s → (∃ s', body s = some (.inl s') ∧ P s' ∧ μ s' < μ s) ∨ ∃ o, body s = some (.inr o) ∧ Q o) : ∃ o, Loop body s = some o ∧ Q o := by
 obtain ⟨o, h1, h2⟩ := LoopN_inv P Q μ hb (μ s + 1) s (by omega) hs
 exact ⟨o, ah1.2 ⟨_, h1⟩, h2⟩
/-! ### Two loops that do the same -/
theorem rngN_eq {S O : Type} {b1 b2 : Int → S → Option (S ⊕ O)} (P : Int → S → Prop) : ∀ (k : Nat) (i : Int) (s : S), P i s →
  (∀ j s, i ≤ j → j < i + k → P j s → b1 j s = b2 j s ∧ b1 j s ≠ none ∧ ∀ s', b1 j s = some (.inl s') → P (j + 1) s') →
  rngN b1 k i s = rngN b2 k i s ∧ rngN b1 k i s ≠ none ∧ ∀ s', rngN b1 k i s = some (.inl s') → P (i + k) s'
 | 0, i, s, h, _ => ⟨rfl, by simp [rngN], fun s' hs => by simp only [rngN, Option.some.injEq, Sum.inl.injEq] at hs; subst hs; simpa using h⟩
 | k + 1, i, s, h, hb => by
  obtain ⟨h1, h2, h3⟩ := hb i s (Int.le_refl _) (by omega) h
  simp only [rngN]
  rw [← h1]
  cases hc : b1 i s with
  | none => exact absurd hc h2
  | some x =>
   cases x with
   | inr o => exact ⟨rfl, by simp, fun s' hs => by simp at hs⟩
   | inl s1 =>
    dsimp only
    have := rngN_eq (b1 := b1) (b2 := b2) P k (i + 1) s1 (h3 s1 hc) (fun j s g1 g2 => hb j s (by omega) (by omega))
    rwa [show i + 1 + (k : Int) = i + ((k + 1 : Nat) : Int) by omega] at this
theorem rngX_eq {S O : Type} {b1 b2 : Int → S → Option (S ⊕ O)} {n : Int} (P : Int → S → Prop) {s : S} (hn : 0 ≤ n) (h0 : P 0 s)
  (hb : ∀ j s, 0 ≤ j → j < n → P j s → b1 j s = b2 j s ∧ b1 j s ≠ none ∧ ∀ s', b1 j s = some (.inl s') → P (j + 1) s') :
  rngX 0 n b1 s = rngX 0 n b2 s ∧ rngX 0 n b1 s ≠ none ∧ ∀ s', rngX 0 n b1 s = some (.inl s') → P n s' := by
 have := rngN_eq P (n - 0).toNat 0 s h0 (fun j s g1 g2 => hb j s g1 (by omega))
 rwa [show (0 : Int) + ((n - 0).toNat : Int) = n by omega] at this
end Ab
end
section
namespace Ab
open Go
noncomputable def dec (p : Prop) : Bool := @decide p (Classical.propDecidable p)
@[simp] theorem j9 {p : Prop} : dec p = true ↔ p := by simp [dec]
@[simp] theorem dec_false {p : Prop} : dec p = false ↔ ¬ p := by simp [dec]
@[simp] theorem N6 {p : Prop} : (!dec p) = dec (¬ p) := by by_cases h : p <;> simp [dec, h]
theorem decide_dec {p : Prop} [Decidable p] : decide p = dec p := by by_cases h : p <;> simp [dec, h]
theorem m6 {p : Prop} (h : p) : dec p = true := j9.2 h
theorem A4 {p : Prop} (h : ¬ p) : dec p = false := dec_false.2 h
theorem L4 {p q : Prop} (h : p ↔ q) : dec p = dec q := by rw [propext h]
theorem dec_and {p q : Prop} : (dec p && dec q) = dec (p ∧ q) := by by_cases h : p <;> by_cases g : q <;> simp [dec, h, g]
theorem dec_or {p q : Prop} : (dec p || dec q) = dec (p ∨ q) := by by_cases h : p <;> by_cases g : q <;> simp [dec, h, g]
theorem ifP {α : Type} {p : Prop} {a b : α} (h : p) : (if dec p = true then a else b) = a := if_pos (m6 h)
theorem ifN {α : Type} {p : Prop} {a b : α} (h : ¬ p) : (if dec p = true then a else b) = b := if_neg fun g => h (j9.1 g)
theorem ifNN {α : Type} {p : Prop} {a b : α} (h : p) : (if dec (¬ p) = true then a else b) = b := ifN (not_not_intro h)
theorem ix_ltN {α : Type} {l : List α} {k : Nat} (h : k < l.length) : ix l (k : Int) = some l[k] := by rw [D7]; simp [h]
theorem r8 {α : Type} {l : List α} {i : Int} {a : α} (h : ix l i = some a) : a ∈ l := List.mem_of_getElem? (o7 h).2.2
theorem C5 {α : Type} {l : List α} {a : α} (h : a ∈ l) : ∃ i : Int, 0 ≤ i ∧ i < l.length ∧ ix l i = some a := by
 obtain ⟨k, hk⟩ := List.getElem?_of_mem h
 exact ⟨k, by omega, by have := (List.getElem?_eq_some_iff.1 hk).1; omega, by rw [D7, hk]⟩
theorem aa8 {α : Type} {l : List α} {i j : Int} {x : α} (h0 : 0 ≤ i) (h1 : i < l.length) (hj : 0 ≤ j) : ix (l.set i.toNat x) j = if j = i then some x else ix l j := by
 simp only [ix, hj, if_true, List.getElem?_set]
 by_cases h : j = i
 ·subst h; rw [if_pos rfl, if_pos rfl, if_pos (by omega)]
 ·rw [if_neg h, if_neg (by omega)]
theorem O0 {O : Type} {body : Int → Unit → Option (Unit ⊕ O)} {n : Int} (g : Int → Option O) (hn : 0 ≤ n)
  (hb : ∀ j, 0 ≤ j → j < n → (∀ i, 0 ≤ i → i < j → g i = none) → body j () = some (match g j with | none => .inl () | some o => .inr o)) :
  (rngX 0 n body () = some (.inl ()) ∧ ∀ j, 0 ≤ j → j < n → g j = none) ∨ ∃ j o, 0 ≤ j ∧ j < n ∧ g j = some o ∧ (∀ i, 0 ≤ i → i < j → g i = none) ∧ rngX 0 n body () = some (.inr o) := by
 rcases am5 (body := body) (n := n) (fun j _ => ∀ i, 0 ≤ i → i < j → g i = none) (fun o => ∃ j, 0 ≤ j ∧ j < n ∧ g j = some o ∧ ∀ i, 0 ≤ i → i < j → g i = none) (s := ()) hn (fun i h1 h2 => by omega) (fun j s h0 h1 hP => by
  have := hb j h0 h1 hP
  cases hg : g j with
  | none => rw [hg] at this; exact .inl ⟨(), this, fun i h2 h3 => by
    rcases Int.lt_or_eq_of_le (Int.le_of_lt_add_one h3) with h | h
    ·exact hP i h2 h
    ·rw [h, hg]⟩
  | some o => rw [hg] at this; exact .inr ⟨o, this, j, h0, h1, hg, hP⟩) with ⟨s', h1, h2⟩ | ⟨o, h1, j, h2, h3, h4, h5⟩
 ·exact .inl ⟨h1, h2⟩
 ·exact .inr ⟨j, o, h2, h3, h4, h5, h1⟩
theorem al0 {α O : Type} {l : List α} {body : Int → Unit → Option (Unit ⊕ O)} (q : α → Prop) (b : O)
  (hb : ∀ j a, ix l j = some a → (q a ∧ body j () = some (.inl ())) ∨ (¬ q a ∧ body j () = some (.inr b))) :
  rngX 0 (l.length : Int) body () = some (if dec (∀ a ∈ l, q a) = true then .inl () else .inr b) := by
 rcases O0 (body := body) (n := (l.length : Int)) (fun j => match ix l j with | some a => if dec (q a) = true then none else some b | none => none) (by omega) (fun j h0 h1 _ => by
  obtain ⟨a, h2, _⟩ := m7 h0 h1
  rw [h2]
  rcases hb j a h2 with ⟨h3, h4⟩ | ⟨h3, h4⟩
  ·rw [h4]; simp [h3]
  ·rw [h4]; simp [h3]) with ⟨h1, h2⟩ | ⟨j, o, h0, h1, h2, _, h4⟩
 ·rw [h1, if_pos]
  rw [j9]
  intro a ha
  obtain ⟨i, g1, g2, g3⟩ := C5 ha
  have := h2 i g1 g2
  rw [g3] at this
  simpa using this
 ·rw [h4]
  obtain ⟨a, g1, _⟩ := m7 h0 h1
  rw [g1] at h2
  simp only [j9] at h2
  split at h2
  ·cases h2
  ·rename_i hq
   cases h2
   rw [if_neg]
   rw [j9]
   exact fun h => hq (m6 (h a (r8 g1)))
abbrev Inc (l : List Int) : Prop := l.Pairwise (· < ·)
theorem inc_of_adj : ∀ {l : List Int}, (∀ (k : Nat) a b, l[k]? = some a → l[k + 1]? = some b → a < b) → Inc l
 | [], _ => .nil
 | [_], _ => by simp
 | a :: b :: l, h => by
  have ih : Inc (b :: l) := inc_of_adj fun k x y h1 h2 => h (k + 1) x y (by simpa using h1) (by simpa using h2)
  have hab : a < b := h 0 a b rfl rfl
  refine List.pairwise_cons.2 ⟨fun c hc => ?_, ih⟩
  rcases List.mem_cons.1 hc with rfl | hc
  ·exact hab
  ·exact Int.lt_trans hab ((List.pairwise_cons.1 ih).1 c hc)
theorem Inc.get {l : List Int} (h : Inc l) {i j : Nat} {a b : Int} (hi : l[i]? = some a) (hj : l[j]? = some b) (hij : i < j) : a < b := by
 obtain ⟨h1, rfl⟩ := List.getElem?_eq_some_iff.1 hi
 obtain ⟨h2, rfl⟩ := List.getElem?_eq_some_iff.1 hj
 exact List.pairwise_iff_getElem.1 h i j h1 h2 hij
theorem Inc.ext : ∀ {l m : List Int}, Inc l → Inc m → (∀ x, x ∈ l ↔ x ∈ m) → l = m
 | [], [], _, _, _ => rfl
 | [], b :: m, _, _, h => absurd ((h b).2 (by simp)) (by simp)
 | a :: l, [], _, _, h => absurd ((h a).1 (by simp)) (by simp)
 | a :: l, b :: m, hl, hm, h => by
  obtain ⟨l1, l2⟩ := List.pairwise_cons.1 hl
  obtain ⟨m1, m2⟩ := List.pairwise_cons.1 hm
  have hab : a = b := by
   rcases List.mem_cons.1 ((h a).1 (by simp)) with e | e
   ·exact e
   ·rcases List.mem_cons.1 ((h b).2 (by simp)) with e' | e'
    ·exact e'.symm
    ·have := l1 b e'; have := m1 a e; omega
  subst hab
  rw [Inc.ext l2 m2 fun x => ⟨fun hx => ?_, fun hx => ?_⟩]
  ·rcases List.mem_cons.1 ((h x).1 (by simp [hx])) with e | e
   ·have := l1 x hx; omega
   ·exact e
  ·rcases List.mem_cons.1 ((h x).2 (by simp [hx])) with e | e
   ·have := m1 x hx; omega
   ·exact e
theorem Inc.filter {l : List Int} (h : Inc l) (p : Int → Bool) : Inc (l.filter p) := List.Pairwise.filter p h
def nums (lo : Int) : Nat → List Int
 | 0 => []
 | k + 1 => lo :: nums (lo + 1) k
theorem R3 {x : Int} : ∀ {k : Nat} {lo : Int}, x ∈ nums lo k ↔ lo ≤ x ∧ x < lo + k
 | 0, lo => by simp [nums]
 | k + 1, lo => by
  rw [nums, List.mem_cons, R3 (k := k)]
  omega
theorem al3 : ∀ (k : Nat) (lo : Int), Inc (nums lo k)
 | 0, _ => .nil
 | k + 1, lo => List.pairwise_cons.2 ⟨fun x hx => by have := R3.1 hx; omega, al3 k (lo + 1)⟩
theorem len_nums : ∀ (k : Nat) (lo : Int), (nums lo k).length = k
 | 0, _ => rfl
 | k + 1, lo => by simp [nums, len_nums k]
noncomputable def Q5 (p : Int → Prop) (n : Int) : List Int := (nums 0 n.toNat).filter fun x => dec (p x)
theorem ac3 {p : Int → Prop} {n x : Int} : x ∈ Q5 p n ↔ 0 ≤ x ∧ x < n ∧ p x := by
 rw [Q5, List.mem_filter, R3, j9]
 constructor
 ·rintro ⟨⟨h1, h2⟩, h3⟩; exact ⟨h1, by omega, h3⟩
 ·rintro ⟨h1, h2, h3⟩; exact ⟨⟨h1, by omega⟩, h3⟩
theorem inc_setOf (p : Int → Prop) (n : Int) : Inc (Q5 p n) := (al3 _ _).filter _
theorem setOf_congr {p q : Int → Prop} {n : Int} (h : ∀ x, 0 ≤ x → x < n → (p x ↔ q x)) : Q5 p n = Q5 q n := by
 refine List.filter_congr fun x hx => L4 ?_
 have := R3.1 hx
 exact h x (by omega) (by omega)
def SetN (l : List Int) (n : Int) : Prop := Inc l ∧ ∀ x ∈ l, 0 ≤ x ∧ x < n
theorem setN_setOf (p : Int → Prop) (n : Int) : SetN (Q5 p n) n := ⟨inc_setOf p n, fun x hx => by have := ac3.1 hx; exact ⟨this.1, this.2.1⟩⟩
theorem SetN.eq {l : List Int} {n : Int} (h : SetN l n) : l = Q5 (· ∈ l) n :=
 h.1.ext (inc_setOf _ _) fun x => ⟨fun hx => ac3.2 ⟨(h.2 x hx).1, (h.2 x hx).2, hx⟩, fun hx => (ac3.1 hx).2.2⟩
theorem SetN.eq_of {l : List Int} {n : Int} (h : SetN l n) {p : Int → Prop} (hp : ∀ x, 0 ≤ x → x < n → (x ∈ l ↔ p x)) : l = Q5 p n :=
 h.eq.trans (setOf_congr hp)
theorem SetN.len {l : List Int} {n : Int} (h : SetN l n) : l.length ≤ n.toNat := by
 rw [h.eq, Q5]
 exact Nat.le_trans (List.length_filter_le _ _) (Nat.le_of_eq (len_nums _ _))
theorem setN_nil (n : Int) : SetN [] n := ⟨.nil, by simp⟩
theorem forR_filter {α : Type} {l : List α} {b : Nat} {body : Int → List α → Option (List α)} (q : α → Prop)
  (hb : ∀ j a c, ix l j = some a → (q a → body j c = app b c [a]) ∧ (¬ q a → body j c = some c)) (c0 : List α) (hl : (c0.length + l.length) * b ≤ 140737488355328) :
  forR 0 (l.length : Int) body c0 = some (c0 ++ l.filter fun a => dec (q a)) := by
 obtain ⟨s', h1, h2⟩ := E4 (body := body) (n := (l.length : Int)) (s := c0) (fun j c => c = c0 ++ (l.take j.toNat).filter fun a => dec (q a)) (by omega) (by simp) (fun j c h0 h1 hP => by
  obtain ⟨a, g1, g2⟩ := m7 h0 h1
  have e : (j + 1).toNat = j.toNat + 1 := by omega
  have ht : l.take (j + 1).toNat = l.take j.toNat ++ [a] := by rw [e, List.take_add_one, g2]; rfl
  by_cases hq : q a
  ·have happ : app b c [a] = some (c ++ [a]) := by
    rw [app, if_pos]
    have h3 : ((l.take j.toNat).filter fun a => dec (q a)).length ≤ (l.take j.toNat).length := List.length_filter_le _ _
    rw [List.length_take] at h3
    have h5 : c.length + 1 ≤ c0.length + l.length := by rw [hP, List.length_append]; omega
    refine Nat.le_trans (Nat.mul_le_mul_right b ?_) hl
    simpa using h5
   refine ⟨c ++ [a], by rw [(hb j a c g1).1 hq, happ], ?_⟩
   rw [ht, List.filter_append, hP]
   simp [hq]
  ·refine ⟨c, (hb j a c g1).2 hq, ?_⟩
   rw [ht, List.filter_append, hP]
   simp [hq])
 rw [h1, h2]
 simp
end Ab
end
section
namespace Ab
open Go
/-! ### States as' numbers -/
def wsN : List Int → Nat
 | [] => 0
 | a :: l => 2 ^ a.toNat + wsN l
theorem wsN_dvd {k : Nat} : ∀ {l : List Int}, (∀ x ∈ l, k ≤ x.toNat) → 2 ^ k ∣ wsN l
 | [], _ => ⟨0, rfl⟩
 | a :: l, h => Nat.dvd_add (Nat.pow_dvd_pow 2 (h a (by simp))) (wsN_dvd fun x hx => h x (List.mem_cons_of_mem _ hx))
theorem two_pow_no {k : Nat} (h : 2 ^ (k + 1) ∣ 2 ^ k) : False := by
 have h1 := Nat.le_of_dvd (Nat.two_pow_pos k) h
 have h2 := Nat.two_pow_pos k
 rw [Nat.pow_succ] at h1
 omega
theorem wsN_ne {a : Int} {l m : List Int} (ha : 0 ≤ a) (hl : ∀ x ∈ l, a < x) (hm : ∀ x ∈ m, a < x) : wsN (a :: l) ≠ wsN m := fun h => by
 have d1 : 2 ^ (a.toNat + 1) ∣ wsN l := wsN_dvd fun x hx => by have := hl x hx; omega
 have d2 : 2 ^ (a.toNat + 1) ∣ wsN m := wsN_dvd fun x hx => by have := hm x hx; omega
 rw [← h, wsN] at d2
 exact two_pow_no ((Nat.dvd_add_left d1).1 d2)
theorem wsN_inj : ∀ {l m : List Int}, Inc l → Inc m → (∀ x ∈ l, 0 ≤ x) → (∀ x ∈ m, 0 ≤ x) → wsN l = wsN m → l = m
 | [], [], _, _, _, _, _ => rfl
 | [], b :: m, _, _, _, _, h => by
  have := Nat.two_pow_pos b.toNat
  simp only [wsN] at h; omega
 | a :: l, [], _, _, _, _, h => by
  have := Nat.two_pow_pos a.toNat
  simp only [wsN] at h; omega
 | a :: l, b :: m, h1, h2, h3, h4, h => by
  obtain ⟨l1, l2⟩ := List.pairwise_cons.1 h1
  obtain ⟨m1, m2⟩ := List.pairwise_cons.1 h2
  rcases Int.lt_trichotomy a b with c | c | c
  ·exact absurd h (wsN_ne (h3 a (by simp)) l1 fun x hx => by
    rcases List.mem_cons.1 hx with rfl | hx
    ·exact c
    ·have := m1 x hx; omega)
  ·subst c
   simp only [wsN] at h
   rw [wsN_inj l2 m2 (fun x hx => h3 x (List.mem_cons_of_mem _ hx)) (fun x hx => h4 x (List.mem_cons_of_mem _ hx)) (by omega)]
  ·exact absurd h.symm (wsN_ne (h4 b (by simp)) m1 fun x hx => by
    rcases List.mem_cons.1 hx with rfl | hx
    ·exact c
    ·have := l1 x hx; omega)
theorem SetN.word_inj {s s' : List Int} {n : Int} (h : SetN s n) (h' : SetN s' n) (e : wsN s = wsN s') : s = s' :=
 wsN_inj h.1 h'.1 (fun x hx => (h.2 x hx).1) (fun x hx => (h'.2 x hx).1) e
end Ab
end
section
namespace Ab
open Go
theorem has_eq (l : List Int) (n : Int) : ref1_Has l n = some (dec (n ∈ l)) := by
 unfold ref1_Has
 rw [al0 (l := l) (fun a => a ≠ n) true (fun j a h => by
  unfold ref1_Has_l1
  rw [h]
  by_cases e : a = n <;> simp [e])]
 by_cases h : n ∈ l
 ·rw [if_neg (by simp only [j9]; exact fun g => g n h rfl)]
  simp [h]
 ·rw [if_pos (by simp only [j9]; exact fun a ha e => h (e ▸ ha))]
  simp [h]
theorem disjoint_eq (a b : List Int) : ae2 a b = some (dec (∀ x ∈ a, x ∉ b)) := by
 unfold ae2
 rw [al0 (l := a) (fun x => x ∉ b) false (fun j x h => by
  unfold ag8
  rw [h]
  by_cases e : x ∈ b <;> simp [e, has_eq])]
 by_cases h : ∀ x ∈ a, x ∉ b
 ·rw [if_pos (m6 h), m6 h]; rfl
 ·rw [if_neg (by rw [A4 h]; simp), A4 h]; rfl
theorem in_eq (n lo hi : Int) : af7 n lo hi = some (dec (lo ≤ n ∧ n ≤ hi)) := by
 unfold af7; rw [decide_dec, decide_dec, dec_and]
theorem at_eq (c i : Int) : T0 c i = some ⟨c, i⟩ := rfl
def stepOk (l : List Int) (n j : Int) : Prop := ∀ a, ix l j = some a → (0 ≤ a ∧ a < n) ∧ ∀ b, 0 < j → ix l (j - 1) = some b → b < a
theorem af2 {l : List Int} {n : Int} : (∀ j : Int, 0 ≤ j → j < l.length → stepOk l n j) ↔ SetN l n := by
 constructor
 ·intro h
  refine ⟨inc_of_adj fun k a b h1 h2 => ?_, fun x hx => ?_⟩
  ·have hk := (List.getElem?_eq_some_iff.1 h2).1
   have := (h ((k + 1 : Nat) : Int) (by omega) (by omega) b (by rw [D7]; exact h2)).2 a (by omega)
   rw [show ((k + 1 : Nat) : Int) - 1 = (k : Nat) by omega] at this
   exact this (by rw [D7]; exact h1)
  ·obtain ⟨i, h1, h2, h3⟩ := C5 hx
   exact (h i h1 h2 x h3).1
 ·intro h j h0 h1 a ha
  refine ⟨h.2 a (r8 ha), fun b hj hb => ?_⟩
  obtain ⟨_, _, ga⟩ := o7 ha
  obtain ⟨_, _, gb⟩ := o7 hb
  exact h.1.get gb ga (by omega)
theorem isSet_eq (l : List Int) (n : Int) : C6 l n = some (dec (SetN l n)) := by
 unfold C6
 rcases O0 (body := Q4 l n) (n := (l.length : Int)) (fun j => if dec (stepOk l n j) = true then none else some false) (by omega) (fun j h0 h1 _ => by
  obtain ⟨a, ha, _⟩ := m7 (l := l) h0 h1
  unfold Q4
  rw [ha]
  simp only [oB]
  by_cases c1 : a < 0
  ·rw [if_pos c1, if_neg]
   ·rfl
   ·rw [j9]; intro h; have := (h a ha).1; omega
  ·rw [if_neg c1]
   by_cases c2 : n ≤ a
   ·rw [if_pos c2, if_neg]
    ·rfl
    ·rw [j9]; intro h; have := (h a ha).1; omega
   ·rw [if_neg c2]
    by_cases c3 : 0 < j
    ·obtain ⟨b, hb, _⟩ := m7 (l := l) (i := j - 1) (by omega) (by omega)
     rw [if_pos c3, hb]
     simp only [oB]
     by_cases c4 : a ≤ b
     ·rw [if_pos (by simpa using c4), if_neg]
      rw [j9]; intro h; have := (h a ha).2 b c3 hb; omega
     ·rw [if_neg (by simpa using c4), if_pos]
      rw [j9]; intro x hx
      rw [ha] at hx; cases hx
      exact ⟨by omega, fun y _ hy => by rw [hb] at hy; cases hy; omega⟩
    ·rw [if_neg c3]
     simp only [oB]
     rw [if_neg (by simp), if_pos]
     rw [j9]; intro x hx
     rw [ha] at hx; cases hx
     exact ⟨by omega, fun y hy => absurd hy c3⟩) with ⟨h1, h2⟩ | ⟨j, o, h0, h1, h2, _, h4⟩
 ·rw [h1, m6]
  ·rfl
  ·exact af2.1 fun j g1 g2 => by have := h2 j g1 g2; simpa using this
 ·rw [h4]
  split at h2
  ·cases h2
  ·rename_i hs
   cases h2
   rw [A4]
   ·rfl
   ·exact fun h => hs (m6 (af2.2 h j h0 h1))
theorem rIsSet_eq (l : List Int) {n : Int} (hn : -9223372036854775808 < n) (hn' : n ≤ 9223372036854775807) : O3 l n = some (dec (SetN l n)) := by
 unfold O3
 rcases O0 (body := ad7 l n) (n := (l.length : Int)) (fun j => if dec (stepOk l n j) = true then none else some false) (by omega) (fun j h0 h1 _ => by
  obtain ⟨a, ha, _⟩ := m7 (l := l) h0 h1
  unfold ad7
  rw [ha]
  simp only [oB, in_eq, v7 (n := n - 1) (by omega) (by omega), N6]
  by_cases c1 : 0 ≤ a ∧ a ≤ n - 1
  ·rw [if_neg (by simpa using c1)]
   by_cases c3 : 0 < j
   ·obtain ⟨b, hb, _⟩ := m7 (l := l) (i := j - 1) (by omega) (by omega)
    rw [if_pos c3, hb]
    simp only [oB]
    by_cases c4 : a ≤ b
    ·rw [if_pos (by simpa using c4), if_neg]
     rw [j9]; intro h; have := (h a ha).2 b c3 hb; omega
    ·rw [if_neg (by simpa using c4), if_pos]
     rw [j9]; intro x hx
     rw [ha] at hx; cases hx
     exact ⟨by omega, fun y _ hy => by rw [hb] at hy; cases hy; omega⟩
   ·rw [if_neg c3]
    simp only [oB]
    rw [if_neg (by simp), if_pos]
    rw [j9]; intro x hx
    rw [ha] at hx; cases hx
    exact ⟨by omega, fun y hy => absurd hy c3⟩
  ·rw [if_pos (by simpa using c1), if_neg]
   ·rfl
   ·rw [j9]; intro h; have := (h a ha).1; omega) with ⟨h1, h2⟩ | ⟨j, o, h0, h1, h2, _, h4⟩
 ·rw [h1, m6]
  ·rfl
  ·exact af2.1 fun j g1 g2 => by have := h2 j g1 g2; simpa using this
 ·rw [h4]
  split at h2
  ·cases h2
  ·rename_i hs
   cases h2
   rw [A4]
   ·rfl
   ·exact fun h => hs (m6 (af2.2 h j h0 h1))
theorem containsLoop {s : List Int} (hs : Inc s) (hl : s.length ≤ 1000000) (x : Int) {i : Int} (h0 : 0 ≤ i) (h1 : i ≤ s.length) (hlt : ∀ k a, 0 ≤ k → k < i → ix s k = some a → a < x) :
  ∃ i', Loop (F3 s x) i = some i' ∧ i ≤ i' ∧ i' ≤ s.length ∧ (∀ k a, 0 ≤ k → k < i' → ix s k = some a → a < x) ∧ (∀ a, ix s i' = some a → x ≤ a) := by
 obtain ⟨o, h2, h3⟩ := O4 (body := F3 s x) (fun j => i ≤ j ∧ j ≤ s.length ∧ ∀ k a, 0 ≤ k → k < j → ix s k = some a → a < x) (fun i' => i ≤ i' ∧ i' ≤ s.length ∧ (∀ k a, 0 ≤ k → k < i' → ix s k = some a → a < x) ∧ (∀ a, ix s i' = some a → x ≤ a)) (fun j => (s.length - j).toNat) (s := i) ⟨Int.le_refl _, h1, hlt⟩ (fun j ⟨g1, g2, g3⟩ => by
  unfold F3
  by_cases c : j < s.length
  ·obtain ⟨a, ha, _⟩ := m7 (l := s) (i := j) (by omega) c
   rw [if_pos c, ha]
   simp only [oB, decide_eq_true_eq]
   by_cases c2 : a < x
   ·rw [if_pos c2]
    rw [v7 (by omega) (by omega)]
    refine .inl ⟨j + 1, rfl, ⟨by omega, by omega, fun k b k0 k1 hb => ?_⟩, by omega⟩
    by_cases e : k = j
    ·subst e; rw [ha] at hb; cases hb; exact c2
    ·exact g3 k b k0 (by omega) hb
   ·rw [if_neg c2]
    exact .inr ⟨j, rfl, g1, g2, g3, fun b hb => by rw [ha] at hb; cases hb; omega⟩
  ·rw [if_neg c]
   exact .inr ⟨j, rfl, g1, g2, g3, fun b hb => by have := (o7 hb).2.1; omega⟩)
 exact ⟨o, h2, h3⟩
theorem aj0 {s part : List Int} (hs : Inc s) (hp : Inc part) (hl : s.length ≤ 1000000) : B0 s part = some (dec (∀ x ∈ part, x ∈ s)) := by
 unfold B0
 rcases am5 (body := K8 s part) (n := (part.length : Int)) (fun j i => (0 ≤ i ∧ i ≤ s.length ∧ ∀ k a, 0 ≤ k → k < i → ix s k = some a → ∀ m x, j ≤ m → ix part m = some x → a < x) ∧ ∀ m x, 0 ≤ m → m < j → ix part m = some x → x ∈ s) (fun o => o = false ∧ ¬ ∀ x ∈ part, x ∈ s) (s := 0) (by omega) ⟨⟨by omega, by omega, fun k a h1 h2 => by omega⟩, fun m x h1 h2 => by omega⟩ (fun j i h0 h1 ⟨⟨g1, g2, g3⟩, g4⟩ => by
  obtain ⟨x, hx, gx⟩ := m7 (l := part) h0 h1
  unfold K8
  obtain ⟨i', e1, e2, e3, e4, e5⟩ := containsLoop hs hl x g1 g2 (fun k a k0 k1 ha => g3 k a k0 k1 ha j x (Int.le_refl _) hx)
  rw [hx]
  simp only [oB, e1]
  have nin : (∀ a, ix s i' = some a → x < a) → x ∉ s := fun hgt hin => by
   obtain ⟨k, k0, k1, hk⟩ := C5 hin
   rcases Int.lt_trichotomy k i' with c | c | c
   ·have := e4 k x k0 c hk; omega
   ·subst c; have := hgt x hk; omega
   ·obtain ⟨b, hb, gb⟩ := m7 (l := s) (i := i') (by omega) (by omega)
    obtain ⟨_, _, gk⟩ := o7 hk
    have := hs.get gb gk (by omega)
    have := e5 b hb
    omega
  by_cases c : i' = s.length
  ·rw [if_pos c]
   refine .inr ⟨false, rfl, rfl, fun h => ?_⟩
   exact nin (fun a ha => by have := (o7 ha).2.1; omega) (h x (r8 hx))
  ·rw [if_neg c]
   obtain ⟨b, hb, gb⟩ := m7 (l := s) (i := i') (by omega) (by omega)
   rw [hb]
   simp only [oB]
   have hxb := e5 b hb
   by_cases c2 : b = x
   ·subst c2
    rw [if_neg (by simp)]
    refine .inl ⟨i', rfl, ⟨by omega, e3, fun k a k0 k1 ha m y hm hy => ?_⟩, fun m y m0 m1 hy => ?_⟩
    ·obtain ⟨_, _, gy⟩ := o7 hy
     have := hp.get gx gy (by omega)
     have := e4 k a k0 k1 ha
     omega
    ·by_cases e : m = j
     ·subst e; rw [hx] at hy; cases hy; exact r8 hb
     ·exact g4 m y m0 (by omega) hy
   ·rw [if_pos (by simpa using c2)]
    refine .inr ⟨false, rfl, rfl, fun h => ?_⟩
    exact nin (fun a ha => by rw [hb] at ha; cases ha; omega) (h x (r8 hx))) with ⟨s', h1, _, h2⟩ | ⟨o, h1, rfl, h2⟩
 ·rw [h1, m6]
  ·rfl
  ·intro x hx
   obtain ⟨m, m0, m1, hm⟩ := C5 hx
   exact h2 m x m0 m1 hm
 ·rw [h1, A4 h2]; rfl
end Ab
end
section
namespace Ab
open Go
theorem half_eq {i j : Int} (h0 : 0 ≤ i) (h1 : i ≤ j) (h2 : j ≤ 1000000) : w64 (shrW .u64 ((IntKind.u64).wrap (w64 (i + j))) 1) = (i + j) / 2 := by
 rw [v7 (n := i + j) (by omega) (by omega), IntKind.wrap_u64, Int.emod_eq_of_lt (by omega) (by omega)]
 have : shrW .u64 (i + j) 1 = (i + j) / 2 := by
  simp only [shrW, IntKind.bits]
  rw [show min (1 : Int).toNat 64 = 1 by rfl, Int.fdiv_eq_ediv_of_nonneg _ (by decide)]
  rfl
 rw [this]
 exact v7 (by omega) (by omega)
theorem less_eq (a b : Int) : S4 a b = some (decide (a < b)) := by simp [S4, D2]
theorem bsearch_eq {xs : List Int} (hs : Inc xs) (hl : xs.length ≤ 500000) (t : Int) : ∃ i, o9 xs t = some (i, dec (t ∈ xs)) ∧ 0 ≤ i ∧ i ≤ xs.length ∧ (∀ k a, 0 ≤ k → k < i → ix xs k = some a → a < t) ∧ (∀ k a, i ≤ k → ix xs k = some a → t ≤ a) := by
 unfold o9
 obtain ⟨i, h1, h2, h3, h4, h5⟩ := O4 (body := w9 xs t) (fun p => (0 ≤ p.1 ∧ p.1 ≤ p.2 ∧ p.2 ≤ xs.length) ∧ (∀ k a, 0 ≤ k → k < p.1 → ix xs k = some a → a < t) ∧ (∀ k a, p.2 ≤ k → ix xs k = some a → t ≤ a))
  (fun i => 0 ≤ i ∧ i ≤ xs.length ∧ (∀ k a, 0 ≤ k → k < i → ix xs k = some a → a < t) ∧ (∀ k a, i ≤ k → ix xs k = some a → t ≤ a)) (fun p => (p.2 - p.1).toNat) (s := (0, (xs.length : Int)))
  ⟨⟨by simp, by simp, by simp⟩, fun k a h1 h2 => by simp at h2; omega, fun k a h1 h2 => by have := (o7 h2).2.1; simp at h1; omega⟩ (fun ⟨i, j⟩ ⟨⟨g1, g2, g3⟩, g4, g5⟩ => by
  dsimp only at g1 g2 g3 g4 g5 ⊢
  unfold w9
  dsimp only
  by_cases c : i < j
  ·rw [if_pos c, half_eq g1 g2 (by omega)]
   obtain ⟨a, ha, ga⟩ := m7 (l := xs) (i := (i + j) / 2) (by omega) (by omega)
   rw [ha]
   simp only [oB, less_eq, decide_eq_true_eq]
   by_cases c2 : a < t
   ·rw [if_pos c2, v7 (by omega) (by omega)]
    refine .inl ⟨_, rfl, ⟨⟨by dsimp only; omega, by dsimp only; omega, g3⟩, fun k b k0 k1 hb => ?_, g5⟩, by dsimp only; omega⟩
    dsimp only at k1
    obtain ⟨_, _, gb⟩ := o7 hb
    by_cases e : k = (i + j) / 2
    ·subst e; rw [ha] at hb; cases hb; exact c2
    ·have := hs.get gb ga (by omega); omega
   ·rw [if_neg c2]
    refine .inl ⟨_, rfl, ⟨⟨g1, by dsimp only; omega, by dsimp only; omega⟩, g4, fun k b k0 hb => ?_⟩, by dsimp only; omega⟩
    dsimp only at k0
    obtain ⟨_, _, gb⟩ := o7 hb
    by_cases e : k = (i + j) / 2
    ·subst e; rw [ha] at hb; cases hb; omega
    ·have := hs.get ga gb (by omega); omega
  ·rw [if_neg c]
   have : i = j := by omega
   subst this
   exact .inr ⟨i, rfl, g1, g3, g4, g5⟩)
 rw [h1]
 simp only [oB]
 refine ⟨i, ?_, h2, h3, h4, h5⟩
 have nin : (∀ a, ix xs i = some a → a ≠ t) → t ∉ xs := fun hne hin => by
  obtain ⟨k, k0, k1, hk⟩ := C5 hin
  rcases Int.lt_trichotomy k i with c | c | c
  ·have := h4 k t k0 c hk; omega
  ·subst c; exact hne t hk rfl
  ·obtain ⟨b, hb, gb⟩ := m7 (l := xs) (i := i) (by omega) (by omega)
   obtain ⟨_, _, gk⟩ := o7 hk
   have := hs.get gb gk (by omega)
   have := h5 i b (Int.le_refl _) hb
   omega
 by_cases c : i < xs.length
 ·obtain ⟨a, ha, ga⟩ := m7 (l := xs) (i := i) (by omega) c
  rw [if_pos c, ha]
  simp only [oB]
  by_cases c2 : a = t
  ·subst c2
   rw [if_pos rfl, m6 (r8 ha)]
   rfl
  ·rw [if_neg c2]
   simp only [I5, decide_true, Bool.not_true, Bool.false_eq_true, if_false, oB]
   rw [A4 (nin fun b hb => by rw [ha] at hb; cases hb; exact c2)]
 ·rw [if_neg c]
  simp only [oB]
  rw [A4 (nin fun b hb => by have := (o7 hb).2.1; omega)]
theorem bsearch2 {xs : List Int} (hs : Inc xs) (hl : xs.length ≤ 500000) (t : Int) : ∃ i, o9 xs t = some (i, dec (t ∈ xs)) :=
 let ⟨i, h, _⟩ := bsearch_eq hs hl t
 ⟨i, h⟩
theorem containsFunc_eq {l : List Int} {f : Int → Option Bool} (p : Int → Prop) (hf : ∀ x ∈ l, f x = some (dec (p x))) : u9 l f = some (dec (∃ x ∈ l, p x)) := by
 unfold u9 C4
 rcases O0 (body := A8 l f) (n := (l.length : Int)) (fun j => if dec (∀ a, ix l j = some a → ¬ p a) = true then none else some j) (by omega) (fun j h0 h1 _ => by
  obtain ⟨a, ha, _⟩ := m7 (l := l) h0 h1
  unfold A8
  rw [ha]
  simp only [oB, hf a (r8 ha)]
  by_cases c : p a
  ·rw [if_pos (m6 c), if_neg (by rw [j9]; exact fun h => h a rfl c)]
  ·rw [if_neg (by rw [A4 c]; simp), if_pos (m6 fun b hb => by cases hb; exact c)]) with ⟨h1, h2⟩ | ⟨j, o, h0, h1, h2, _, h4⟩
 ·rw [h1]
  simp only [oB]
  rw [A4]
  ·rfl
  ·rintro ⟨x, hx, hp⟩
   obtain ⟨i, g1, g2, g3⟩ := C5 hx
   have := h2 i g1 g2
   split at this
   ·rename_i h; exact j9.1 h x g3 hp
   ·cases this
 ·rw [h4]
  split at h2
  ·cases h2
  ·rename_i h
   cases h2
   simp only [oB]
   rw [m6]
   ·simp [h0]
   ·simp only [j9] at h
    obtain ⟨a, g1, _⟩ := m7 (l := l) h0 h1
    refine ⟨a, r8 g1, ?_⟩
    rcases Classical.em (p a) with c | c
    ·exact c
    ·exact absurd (fun b hb => by rw [g1] at hb; cases hb; exact c) h
theorem meets_eq {a b : List Int} (hb : Inc b) (hl : b.length ≤ 500000) : S1 a b = some (dec (∃ x ∈ a, x ∈ b)) := by
 unfold S1
 rw [containsFunc_eq (fun x => x ∈ b) (fun x _ => by
  unfold T6
  obtain ⟨i, h⟩ := bsearch2 hb hl x
  rw [h]; rfl)]
 rfl
/-! ### Sorted, and equal neighbours made one -/
theorem compact_spec {l : List Int} (hs : l.Pairwise (· ≤ ·)) : Inc (X2 l) ∧ ∀ x, x ∈ X2 l ↔ x ∈ l := by
 have key : ∀ m, m ≤ l.length → Inc (Go.Lib.compactUpTo l.toArray m) ∧ (∀ x, x ∈ Go.Lib.compactUpTo l.toArray m ↔ x ∈ l.take m) := by
  intro m
  induction m with
  | zero => intro _; simp [Go.Lib.compactUpTo]
  | succ m ih =>
   intro hm
   obtain ⟨h1, h2⟩ := ih (by omega)
   have hlt : m < l.length := by omega
   have hd : l.toArray[m]! = l[m] := by simp [hlt]
   have ht : l.take (m + 1) = l.take m ++ [l[m]] := by rw [List.take_add_one]; simp [hlt]
   rw [Go.Lib.compactUpTo_succ, ht]
   by_cases hk : Go.Lib.keeps l.toArray m = true
   ·rw [if_pos hk, hd]
    refine ⟨List.pairwise_append.2 ⟨h1, by simp, fun a ha b hb => ?_⟩, fun x => by rw [List.mem_append, List.mem_append, h2]⟩
    simp only [List.mem_singleton] at hb
    subst hb
    have ha' := (h2 a).1 ha
    obtain ⟨i, hi, rfl⟩ := List.mem_iff_getElem.1 ha'
    rw [List.length_take] at hi
    rw [List.getElem_take]
    simp only [Go.Lib.keeps, decide_eq_true_eq] at hk
    rcases hk with hk | hk
    ·omega
    ·have hm1 : l.toArray[m - 1]! = l[m - 1] := by simp [show m - 1 < l.length by omega]
     rw [hd, hm1] at hk
     have e1 : l[m - 1] ≤ l[m] := List.pairwise_iff_getElem.1 hs (m - 1) m (by omega) hlt (by omega)
     have e2 : l[i] ≤ l[m - 1] := by
      rcases Nat.lt_or_ge i (m - 1) with c | c
      ·exact List.pairwise_iff_getElem.1 hs i (m - 1) (by omega) (by omega) c
      ·have : i = m - 1 := by omega
       subst this; exact Int.le_refl _
     omega
   ·rw [if_neg hk, List.append_nil]
    refine ⟨h1, fun x => ?_⟩
    rw [h2, List.mem_append]
    refine ⟨.inl, fun h => ?_⟩
    rcases h with h | h
    ·exact h
    ·simp only [List.mem_singleton] at h
     subst h
     have hm0 : m ≠ 0 := fun e => hk (by simp [Go.Lib.keeps, e])
     have hm1 : l.toArray[m - 1]! = l[m - 1] := by simp [show m - 1 < l.length by omega]
     have he : l[m] = l[m - 1] := by
      simp only [Go.Lib.keeps, decide_eq_true_eq, not_or] at hk
      have h3 : l.toArray[m]! = l.toArray[m - 1]! := Classical.not_not.1 (fun h => hk.2 h)
      rw [hd, hm1] at h3; exact h3
     rw [he, List.mem_take_iff_getElem]
     exact ⟨m - 1, by omega, rfl⟩
 obtain ⟨h1, h2⟩ := key l.length (Nat.le_refl _)
 refine ⟨?_, fun x => ?_⟩
 ·simpa [X2, Go.Lib.compact] using h1
 ·have := h2 x
  rw [List.take_length] at this
  simpa [X2, Go.Lib.compact] using this
theorem srt_spec (l : List Int) : (srt l).Pairwise (· ≤ ·) ∧ ∀ x, x ∈ srt l ↔ x ∈ l := by
 refine ⟨?_, fun x => by simp [srt]⟩
 have := List.pairwise_mergeSort (le := fun x y : Int => decide (x ≤ y)) (fun a b c h1 h2 => by simp at h1 h2 ⊢; omega) (fun a b => by simp; omega) l
 refine this.imp fun h => by simpa using h
theorem sortL_eq {l : List Int} (h : l.length < 4611686018427387904) : sortL l = some (srt l) := by rw [sortL, if_pos h]
theorem update_inc {s add del : List Int} (hd : Inc del) (hl : del.length ≤ 500000) (h1 : s.length ≤ 500000) (h2 : add.length ≤ 500000) :
  ∃ r, J6 s add del = some r ∧ Inc r ∧ ∀ x, x ∈ r ↔ (x ∈ s ∧ x ∉ del) ∨ x ∈ add := by
 unfold J6
 rw [forR_filter (l := s) (b := 8) (fun a => a ∉ del) (fun j a c h => by
  obtain ⟨i, hi⟩ := bsearch2 hd hl a
  unfold W4
  rw [h]
  simp only [oB, hi, N6]
  refine ⟨fun hq => ?_, fun hq => ?_⟩
  ·rw [if_pos (m6 hq)]
   cases app 8 c [a] <;> rfl
  ·rw [if_neg (by simpa using hq)]; rfl) [] (by simp; omega)]
 simp only [oB, List.nil_append]
 have hle : (s.filter fun a => dec (a ∉ del)).length ≤ s.length := List.length_filter_le _ _
 rw [show app 8 (s.filter fun a => dec (a ∉ del)) add = some ((s.filter fun a => dec (a ∉ del)) ++ add) by rw [app, if_pos]; omega]
 simp only [oB]
 rw [sortL_eq (by rw [List.length_append]; omega)]
 simp only [oB]
 obtain ⟨e1, e2⟩ := srt_spec ((s.filter fun a => dec (a ∉ del)) ++ add)
 obtain ⟨e3, e4⟩ := compact_spec e1
 refine ⟨_, rfl, e3, fun x => ?_⟩
 rw [e4, e2, List.mem_append, List.mem_filter, j9]
theorem update_eq {s add del : List Int} {n : Int} (hn : n ≤ 1000) (hd : Inc del) (hl : del.length ≤ 500000) (hs : SetN s n) (ha : SetN add n) :
  J6 s add del = some (Q5 (fun x => (x ∈ s ∧ x ∉ del) ∨ x ∈ add) n) := by
 have h1 := hs.len; have h2 := ha.len
 obtain ⟨r, e1, e2, e3⟩ := update_inc (s := s) (add := add) hd hl (by omega) (by omega)
 rw [e1, SetN.eq_of (n := n) ⟨e2, fun x hx => ?_⟩ (fun x _ _ => e3 x)]
 rcases (e3 x).1 hx with h | h
 ·exact hs.2 x h.1
 ·exact ha.2 x h
end Ab
end
section
namespace Ab
open Go
def O9 (o : i8) (n : Int) : Prop := SetN o.pre n ∧ SetN o.add n ∧ SetN o.del n ∧ ∀ x ∈ o.add, x ∉ o.del
def ab3 (o : i8) : Prop := 0 ≤ o.cost ∧ o.cost ≤ 100
noncomputable def O8 (o : i8) (n : Int) : Int := if dec (O9 o n) = true then if dec (ab3 o) = true then 0 else 3 else 5
structure k9 (t : d8) : Prop where
 n0 : 0 ≤ t.facts
 n1 : t.facts ≤ 24
 init : SetN t.init t.facts
 goal : SetN t.goal t.facts
 ops : t.operators.length ≤ 40
 op : ∀ o ∈ t.operators, O9 o t.facts ∧ ab3 o
def N8 (t : d8) (plan : List Int) : Prop := plan.length ≤ 60 ∧ ∀ x ∈ plan, 0 ≤ x ∧ x < t.operators.length
theorem opCode_zero {o : i8} {n : Int} : O8 o n = 0 ↔ O9 o n ∧ ab3 o := by
 unfold O8
 by_cases h : O9 o n
 ·rw [if_pos (m6 h)]
  by_cases g : ab3 o
  ·rw [if_pos (m6 g)]; simp [h, g]
  ·rw [if_neg (by rw [A4 g]; simp)]; simp [g]
 ·rw [if_neg (by rw [A4 h]; simp)]; simp [h]
theorem operator_eq {o : i8} {n : Int} (h0 : 0 ≤ n) (h1 : n ≤ 24) : K5 o n = some (O8 o n) := by
 unfold K5 O8
 simp only [isSet_eq, oB, N6]
 have bad : ¬ O9 o n → dec (O9 o n) = true → False := fun h g => h (j9.1 g)
 by_cases c1 : SetN o.pre n
 ·rw [if_neg (by simpa using c1)]
  by_cases c2 : SetN o.add n
  ·rw [if_neg (by simpa using c2)]
   by_cases c3 : SetN o.del n
   ·rw [if_neg (by simpa using c3)]
    have hl := c3.len
    rw [meets_eq c3.1 (by omega)]
    simp only [oB]
    by_cases c4 : ∃ x ∈ o.add, x ∈ o.del
    ·rw [if_pos (m6 c4), if_neg]
     rw [j9]
     obtain ⟨x, g1, g2⟩ := c4
     exact fun h => h.2.2.2 x g1 g2
    ·have hs : O9 o n := ⟨c1, c2, c3, fun x g1 g2 => c4 ⟨x, g1, g2⟩⟩
     rw [if_neg (by rw [A4 c4]; simp), if_pos (m6 hs)]
     by_cases c5 : ab3 o
     ·rw [if_pos (m6 c5), if_neg]
      have := c5.1; have := c5.2
      simp; omega
     ·rw [if_neg (fun h => c5 (j9.1 h)), if_pos]
      unfold ab3 at c5
      simp; omega
   ·rw [if_pos (by simpa using c3)]
    simp only [oB, if_true]
    rw [if_neg fun h => c3 (j9.1 h).2.2.1]
  ·rw [if_pos (by simpa using c2)]
   simp only [oB, if_true]
   rw [if_neg fun h => c2 (j9.1 h).2.1]
 ·rw [if_pos (by simpa using c1)]
  simp only [oB, if_true]
  rw [if_neg fun h => c1 (j9.1 h).1]
theorem validate_eq (t : d8) : ∃ f, A7 t = some f ∧ ab8 t = some f ∧ ((f = ⟨0, 0⟩ ∧ k9 t) ∨ (f.code ≠ 0 ∧ ¬ k9 t)) := by
 unfold A7 ab8
 simp only [in_eq, at_eq, oB, N6]
 by_cases c1 : 0 ≤ t.facts ∧ t.facts ≤ 24
 ·rw [if_neg (by simp; omega), ifNN c1]
  simp only [isSet_eq, rIsSet_eq (n := t.facts) _ (by omega) (by omega), oB, N6]
  by_cases c2 : SetN t.init t.facts
  ·rw [ifNN c2, ifNN c2]
   by_cases c3 : SetN t.goal t.facts
   ·rw [ifNN c3, ifNN c3]
    by_cases c4 : 40 < (t.operators.length : Int)
    ·rw [if_pos c4, if_pos c4]
     exact ⟨_, rfl, rfl, .inr ⟨by simp, fun h => by have := h.ops; omega⟩⟩
    ·rw [if_neg c4, if_neg c4]
     have hb : ∀ j : Int, 0 ≤ j → j < t.operators.length → ∃ o, ix t.operators j = some o ∧ E9 t j () = some (if O8 o t.facts = 0 then .inl () else .inr ⟨O8 o t.facts, j⟩) ∧ G8 t j () = some (if O8 o t.facts = 0 then .inl () else .inr ⟨O8 o t.facts, j⟩) := fun j h0 h1 => by
      obtain ⟨o, ho, _⟩ := m7 (l := t.operators) h0 h1
      refine ⟨o, ho, ?_, ?_⟩
      ·unfold E9
       rw [ho]
       simp only [oB, operator_eq c1.1 c1.2]
       by_cases e : O8 o t.facts = 0
       ·rw [if_pos e, if_pos e]
       ·rw [if_neg e, if_neg e]
      ·unfold G8
       rw [ho]
       simp only [oB, rIsSet_eq (n := t.facts) _ (show -9223372036854775808 < t.facts by omega) (show t.facts ≤ 9223372036854775807 by omega), disjoint_eq, in_eq, at_eq, N6]
       have hp : (if dec (¬ SetN o.pre t.facts) = true then some true else if dec (¬ SetN o.add t.facts) = true then some true else if dec (¬ SetN o.del t.facts) = true then some true else some (dec (¬ ∀ x ∈ o.add, x ∉ o.del))) = some (dec (¬ O9 o t.facts)) := by
        unfold O9
        by_cases g1 : SetN o.pre t.facts
        ·rw [if_neg (by simpa using g1)]
         by_cases g2 : SetN o.add t.facts
         ·rw [if_neg (by simpa using g2)]
          by_cases g3 : SetN o.del t.facts
          ·rw [if_neg (by simpa using g3)]
           exact congrArg some (L4 ⟨fun h g => h g.2.2.2, fun h g => h ⟨g1, g2, g3, g⟩⟩)
          ·rw [if_pos (by simpa using g3), m6 (fun g => g3 g.2.2.1)]
         ·rw [if_pos (by simpa using g2), m6 (fun g => g2 g.2.1)]
        ·rw [if_pos (by simpa using g1), m6 (fun g => g1 g.1)]
       rw [hp]
       simp only [oB]
       unfold O8
       by_cases g1 : O9 o t.facts
       ·rw [if_neg (by simpa using g1), if_pos (m6 g1)]
        by_cases g2 : ab3 o
        ·rw [ifP g2, ifNN (p := 0 ≤ o.cost ∧ o.cost ≤ 100) g2]; rfl
        ·rw [ifN g2, ifP (p := ¬ (0 ≤ o.cost ∧ o.cost ≤ 100)) g2]; rfl
       ·rw [if_pos (m6 g1), if_neg (fun h => g1 (j9.1 h))]; rfl
     have heq : rngX 0 (t.operators.length : Int) (E9 t) () = rngX 0 (t.operators.length : Int) (G8 t) () :=
      (rngX_eq (fun _ _ => True) (by omega) trivial (fun j s h0 h1 _ => by
       obtain ⟨o, _, e1, e2⟩ := hb j h0 h1
       exact ⟨by rw [e1, e2], by rw [e1]; simp, fun _ _ => trivial⟩)).1
     rcases O0 (body := G8 t) (n := (t.operators.length : Int)) (fun j => match ix t.operators j with | some o => if O8 o t.facts = 0 then none else some (⟨O8 o t.facts, j⟩ : k8) | none => none) (by omega) (fun j h0 h1 _ => by
      obtain ⟨o, e0, _, e2⟩ := hb j h0 h1
      rw [e2, e0]
      dsimp only
      split <;> rfl) with ⟨h1, h2⟩ | ⟨j, f, h0, h1, h2, _, h4⟩
     ·rw [heq, h1]
      refine ⟨⟨0, 0⟩, rfl, rfl, .inl ⟨rfl, c1.1, c1.2, c2, c3, by omega, fun o ho => ?_⟩⟩
      obtain ⟨j, g0, g1, g2⟩ := C5 ho
      have := h2 j g0 g1
      rw [g2] at this
      dsimp only at this
      split at this
      ·rename_i e; exact opCode_zero.1 e
      ·cases this
     ·rw [heq, h4]
      obtain ⟨o, e0, _, _⟩ := hb j h0 h1
      rw [e0] at h2
      dsimp only at h2
      split at h2
      ·cases h2
      ·rename_i e
       cases h2
       exact ⟨_, rfl, rfl, .inr ⟨e, fun h => e (opCode_zero.2 (h.op o (r8 e0)))⟩⟩
   ·rw [ifP c3, ifP c3]
    exact ⟨_, rfl, rfl, .inr ⟨by simp, fun h => c3 h.goal⟩⟩
  ·rw [ifP c2, ifP c2]
   exact ⟨_, rfl, rfl, .inr ⟨by simp, fun h => c2 h.init⟩⟩
 ·rw [if_pos (by simp; omega), if_pos (m6 c1)]
  exact ⟨_, rfl, rfl, .inr ⟨by simp, fun h => c1 ⟨h.n0, h.n1⟩⟩⟩
theorem fault_no {f : k8} (h : f.code ≠ 0) : (!((decide (f.code = 0)) && (decide (f.index = 0)))) = true := by simp [h]
theorem steps_eq {n : Int} (h0 : 0 ≤ n) (h1 : n ≤ 9223372036854775807) (plan : List Int) : ∃ f, R7 n plan = some f ∧ aa5 n plan = some f ∧ ((f = ⟨0, 0⟩ ∧ plan.length ≤ 60 ∧ ∀ x ∈ plan, 0 ≤ x ∧ x < n) ∨ (f.code ≠ 0 ∧ ¬ (plan.length ≤ 60 ∧ ∀ x ∈ plan, 0 ≤ x ∧ x < n))) := by
 unfold R7 aa5
 by_cases c : 60 < (plan.length : Int)
 ·rw [if_pos c, if_pos c]
  exact ⟨⟨2, -5⟩, rfl, rfl, .inr ⟨by simp, fun h => by omega⟩⟩
 ·rw [if_neg c, if_neg c]
  rw [al0 (l := plan) (fun x => 0 ≤ x ∧ x < n) (⟨3, -6⟩ : k8) (fun j a h => by
   unfold ab4
   rw [h]
   simp only [oB]
   by_cases g : 0 ≤ a ∧ a < n
   ·rw [if_neg (by simp; omega)]; exact .inl ⟨g, rfl⟩
   ·rw [if_pos (by simp; omega)]; exact .inr ⟨g, rfl⟩)]
  rw [al0 (l := plan) (fun x => 0 ≤ x ∧ x < n) (⟨3, -6⟩ : k8) (fun j a h => by
   unfold ac5
   rw [h]
   simp only [oB, in_eq, at_eq, v7 (n := n - 1) (by omega) (by omega), N6]
   by_cases g : 0 ≤ a ∧ a < n
   ·rw [if_neg (by simp; omega)]; exact .inl ⟨g, rfl⟩
   ·rw [if_pos (by rw [j9]; omega)]; exact .inr ⟨g, rfl⟩)]
  by_cases g : ∀ x ∈ plan, 0 ≤ x ∧ x < n
  ·rw [if_pos (m6 g)]
   exact ⟨_, rfl, rfl, .inl ⟨rfl, by omega, g⟩⟩
  ·rw [if_neg (fun h => g (j9.1 h))]
   exact ⟨_, rfl, rfl, .inr ⟨by simp, fun h => g h.2⟩⟩
theorem planFault_eq (t : d8) (plan : List Int) : ∃ f, I6 t plan = some f ∧ ab7 t plan = some f ∧ ((f = ⟨0, 0⟩ ∧ k9 t ∧ N8 t plan) ∨ (f.code ≠ 0 ∧ ¬ (k9 t ∧ N8 t plan))) := by
 obtain ⟨f, h1, h2, h3⟩ := validate_eq t
 unfold I6 ab7
 rw [h1, h2]
 simp only [oB]
 rcases h3 with ⟨rfl, ht⟩ | ⟨hc, ht⟩
 ·obtain ⟨g, g1, g2, g3⟩ := steps_eq (n := (t.operators.length : Int)) (by omega) (by have := ht.ops; omega) plan
  rw [if_neg (by simp), if_pos rfl, g1, g2]
  refine ⟨g, rfl, rfl, ?_⟩
  rcases g3 with ⟨e, k⟩ | ⟨e, k⟩
  ·exact .inl ⟨e, ht, k⟩
  ·exact .inr ⟨e, fun h => k h.2⟩
 ·rw [if_pos (fault_no hc), if_neg hc]
  exact ⟨f, rfl, rfl, .inr ⟨hc, fun h => ht h.1⟩⟩
/-! ### What operators and plans do -/
def noOp : i8 := ⟨[], [], [], 0⟩
def opAt (t : d8) (op : Int) : i8 := (t.operators[op.toNat]?).getD noOp
theorem ix_op {t : d8} {op : Int} (h0 : 0 ≤ op) (h1 : op < t.operators.length) : ix t.operators op = some (opAt t op) := by
 obtain ⟨a, h2, h3⟩ := m7 h0 h1
 rw [h2, opAt, h3]; rfl
theorem k9.at {t : d8} (h : k9 t) {op : Int} (h0 : 0 ≤ op) (h1 : op < t.operators.length) : O9 (opAt t op) t.facts ∧ ab3 (opAt t op) := h.op _ (r8 (ix_op h0 h1))
def can (t : d8) (s : List Int) (op : Int) : Prop := ∀ x ∈ (opAt t op).pre, x ∈ s
noncomputable def aft (t : d8) (s : List Int) (op : Int) : List Int := Q5 (fun x => x ∈ (opAt t op).add ∨ x ∈ s ∧ x ∉ (opAt t op).del) t.facts
theorem W6 (t : d8) (s : List Int) (op : Int) : SetN (aft t s op) t.facts := setN_setOf _ _
theorem can_eq {t : d8} (ht : k9 t) {op : Int} (h0 : 0 ≤ op) (h1 : op < t.operators.length) {s : List Int} (hs : SetN s t.facts) : T2 t s op = some (dec (can t s op)) := by
 have := ht.n1; have := hs.len
 unfold T2
 rw [ix_op h0 h1]
 simp only [oB]
 rw [aj0 hs.1 (ht.at h0 h1).1.1.1 (by omega)]
 rfl
theorem next_eq {t : d8} (ht : k9 t) {op : Int} (h0 : 0 ≤ op) (h1 : op < t.operators.length) {s : List Int} (hs : SetN s t.facts) : M3 t s op = some (aft t s op) := by
 have := ht.n1
 obtain ⟨⟨_, k2, k3, _⟩, _⟩ := ht.at h0 h1
 have hl := k3.len
 unfold M3
 rw [ix_op h0 h1]
 simp only [oB]
 rw [update_eq (n := t.facts) (by omega) k3.1 (by omega) hs k2]
 simp only [oB, aft]
 exact congrArg some (setOf_congr fun x _ _ => Or.comm)
noncomputable def ends (t : d8) : List Int → List Int → Option (List Int)
 | s, [] => some s
 | s, op :: r => if dec (can t s op) = true then ends t (aft t s op) r else none
theorem ends_setN {t : d8} : ∀ {plan s e : List Int}, SetN s t.facts → ends t s plan = some e → SetN e t.facts
 | [], s, e, hs, h => by cases h; exact hs
 | op :: r, s, e, hs, h => by
  simp only [ends] at h
  split at h
  ·exact ends_setN (W6 t s op) h
  ·cases h
theorem aj3 {t : d8} : ∀ {p q s : List Int}, ends t s (p ++ q) = (ends t s p).bind fun e => ends t e q
 | [], q, s => rfl
 | op :: r, q, s => by
  simp only [List.cons_append, ends]
  split
  ·exact aj3
  ·rfl
def V3 (t : d8) (s plan : List Int) : Prop := ∃ e, ends t s plan = some e ∧ ∀ x ∈ t.goal, x ∈ e
end Ab
end
section
namespace Ab
open Go
theorem numbers_eq (a b : List Int) : O7 a b = some (dec (a = b)) := by
 unfold O7
 by_cases hl : (a.length : Int) = b.length
 ·rw [if_pos hl]
  rcases O0 (body := O2 a b) (n := (a.length : Int)) (fun j => if dec (ix a j = ix b j) = true then none else some false) (by omega) (fun j h0 h1 _ => by
   obtain ⟨x, hx, _⟩ := m7 (l := a) h0 h1
   obtain ⟨y, hy, _⟩ := m7 (l := b) (i := j) h0 (by omega)
   unfold O2
   rw [hx, hy]
   simp only [oB]
   by_cases e : x = y
   ·rw [if_pos e, ifP (by rw [e])]
   ·rw [if_neg e, ifN (by simpa using e)]) with ⟨h1, h2⟩ | ⟨j, o, h0, h1, h2, _, h4⟩
  ·rw [h1, m6]
   ·rfl
   ·refine List.ext_getElem? fun k => ?_
    by_cases hk : k < a.length
    ·have := h2 k (by omega) (by omega)
     split at this
     ·rename_i e
      have := j9.1 e
      rwa [D7, D7] at this
     ·cases this
    ·rw [List.getElem?_eq_none (by omega), List.getElem?_eq_none (by omega)]
  ·rw [h4]
   split at h2
   ·cases h2
   ·rename_i e
    cases h2
    rw [A4 (fun h => e (m6 (by rw [h])))]; rfl
 ·rw [if_neg hl, A4 (fun h => hl (by rw [h]))]
theorem setN1 (a : Int) {n : Int} (h0 : 0 ≤ a) (h1 : a < n) : SetN [a] n := ⟨by simp, by simp [h0, h1]⟩
def H2 : d8 := ⟨2, [0], [1], [⟨[0], [1], [0], 1⟩, ⟨[], [1], [], 3⟩]⟩
theorem step_ok : k9 H2 where
 n0 := by decide
 n1 := by decide
 init := setN1 0 (by decide) (by decide)
 goal := setN1 1 (by decide) (by decide)
 ops := by decide
 op o ho := by
  simp only [H2, List.mem_cons, List.not_mem_nil, or_false] at ho
  rcases ho with rfl | rfl
  ·exact ⟨⟨setN1 0 (by decide) (by decide), setN1 1 (by decide) (by decide), setN1 0 (by decide) (by decide), by simp⟩, by decide, by decide⟩
  ·exact ⟨⟨setN_nil _, setN1 1 (by decide) (by decide), setN_nil _, by simp⟩, by decide, by decide⟩
end Ab
end
