/-
  Texts that the proof stands on.
-/
import Derived.Test.YthohgmigdbaedaaGreatDoorKRwRecSpec4
set_option linter.all false
section
namespace Ab
open Go Go.Proofs
open Tryz
set_option maxHeartbeats 4000000
set_option linter.all false
attribute [local irreducible] AWP AOps thn inB Done f9 m7 Sub
theorem X9 {t : f7} {goals : List (List Int)} {observed : List Int} {r : (List Int)} (h : D8 t goals observed = some r) : m7 prog 21 [.agg (tT t), .c (row 1 f5 goals), .c (row 1 intI observed)] 1 (List.map intI r) := by
 unfold m7
 refine FnOk.enter (rs := [.t 6]) func21 Z ntmps21 results21 Z ⟨trivial, Y⟩ (by kernel_rfl) Z ?_
 unfold D8 at h
 refine AWP.q (.u (W.box Z Z Z Z Z Z (W.box Z Z Z Z Z Z (.v Z Z (.nil (b6 (.q ?_)))))))
 obtain ⟨a21, ha21, h⟩ := bind_some h
 refine AWP.u (S.lit (f := intI) (l := [1000000000]) (ess := [[int 1000000000]]) Z Z Z Z Z Z Z ⟨⟨.inl Z, Y⟩, Y⟩ Z Z Z (.j Z Z (S.len Z Z (fun hl20 => S.freshL (fun _ => Z) Z Z (.cons (.c (.own Z Z)) (.cons (.c .imm) .nil)) Z (ab9 ha21) Z Z ?_))))
 refine AOps.v Z Z (.nil (b6 (.q (.u (W.fieldAddr Z Z Z Z (.E Z Z Z Z Z Z (W.build Z Z Z Z (S.lit (f := b9) (l := [(⟨t.init, 0, 0, 0⟩ : d9)]) (ess := [[row 1 intI t.init, int 0, int 0, int 0]]) Z Z Z Z Z Z Z ⟨⟨.inl Z, .inl Z, .inl Z, .inl Z, Y⟩, Y⟩ Z Z Z (W.box Z Z Z Z Z Z (W.alloc Z Z Z Z (W.store Z Z Z Z Z (.nil (b6 (.q (.u (W.makeMap Value.string vI Z Z Z (.v Z Z (.nil (b6 (.q (.q (.u (W.alloc Z Z Z Z (W.store Z Z Z Z Z (.nil (b6 (.O ?_)))))))))))))))))))))))))))
 obtain ⟨c8, ho1, h⟩ := bind_some h
 refine AWP.loopS ho1 (fun (c4, c5, c6, c7) => ⟨[(1, .c (row 1 f5 goals)), (3, .c (.ptr 0 0 0)), (5, .c (.ptr 1 0 0)), (7, .c (.own 3 0 c4.length)), (8, .c (.ptr 6 0 0)), (9, .c (.map 7)), (10, .c (.ptr 8 0 0))], [.one (.cells 4 [(tT t)]), .one (.cells 1 [[row 1 intI observed]]), .dead, .one (vec 1 intI c4), .one (vec 4 b9 c5), .one (.cells 1 [[.own 4 0 c5.length]]), .one (.cells 1 [[.ptr 5 0 0]]), .one (mapB Value.string vI c6), .one (.cells 1 [[int c7]])]⟩) (fun c8 e st => e = .exit 0 ∧ Sub [] st ⟨[(7, .c (.own 3 0 c8.length))], [.dead, .dead, .dead, .one (vec 1 intI c8)]⟩) ?_ ?_ ?_
 ·try dsimp only
  exact Sub.cut ⟨Z, Z, Z, Z, Z, Z, Z, Y⟩ Z ⟨.one Z, .one Z, .dead, .vec, .vec, .one Z, .one Z, .one Z, .one Z, Y⟩ Z
 ·intro s o h
  obtain ⟨c4, c5, c6, c7⟩ := s
  unfold I4 at h
  try dsimp only at h ⊢
  refine AWP.q (.q ?_)
  obtain ⟨a31, ha31, h⟩ := bind_some h
  refine AWP.u (.E Z Z Z Z Z Z (.nilCheck Z Z Z (.E Z Z Z Z Z Z (.aj Z Z (.cons (.c (.own Z Z)) .nil) Z (aa2 ha31) Z (.gtr Z Z Z (.nil (b6 (.ite Z h (fun hc9 h => ?_) (fun hc9 h => ?_)))))))))
  ·refine AWP.skip (b6 ?_)
   obtain ⟨⟨c10, c11, c12, c13⟩, hx14, h⟩ := bind_some h
   refine AWP.seqJ (⟨[(1, .c (row 1 f5 goals)), (3, .c (.ptr 0 0 0)), (5, .c (.ptr 1 0 0)), (7, .c (.own 3 0 c10.length)), (8, .c (.ptr 6 0 0)), (9, .c (.map 7)), (10, .c (.ptr 8 0 0))], [.one (.cells 4 [(tT t)]), .one (.cells 1 [[row 1 intI observed]]), .dead, .one (vec 1 intI c10), .dead, .one (.cells 1 [[.own 9 0 c13.length]]), .one (.cells 1 [[.ptr 5 0 0]]), .one (mapB Value.string vI c11), .one (.cells 1 [[int c12]]), .one (vec 4 b9 c13)]⟩) ?_ ?_
   ·refine AWP.O (.q ?_)
    obtain ⟨a35, ha35, hx14⟩ := bind_some hx14
    refine AWP.u (.E Z Z Z Z Z Z (S.mkIfc Z Z Z (.callF (r2 := .c (.ifc 81 [row 1 intI a35.2.fs, int a35.2.seen, int a35.2.cost, int a35.2.sequence] true)) (σ'' := [.one (.cells 4 [(tT t)]), .one (.cells 1 [[row 1 intI observed]]), .dead, .one (vec 1 intI c4), .dead, .one (.cells 1 [[.own 9 0 a35.1.length]]), .one (.cells 1 [[.ptr 5 0 0]]), .one (mapB Value.string vI c6), .one (.cells 1 [[int c7]]), .one (vec 4 b9 a35.1)]) Z Z Z (FnOk.lend [5, 4] (ac5 ha35) Z Z Z Z Z Z (by exact ⟨(.one Z), .vec, Y⟩) Z (by exact ⟨(.live Z (.one Z)), (.live Z .vec), Y⟩) Z Z (by exact ⟨(.old Z Z Z), (.old Z Z Z), .dead, (.old Z Z Z), .dead, (.new 0 Z Z (.one Z)), (.old Z Z Z), (.old Z Z Z), (.old Z Z Z), (.new 2 Z Z .vec), Y⟩)) (S.assertA Z Z Z (W.alloc Z Z Z Z (W.storeAgg Z Z Z Z Z Z Z (.nil (b6 (.q ?_)))))))))
    obtain ⟨a43, ha43, hx14⟩ := bind_some hx14
    refine AWP.u (W.fieldAddr Z Z Z Z (.E Z Z Z Z Z Z (W.fieldAddr Z Z Z Z (.E Z Z Z Z Z Z (S.lit (f := intI) (l := [a35.2.seen]) (ess := [[int a35.2.seen]]) Z Z Z Z Z Z Z ⟨⟨.inl Z, Y⟩, Y⟩ Z Z Z (.frzV (id := 11) (l := [a35.2.seen]) (env2 := [(1, .c (row 1 f5 goals)), (3, .c (.ptr 0 0 0)), (5, .c (.ptr 1 0 0)), (7, .c (.own 3 0 c4.length)), (8, .c (.ptr 6 0 0)), (9, .c (.map 7)), (10, .c (.ptr 8 0 0)), (11, .c (.ptr 10 0 0)), (38, .c (row 1 intI a35.2.fs)), (41, .c (row 1 intI [a35.2.seen]))]) (σ2 := [.one (.cells 4 [(tT t)]), .one (.cells 1 [[row 1 intI observed]]), .dead, .one (vec 1 intI c4), .dead, .one (.cells 1 [[.own 9 0 a35.1.length]]), .one (.cells 1 [[.ptr 5 0 0]]), .one (mapB Value.string vI c6), .one (.cells 1 [[int c7]]), .one (vec 4 b9 a35.1), .one (.cells 4 [[row 1 intI a35.2.fs, int a35.2.seen, int a35.2.cost, int a35.2.sequence]]), .dead]) Z Z (by exact ⟨⟨_, Z, .inl ⟨Z, Z⟩⟩, ⟨_, Z, .inl ⟨Z, Z⟩⟩, ⟨_, Z, .inl ⟨Z, Z⟩⟩, ⟨_, Z, .inl ⟨Z, Z⟩⟩, ⟨_, Z, .inl ⟨Z, Z⟩⟩, ⟨_, Z, .inl ⟨Z, Z⟩⟩, ⟨_, Z, .inl ⟨Z, Z⟩⟩, ⟨_, Z, .inl ⟨Z, Z⟩⟩, ⟨_, Z, .inl ⟨Z, Z⟩⟩, ⟨_, Z, .inr ⟨_, Z, Z, Z⟩⟩, Y⟩) Z (by exact ⟨⟨Z, .inl ⟨Z, Z⟩, .inl ⟨Z, Z⟩, .inl ⟨Z, Z⟩, .inl ⟨Z, Z⟩, Y⟩, ⟨Z, .inl ⟨Z, Z⟩, Y⟩, trivial, FrzB.vec, trivial, ⟨Z, .inl ⟨Z, Z⟩, Y⟩, ⟨Z, .inl ⟨Z, Z⟩, Y⟩, ⟨Z, Z⟩, ⟨Z, .inl ⟨Z, Z⟩, Y⟩, FrzB.vec, ⟨Z, .inl ⟨Z, Z⟩, .inl ⟨Z, Z⟩, .inl ⟨Z, Z⟩, .inl ⟨Z, Z⟩, Y⟩, trivial, Y⟩) (S.lit (f := f5) (l := [a35.2.fs, [a35.2.seen]]) (ess := [[row 1 intI a35.2.fs], [row 1 intI [a35.2.seen]]]) Z Z Z Z Z Z Z ⟨⟨.inl Z, Y⟩, ⟨.inl Z, Y⟩, Y⟩ Z Z Z (.aj Z Z (.cons (.c (.own Z Z)) .nil) Z (Y0 ha43) Z (.v Z Z (.nil (b6 (.q (.q (.u (.j Z Z (.j Z Z (W.lookup (fk := Value.string) (fv := vI) (k := a43) (z := 0) keyStr Z (fun _ => Z) Z Z Z Z ?_)))))))))))))))))
    refine AOps.gtr Z Z Z (.nil (b6 (.ite Z hx14 (fun hc15 hx14 => ?_) (fun hc15 hx14 => ?_))))
    ·refine AWP.exit (e8 (h9 ?_))
     have ej := Option.some.inj hx14
     simp only [Prod.mk.injEq] at ej
     obtain ⟨ej0, ej1, ej2, ej3⟩ := ej
     subst ej0
     subst ej1
     subst ej2
     subst ej3
     refine b6 (Sub.cut ⟨Z, Z, Z, Z, Z, Z, Z, Y⟩ Z ⟨.one Z, .one Z, .dead, .vec, .dead, .one Z, .one Z, .one Z, .one Z, .vec, Y⟩ Z)
    ·refine AWP.skip (b6 (.q (.u (.j Z Z (.j Z Z (W.mapUpdate (fk := Value.string) (fv := vI) (k := a43) (a := 1) keyStr Z Z Z Z Z (.nil (b6 (.q (.q (.u (.j Z Z (S.len Z Z (fun hl51 => .j Z Z (.nil (b6 (.O ?_)))))))))))))))))
     obtain ⟨c16, ho2, hx14⟩ := bind_some hx14
     refine AWP.forS ho2 (fun t17 c16 => ⟨[(1, .c (row 1 f5 goals)), (3, .c (.ptr 0 0 0)), (5, .c (.ptr 1 0 0)), (7, .c (.own 3 0 c16.length)), (8, .c (.ptr 6 0 0)), (9, .c (.map 7)), (10, .c (.ptr 8 0 0)), (11, .c (.ptr 10 0 0)), (50, .c (row 1 f5 goals)), (51, .c (int (goals.length : Int))), (52, .c (int t17))], [.one (.cells 4 [(tT t)]), .one (.cells 1 [[row 1 intI observed]]), .dead, .one (vec 1 intI c16), .dead, .one (.cells 1 [[.own 9 0 a35.1.length]]), .one (.cells 1 [[.ptr 5 0 0]]), .one (mapB Value.string vI (mset c6 a43 1)), .one (.cells 1 [[int c7]]), .one (vec 4 b9 a35.1), .one (.cells 4 [[row 1 intI a35.2.fs, int a35.2.seen, int a35.2.cost, int a35.2.sequence]])]⟩) (fun c16 e st => e = .exit 2 ∧ Sub [] st ⟨[(1, .c (row 1 f5 goals)), (3, .c (.ptr 0 0 0)), (5, .c (.ptr 1 0 0)), (7, .c (.own 3 0 c16.length)), (8, .c (.ptr 6 0 0)), (9, .c (.map 7)), (10, .c (.ptr 8 0 0)), (11, .c (.ptr 10 0 0))], [.one (.cells 4 [(tT t)]), .one (.cells 1 [[row 1 intI observed]]), .dead, .one (vec 1 intI c16), .dead, .one (.cells 1 [[.own 9 0 a35.1.length]]), .one (.cells 1 [[.ptr 5 0 0]]), .one (mapB Value.string vI (mset c6 a43 1)), .one (.cells 1 [[int c7]]), .one (vec 4 b9 a35.1), .one (.cells 4 [[row 1 intI a35.2.fs, int a35.2.seen, int a35.2.cost, int a35.2.sequence]])]⟩) ?_ ?_ ?_ ?_
     ·try dsimp only
      exact Sub.cut ⟨Z, Z, Z, Z, Z, Z, Z, Z, Z, Z, Z, Y⟩ Z ⟨.one Z, .one Z, .dead, .vec, .dead, .one Z, .one Z, .one Z, .one Z, .vec, .one Z, Y⟩ Z
     ·intro t17 c16 hlot17 hltt17 _
      try dsimp only
      refine AWP.q (.u (.F Z Z Z (.nil (b6 (.q (.ae Z hltt17 (.exit (e8 (e8 ⟨Z, ?_⟩)))))))))
      exact Sub.env ⟨Z, Z, Z, Z, Z, Z, Z, Z, Y⟩
     ·intro t17 c16 o hlot17 hltt17 h
      unfold D6 at h
      try dsimp only at h ⊢
      refine AWP.q (.u (.F Z Z Z (.nil (b6 (.q (.af Z hltt17 (.skip (b6 ?_))))))))
      obtain ⟨c18, hx19, h⟩ := bind_some h
      refine AWP.seqJ (⟨[(1, .c (row 1 f5 goals)), (3, .c (.ptr 0 0 0)), (5, .c (.ptr 1 0 0)), (7, .c (.own 3 0 c18.length)), (8, .c (.ptr 6 0 0)), (9, .c (.map 7)), (10, .c (.ptr 8 0 0)), (11, .c (.ptr 10 0 0)), (50, .c (row 1 f5 goals)), (51, .c (int (goals.length : Int))), (52, .c (int t17))], [.one (.cells 4 [(tT t)]), .one (.cells 1 [[row 1 intI observed]]), .dead, .one (vec 1 intI c18), .dead, .one (.cells 1 [[.own 9 0 a35.1.length]]), .one (.cells 1 [[.ptr 5 0 0]]), .one (mapB Value.string vI (mset c6 a43 1)), .one (.cells 1 [[int c7]]), .one (vec 4 b9 a35.1), .one (.cells 4 [[row 1 intI a35.2.fs, int a35.2.seen, int a35.2.cost, int a35.2.sequence]])]⟩) ?_ ?_
      ·refine AWP.O (.q ?_)
       obtain ⟨a55, ha55, hx19⟩ := bind_some hx19
       refine AWP.u (.j Z Z (S.idx ha55 Z Z Z Z (.ad Z Z Z Z (.v Z Z (.v Z Z (.nil (b6 ?_)))))))
       obtain ⟨t20, hx21, hx19⟩ := bind_some hx19
       refine AWP.seqJ (⟨[(1, .c (row 1 f5 goals)), (3, .c (.ptr 0 0 0)), (5, .c (.ptr 1 0 0)), (7, .c (.own 3 0 c16.length)), (8, .c (.ptr 6 0 0)), (9, .c (.map 7)), (10, .c (.ptr 8 0 0)), (11, .c (.ptr 10 0 0)), (13, .c (int t17)), (50, .c (row 1 f5 goals)), (51, .c (int (goals.length : Int))), (52, .c (int t17)), (74, .c (bool t20))], [.one (.cells 4 [(tT t)]), .one (.cells 1 [[row 1 intI observed]]), .dead, .one (vec 1 intI c16), .dead, .one (.cells 1 [[.own 9 0 a35.1.length]]), .one (.cells 1 [[.ptr 5 0 0]]), .one (mapB Value.string vI (mset c6 a43 1)), .one (.cells 1 [[int c7]]), .one (vec 4 b9 a35.1), .one (.cells 4 [[row 1 intI a35.2.fs, int a35.2.seen, int a35.2.cost, int a35.2.sequence]])]⟩) ?_ ?_
       ·rcases bft (decide (a35.2.seen = (observed.length : Int))) with hb22 | hb22
        ·replace hx21 := v8 hb22 hx21
         obtain ⟨a65, ha65, hx21⟩ := bind_some hx21
         rcases bft (decide (a65 = 1000000000)) with hb23 | hb23
         ·replace hx21 := v8 hb23 hx21
          obtain ⟨a73, ha73, hx21⟩ := bind_some hx21
          refine AWP.u (W.fieldAddr Z Z Z Z (.E Z Z Z Z Z Z (.E Z Z Z Z Z Z (S.len Z Z (fun hl60 => .ab Z Z Z (.j Z Z (.z Z Z Z hb22 (.j Z Z (.z Z Z Z hb22 (.j Z Z (.z Z Z Z hb22 (S.idxO ha65 Z Z Z Z Z (.z Z Z Z hb22 (S.loadO ha65 Z Z Z Z Z (.z Z Z Z hb22 (.ab Z Z Z (.U Z hb22 Z Z (.j Z Z (.z Z Z Z hb23 (W.fieldAddr Z Z Z Z (.z Z Z Z hb23 (.E Z Z Z Z Z Z (.z Z Z Z hb23 (.j Z Z (.z Z Z Z hb23 (.J Z Z Z Z (P3 ha73) Z (.U Z hb23 Z Z (.nil ?_))))))))))))))))))))))))))))
          obtain rfl := oi hx21
          refine b6 (Sub.env ⟨Z, Z, Z, Z, Z, Z, Z, Z, Z, Z, Z, Z, Z, Y⟩)
         ·replace hx21 := v7 hb23 hx21
          refine AWP.u (W.fieldAddr Z Z Z Z (.E Z Z Z Z Z Z (.E Z Z Z Z Z Z (S.len Z Z (fun hl60 => .ab Z Z Z (.j Z Z (.z Z Z Z hb22 (.j Z Z (.z Z Z Z hb22 (.j Z Z (.z Z Z Z hb22 (S.idxO ha65 Z Z Z Z Z (.z Z Z Z hb22 (S.loadO ha65 Z Z Z Z Z (.z Z Z Z hb22 (.ab Z Z Z (.U Z hb22 Z Z (.j Z Z (.B Z Z Z hb23 (.B Z Z Z hb23 (.B Z Z Z hb23 (.B Z Z Z hb23 (.aa Z hb23 Z Z (.nil ?_))))))))))))))))))))))))
          obtain rfl := oi hx21
          refine b6 (Sub.env ⟨Z, Z, Z, Z, Z, Z, Z, Z, Z, Z, Z, Z, Z, Y⟩)
        ·replace hx21 := v7 hb22 hx21
         refine AWP.u (W.fieldAddr Z Z Z Z (.E Z Z Z Z Z Z (.E Z Z Z Z Z Z (S.len Z Z (fun hl60 => .ab Z Z Z (.j Z Z (.B Z Z Z hb22 (.B Z Z Z hb22 (.B Z Z Z hb22 (.B Z Z Z hb22 (.B Z Z Z hb22 (.aa Z hb22 Z Z (.j Z Z (.B Z Z Z Z (.B Z Z Z Z (.B Z Z Z Z (.B Z Z Z Z (.aa Z Z Z Z (.nil ?_)))))))))))))))))))
         obtain rfl := oi hx21
         refine b6 (Sub.env ⟨Z, Z, Z, Z, Z, Z, Z, Z, Z, Z, Z, Z, Z, Y⟩)
       ·refine AWP.ah Z hx19 (fun hc24 hx19 => ?_) (fun hc24 hx19 => ?_)
        ·obtain ⟨a79, ha79, hx19⟩ := bind_some hx19
         refine AWP.u (.j Z Z (.j Z Z (W.fieldAddr Z Z Z Z (.E Z Z Z Z Z Z (S.idxO ha79 Z Z Z Z Z (S.storeO1 (f := intI) (a' := a35.2.cost) (ix_lt ha79) (fun _ => ⟨_, Z⟩) Z Z Z Z Z ?_))))))
         refine AOps.nil (e6 ?_)
         obtain rfl := oi hx19
         refine b6 (Sub.env ⟨Z, Z, Z, (E0 (by first | rfl | simp only [List.length_set])), Z, Z, Z, Z, Z, Z, Z, Y⟩)
        ·refine AWP.skip (e6 ?_)
         obtain rfl := oi hx19
         refine b6 (Sub.env ⟨Z, Z, Z, Z, Z, Z, Z, Z, Z, Z, Z, Y⟩)
      ·refine AWP.u (.add Z Z Z (by omega) (.j Z Z (.nil ?_)))
       obtain rfl := oi h
       refine b6 (Sub.env ⟨Z, Z, Z, Z, Z, Z, Z, Z, Z, Z, Z, Y⟩)
     ·intro e s hq
      obtain ⟨rfl, hs⟩ := hq
      refine ⟨_, hs, ?_⟩
      refine h9 (b6 (.q ?_))
      obtain ⟨a84, ha84, hx14⟩ := bind_some hx14
      refine AWP.u (W.loadAgg Z Z Z Z Z Z Z (W.fieldAddr Z Z Z Z (.E Z Z Z Z Z Z (.callF (r2 := .c (.fn 74 [.ptr 11 0 0, .ptr 12 0 0])) (σ'' := [.one (.cells 4 [(tT t)]), .one (.cells 1 [[row 1 intI observed]]), .dead, .one (vec 1 intI c16), .dead, .one (.cells 1 [[.own 9 0 a35.1.length]]), .one (.cells 1 [[.ptr 5 0 0]]), .one (mapB Value.string vI (mset c6 a43 1)), .one (.cells 1 [[int c7]]), .one (vec 4 b9 a35.1), .one (.cells 4 [[row 1 intI a35.2.fs, int a35.2.seen, int a35.2.cost, int a35.2.sequence]]), .one (.cells 4 [(tT t)]), .one (.cells 1 [[row 1 intI a35.2.fs]])]) Z Z Z (FnOk.lend [] (ad6 ha84) Z Z Z Z Z Z (by exact trivial) Z (by exact trivial) Z Z (by exact ⟨(.old Z Z Z), (.old Z Z Z), .dead, (.old Z Z Z), .dead, (.old Z Z Z), (.old Z Z Z), (.old Z Z Z), (.old Z Z Z), (.old Z Z Z), (.old Z Z Z), (.new 0 Z Z (.one Z)), (.new 1 Z Z (.one Z)), Y⟩)) (.nil (b6 (.O ?_)))))))
      obtain ⟨xr25, hr25, hx14⟩ := bind_some hx14
      refine AWP.rangeB [(3, none), (5, none), (8, none), (10, none), (11, none)] Z Z Z (fun as25 bo25 hA25 hB25 => ⟨[.one (.cells 4 [(tT t)]), .one (.cells 1 [[row 1 intI observed]]), .dead, .one (vec 1 intI c16), .dead, .one (.cells 1 [[.own 9 0 a35.1.length]]), .one (.cells 1 [[.ptr 5 0 0]]), .one (mapB Value.string vI (mset c6 a43 1)), .one (.cells 1 [[int c7]]), .one (vec 4 b9 a35.1), .one (.cells 4 [[row 1 intI a35.2.fs, int a35.2.seen, int a35.2.cost, int a35.2.sequence]]), .one (.cells 4 [(tT t)]), .one (.cells 1 [[row 1 intI a35.2.fs]]), .one (l4 133 [85, 86] as25 bo25 .ready none [(3, none), (5, none), (8, none), (10, none), (11, none)] [.ptr 0 0 0, .ptr 1 0 0, .ptr 6 0 0, .ptr 8 0 0, .ptr 10 0 0])], fun tt ss => tt = .tup [] ∧ ss = [.one (.cells 4 [(tT t)]), .one (.cells 1 [[row 1 intI observed]]), .dead, .one (vec 1 intI c16), .dead, .one (.cells 1 [[.own 14 0 xr25.2.length]]), .one (.cells 1 [[.ptr 5 0 0]]), .one (mapB Value.string vI (mset c6 a43 1)), .one (.cells 1 [[int xr25.1]]), .dead, .one (.cells 4 [[row 1 intI a35.2.fs, int a35.2.seen, int a35.2.cost, int a35.2.sequence]]), .one (.cells 4 [(tT t)]), .one (.cells 1 [[row 1 intI a35.2.fs]]), .one (l4 133 [85, 86] as25 bo25 .ready none [(3, none), (5, none), (8, none), (10, none), (11, none)] [.ptr 0 0 0, .ptr 1 0 0, .ptr 6 0 0, .ptr 8 0 0, .ptr 10 0 0]), .one (vec 4 b9 xr25.2)], Z, ?_, ?_⟩)
      ·refine FnOk.enter (rs := []) func74 Z ntmps74 results74 Z trivial (by kernel_rfl) Z ?_
       refine AWP.weak ?_
       unfold J1 at hr25
       try dsimp only at hr25
       refine AWP.j (env' := [(0, .c (.yld 13)), (1, .c (.ptr 11 0 0)), (2, .c (.ptr 12 0 0))]) (σ' := [.one (.cells 4 [(tT t)]), .one (.cells 1 [[row 1 intI observed]]), .dead, .one (vec 1 intI c16), .dead, .one (.cells 1 [[.own 14 0 a35.1.length]]), .one (.cells 1 [[.ptr 5 0 0]]), .one (mapB Value.string vI (mset c6 a43 1)), .one (.cells 1 [[int c7]]), .dead, .one (.cells 4 [[row 1 intI a35.2.fs, int a35.2.seen, int a35.2.cost, int a35.2.sequence]]), .one (.cells 4 [(tT t)]), .one (.cells 1 [[row 1 intI a35.2.fs]]), .one (l4 133 [85, 86] as25 bo25 .ready none [(3, none), (5, none), (8, none), (10, none), (11, none)] [.ptr 0 0 0, .ptr 1 0 0, .ptr 6 0 0, .ptr 8 0 0, .ptr 10 0 0]), .one (vec 4 b9 a35.1)]) 14 9 Z Z Z ⟨Z, Z, Z, Y⟩ Z ⟨⟨Z, Z⟩, ⟨Z, Z⟩, trivial, ⟨Blk.im_ok _ _ _, i8 Z⟩, trivial, ⟨Z, Z⟩, ⟨Z, Z⟩, ⟨Z, Z⟩, ⟨Z, Z⟩, trivial, ⟨Z, Z⟩, ⟨Z, Z⟩, ⟨Z, Z⟩, ⟨Z, Z⟩, ⟨Blk.im_ok _ _ _, i8 Z⟩, Y⟩ (.q (.u (W.fieldAddr Z Z Z Z (.E Z Z Z Z Z Z (S.len Z Z (fun hl7 => .j Z Z (.nil (b6 (.O ?_)))))))))
       obtain ⟨⟨c28, c29⟩, ho3, hr25⟩ := bind_some hr25
       try dsimp only at hr25
       refine AWP.forS ho3 (fun t30 (c28, c29) => ⟨[(0, .c (.yld 13)), (1, .c (.ptr 11 0 0)), (2, .c (.ptr 12 0 0)), (7, .c (int (t.operators.length : Int))), (8, .c (int t30))], [.one (.cells 4 [(tT t)]), .one (.cells 1 [[row 1 intI observed]]), .dead, .one (vec 1 intI c16), .dead, .one (.cells 1 [[.own 14 0 c29.length]]), .one (.cells 1 [[.ptr 5 0 0]]), .one (mapB Value.string vI (mset c6 a43 1)), .one (.cells 1 [[int c28]]), .dead, .one (.cells 4 [[row 1 intI a35.2.fs, int a35.2.seen, int a35.2.cost, int a35.2.sequence]]), .one (.cells 4 [(tT t)]), .one (.cells 1 [[row 1 intI a35.2.fs]]), .one (l4 133 [85, 86] as25 bo25 .ready none [(3, none), (5, none), (8, none), (10, none), (11, none)] [.ptr 0 0 0, .ptr 1 0 0, .ptr 6 0 0, .ptr 8 0 0, .ptr 10 0 0]), .one (vec 4 b9 c29)]⟩) (fun (c28, c29) e st => e = .exit 0 ∧ Sub ([.one (.cells 4 [(tT t)]), .one (.cells 1 [[row 1 intI observed]]), .dead, .one (vec 1 intI c16), .dead, .one (.cells 1 [[.own 9 0 a35.1.length]]), .one (.cells 1 [[.ptr 5 0 0]]), .one (mapB Value.string vI (mset c6 a43 1)), .one (.cells 1 [[int c7]]), .one (vec 4 b9 a35.1), .one (.cells 4 [[row 1 intI a35.2.fs, int a35.2.seen, int a35.2.cost, int a35.2.sequence]]), .one (.cells 4 [(tT t)]), .one (.cells 1 [[row 1 intI a35.2.fs]]), .one (l4 133 [85, 86] as25 bo25 .ready none [(3, none), (5, none), (8, none), (10, none), (11, none)] [.ptr 0 0 0, .ptr 1 0 0, .ptr 6 0 0, .ptr 8 0 0, .ptr 10 0 0])] : b7) st ⟨[], [.one (.cells 4 [(tT t)]), .one (.cells 1 [[row 1 intI observed]]), .dead, .one (vec 1 intI c16), .dead, .one (.cells 1 [[.own 14 0 c29.length]]), .one (.cells 1 [[.ptr 5 0 0]]), .one (mapB Value.string vI (mset c6 a43 1)), .one (.cells 1 [[int c28]]), .dead, .one (.cells 4 [[row 1 intI a35.2.fs, int a35.2.seen, int a35.2.cost, int a35.2.sequence]]), .one (.cells 4 [(tT t)]), .one (.cells 1 [[row 1 intI a35.2.fs]]), .one (l4 133 [85, 86] as25 bo25 .ready none [(3, none), (5, none), (8, none), (10, none), (11, none)] [.ptr 0 0 0, .ptr 1 0 0, .ptr 6 0 0, .ptr 8 0 0, .ptr 10 0 0]), .one (vec 4 b9 c29)]⟩) ?_ ?_ ?_ ?_
       ·try dsimp only
        exact Sub.env ⟨Z, Z, Z, Z, Z, Y⟩
       ·intro t30 s hlot30 hltt30 _
        obtain ⟨c28, c29⟩ := s
        try dsimp only
        refine AWP.q (.u (.F Z Z Z (.nil (b6 (.q (.ae Z hltt30 (.exit (e8 (e8 ⟨Z, ?_⟩)))))))))
        exact Sub.env trivial
       ·intro t30 s o hlot30 hltt30 h
        obtain ⟨c28, c29⟩ := s
        unfold H8 at h
        try dsimp only at h ⊢
        refine AWP.q (.u (.F Z Z Z (.nil (b6 (.q (.af Z hltt30 (.skip (b6 (.q (.O (.q (.u (.j Z Z (.v Z Z (.nil (b6 (.q ?_)))))))))))))))))
        obtain ⟨ai14, hai14, h⟩ := bind_some h
        rcases bft (ai14) with hb31 | hb31
        ·replace h := F2 hb31 h
         obtain ⟨ai21, hai21, h⟩ := bind_some h
         refine AWP.u (W.loadAgg Z Z Z Z Z Z Z (.E Z Z Z Z Z Z (.j Z Z (.J Z Z Z Z (ah0 hai14) Z (.j Z Z (.z Z Z Z hb31 (.j Z Z (.z Z Z Z hb31 (.j Z Z (.z Z Z Z hb31 (W.loadAgg Z Z Z Z Z Z Z (.z Z Z Z hb31 (.E Z Z Z Z Z Z (.z Z Z Z hb31 (.j Z Z (.z Z Z Z hb31 (S.fresh Z Z Z Z (ae3 hai21) Z Z (.frzV (id := 15) (l := ai21) (env2 := [(0, .c (.yld 13)), (1, .c (.ptr 11 0 0)), (2, .c (.ptr 12 0 0)), (7, .c (int (t.operators.length : Int))), (8, .c (int t30)), (15, .c (bool ai14)), (16, .c (.yld 13)), (17, .c (int t30)), (21, .c (row 1 intI ai21))]) (σ2 := [.one (.cells 4 [(tT t)]), .one (.cells 1 [[row 1 intI observed]]), .dead, .one (vec 1 intI c16), .dead, .one (.cells 1 [[.own 14 0 c29.length]]), .one (.cells 1 [[.ptr 5 0 0]]), .one (mapB Value.string vI (mset c6 a43 1)), .one (.cells 1 [[int c28]]), .dead, .one (.cells 4 [[row 1 intI a35.2.fs, int a35.2.seen, int a35.2.cost, int a35.2.sequence]]), .one (.cells 4 [(tT t)]), .one (.cells 1 [[row 1 intI a35.2.fs]]), .one (l4 133 [85, 86] as25 bo25 .ready none [(3, none), (5, none), (8, none), (10, none), (11, none)] [.ptr 0 0 0, .ptr 1 0 0, .ptr 6 0 0, .ptr 8 0 0, .ptr 10 0 0]), .one (vec 4 b9 c29), .dead]) Z Z (by exact ⟨⟨_, Z, .inl ⟨Z, Z⟩⟩, ⟨_, Z, .inl ⟨Z, Z⟩⟩, ⟨_, Z, .inl ⟨Z, Z⟩⟩, ⟨_, Z, .inl ⟨Z, Z⟩⟩, ⟨_, Z, .inl ⟨Z, Z⟩⟩, ⟨_, Z, .inl ⟨Z, Z⟩⟩, ⟨_, Z, .inl ⟨Z, Z⟩⟩, ⟨_, Z, .inl ⟨Z, Z⟩⟩, ⟨_, Z, .inr ⟨_, Z, Z, Z⟩⟩, Y⟩) Z (by exact ⟨⟨Z, .inl ⟨Z, Z⟩, .inl ⟨Z, Z⟩, .inl ⟨Z, Z⟩, .inl ⟨Z, Z⟩, Y⟩, ⟨Z, .inl ⟨Z, Z⟩, Y⟩, trivial, FrzB.vec, trivial, ⟨Z, .inl ⟨Z, Z⟩, Y⟩, ⟨Z, .inl ⟨Z, Z⟩, Y⟩, ⟨Z, Z⟩, ⟨Z, .inl ⟨Z, Z⟩, Y⟩, trivial, ⟨Z, .inl ⟨Z, Z⟩, .inl ⟨Z, Z⟩, .inl ⟨Z, Z⟩, .inl ⟨Z, Z⟩, Y⟩, ⟨Z, .inl ⟨Z, Z⟩, .inl ⟨Z, Z⟩, .inl ⟨Z, Z⟩, .inl ⟨Z, Z⟩, Y⟩, ⟨Z, .inl ⟨Z, Z⟩, Y⟩, ⟨Z, Z⟩, FrzB.vec, trivial, Y⟩) ?_))))))))))))))))))
         refine AOps.z Z Z Z hb31 ?_; refine AOps.yieldB (E1 := [(16, .c (row 1 intI ai21)), (15, .c (int t30)), (86, .c (row 1 intI ai21)), (85, .c (int t30)), (3, .c (.ptr 0 0 0)), (5, .c (.ptr 1 0 0)), (8, .c (.ptr 6 0 0)), (10, .c (.ptr 8 0 0)), (11, .c (.ptr 10 0 0))]) (σ1 := [.one (.cells 4 [(tT t)]), .one (.cells 1 [[row 1 intI observed]]), .dead, .one (vec 1 intI c16), .dead, .one (.cells 1 [[.own 14 0 c29.length]]), .one (.cells 1 [[.ptr 5 0 0]]), .one (mapB Value.string vI (mset c6 a43 1)), .one (.cells 1 [[int c28]]), .dead, .one (.cells 4 [[row 1 intI a35.2.fs, int a35.2.seen, int a35.2.cost, int a35.2.sequence]]), .one (.cells 4 [(tT t)]), .one (.cells 1 [[row 1 intI a35.2.fs]]), .one (l4 133 [85, 86] as25 bo25 .ready none [(3, none), (5, none), (8, none), (10, none), (11, none)] [.ptr 0 0 0, .ptr 1 0 0, .ptr 6 0 0, .ptr 8 0 0, .ptr 10 0 0]), .one (vec 4 b9 c29), .dead]) hA25 hB25 Z Z Z Z Z Z Z Z Z Z ?_ ?_
         ·refine AWP.q (.u (.v Z Z (.nil (b6 (.u (.v Z Z (.nil ?_)))))))
          exact ⟨Z, Z⟩
         refine AWP.sub (s' := ⟨[(3, .c (.ptr 0 0 0)), (5, .c (.ptr 1 0 0)), (8, .c (.ptr 6 0 0)), (10, .c (.ptr 8 0 0)), (11, .c (.ptr 10 0 0)), (15, .c (int t30)), (16, .c (row 1 intI ai21))], [.one (.cells 4 [(tT t)]), .one (.cells 1 [[row 1 intI observed]]), .dead, .one (vec 1 intI c16), .dead, .one (.cells 1 [[.own 14 0 c29.length]]), .one (.cells 1 [[.ptr 5 0 0]]), .one (mapB Value.string vI (mset c6 a43 1)), .one (.cells 1 [[int c28]]), .dead, .one (.cells 4 [[row 1 intI a35.2.fs, int a35.2.seen, int a35.2.cost, int a35.2.sequence]]), .one (.cells 4 [(tT t)]), .one (.cells 1 [[row 1 intI a35.2.fs]]), .one (l4 133 [85, 86] as25 bo25 .busy none [(3, none), (5, none), (8, none), (10, none), (11, none)] [.ptr 0 0 0, .ptr 1 0 0, .ptr 6 0 0, .ptr 8 0 0, .ptr 10 0 0]), .one (vec 4 b9 c29), .dead]⟩) (Sub.env ⟨Z, Z, Z, Z, Z, Z, Z, Y⟩) (.O (.q ?_))
         obtain ⟨ab95, hab95, h⟩ := bind_some h
         refine AWP.drawEI [14, 15] mixed Z Z Z ?_
         refine f8.consN Z Z (fun E => AOps.j Z Z .N) Z (.consN Z Z (fun E => W.fieldAddr Z Z Z Z .N) Z (.consN Z Z (fun E => AOps.E Z Z Z Z Z Z .N) Z (.consN Z Z (fun E => W.fieldAddr Z Z Z Z .N) Z (.consN Z Z (fun E => AOps.E Z Z Z Z Z Z .N) Z (.consN Z Z (fun E => W.fieldAddr Z Z Z Z .N) Z (.consN Z Z (fun E => AOps.E Z Z Z Z Z Z .N) Z (.consN Z Z (fun E => AOps.j Z Z .N) Z (.consN Z Z (fun E => S.idx hab95 Z Z Z Z .N) Z (.consN Z Z (fun E => W.fieldAddrI Z Z Z Z .N) Z (.consN Z Z (fun E => AOps.ad Z Z Z Z .N) Z (.consN Z Z (fun E => S.add Z Z Z .N) Z (.consN Z Z (fun E => AOps.E Z Z Z Z Z Z .N) Z (.consN Z Z (fun E => W.build Z Z Z Z .N) Z ?_)))))))))))))
         apply f8.consE; exact Z; exact Z; intro E
         refine W.alloc Z Z Z Z .N
         exact Z
         exact Z
         apply f8.consE (v := .undef); exact Z; exact Z; intro E
         refine W.storeAgg Z Z Z Z Z Z Z .N
         exact Z
         exact Z
         refine f8.done Z ?_ ?_
         ·refine e7.cons Z Z ?_ ?_
          refine b8.go Z Z (fun E => AOps.j Z Z .N) ?_
          refine b8.go Z Z (fun E => AOps.j Z Z .N) ?_
          refine b8.skip Z (b8.nil)
          refine e7.cons Z Z ?_ ?_
          refine b8.go Z Z (fun E => W.fieldAddr Z Z Z Z .N) ?_
          refine b8.go Z Z (fun E => W.fieldAddr Z Z Z Z .N) ?_
          refine b8.skip Z (b8.nil)
          refine e7.cons Z Z ?_ ?_
          refine b8.go Z Z (fun E => AOps.E Z Z Z Z Z Z .N) ?_
          refine b8.go Z Z (fun E => AOps.E Z Z Z Z Z Z .N) ?_
          refine b8.skip Z (b8.nil)
          refine e7.cons Z Z ?_ ?_
          refine b8.go Z Z (fun E => W.fieldAddr Z Z Z Z .N) ?_
          refine b8.go Z Z (fun E => W.fieldAddr Z Z Z Z .N) ?_
          refine b8.skip Z (b8.nil)
          refine e7.cons Z Z ?_ ?_
          refine b8.go Z Z (fun E => AOps.E Z Z Z Z Z Z .N) ?_
          refine b8.go Z Z (fun E => AOps.E Z Z Z Z Z Z .N) ?_
          refine b8.skip Z (b8.nil)
          refine e7.cons Z Z ?_ ?_
          refine b8.go Z Z (fun E => W.fieldAddr Z Z Z Z .N) ?_
          refine b8.go Z Z (fun E => W.fieldAddr Z Z Z Z .N) ?_
          refine b8.skip Z (b8.nil)
          refine e7.cons Z Z ?_ ?_
          refine b8.go Z Z (fun E => AOps.E Z Z Z Z Z Z .N) ?_
          refine b8.go Z Z (fun E => AOps.E Z Z Z Z Z Z .N) ?_
          refine b8.skip Z (b8.nil)
          refine e7.cons Z Z ?_ ?_
          refine b8.go Z Z (fun E => AOps.j Z Z .N) ?_
          refine b8.go Z Z (fun E => AOps.j Z Z .N) ?_
          refine b8.skip Z (b8.nil)
          refine e7.cons Z Z ?_ ?_
          refine b8.go Z Z (fun E => S.idx hab95 Z Z Z Z .N) ?_
          refine b8.go Z Z (fun E => S.idx hab95 Z Z Z Z .N) ?_
          refine b8.skip Z (b8.nil)
          refine e7.cons Z Z ?_ ?_
          refine b8.go Z Z (fun E => W.fieldAddrI Z Z Z Z .N) ?_
          refine b8.go Z Z (fun E => W.fieldAddrI Z Z Z Z .N) ?_
          refine b8.skip Z (b8.nil)
          refine e7.cons Z Z ?_ ?_
          refine b8.go Z Z (fun E => AOps.ad Z Z Z Z .N) ?_
          refine b8.go Z Z (fun E => AOps.ad Z Z Z Z .N) ?_
          refine b8.skip Z (b8.nil)
          refine e7.cons Z Z ?_ ?_
          refine b8.go Z Z (fun E => S.add Z Z Z .N) ?_
          refine b8.go Z Z (fun E => S.add Z Z Z .N) ?_
          refine b8.skip Z (b8.nil)
          refine e7.cons Z Z ?_ ?_
          refine b8.go Z Z (fun E => AOps.E Z Z Z Z Z Z .N) ?_
          refine b8.go Z Z (fun E => AOps.E Z Z Z Z Z Z .N) ?_
          refine b8.skip Z (b8.nil)
          refine e7.cons Z Z ?_ ?_
          refine b8.go Z Z (fun E => W.build Z Z Z Z .N) ?_
          refine b8.go Z Z (fun E => W.build Z Z Z Z .N) ?_
          refine b8.skip Z (b8.nil)
          refine e7.skip Z (e7.skip Z (e7.nil))
         dsimp only [k6]
         refine b6 (.q (.u (.E Z Z Z Z Z Z (S.add Z Z Z (W.store Z Z Z Z Z (.nil (b6 (.q ?_))))))))
         obtain ⟨ab107, hab107, h⟩ := bind_some h
         refine AWP.u (.E Z Z Z Z Z Z (S.mkIfc Z Z Z (W.loadAgg Z Z Z Z Z Z Z (S.mkIfcA Z Z Z (.callF (r2 := .tup []) (σ'' := [.one (.cells 4 [(tT t)]), .one (.cells 1 [[row 1 intI observed]]), .dead, .one (vec 1 intI c16), .dead, .one (.cells 1 [[.own 18 0 ab107.length]]), .one (.cells 1 [[.ptr 5 0 0]]), .one (mapB Value.string vI (mset c6 a43 1)), .one (.cells 1 [[int (w64 (c28 + 1))]]), .dead, .one (.cells 4 [[row 1 intI a35.2.fs, int a35.2.seen, int a35.2.cost, int a35.2.sequence]]), .one (.cells 4 [(tT t)]), .one (.cells 1 [[row 1 intI a35.2.fs]]), .one (l4 133 [85, 86] as25 bo25 .busy none [(3, none), (5, none), (8, none), (10, none), (11, none)] [.ptr 0 0 0, .ptr 1 0 0, .ptr 6 0 0, .ptr 8 0 0, .ptr 10 0 0]), .dead, .dead, .one (.cells 4 [[row 1 intI ai21, int a35.2.seen, int (w64 (a35.2.cost + ab95.cost)), int c28]]), .dead, .one (vec 4 b9 ab107)]) Z Z Z (FnOk.lend [5, 14] (O1 hab107) Z Z Z Z Z Z (by exact ⟨(.one Z), .vec, Y⟩) Z (by exact ⟨(.live Z (.one Z)), (.live Z .vec), Y⟩) Z Z (by exact ⟨(.old Z Z Z), (.old Z Z Z), .dead, (.old Z Z Z), .dead, (.new 0 Z Z (.one Z)), (.old Z Z Z), (.old Z Z Z), (.old Z Z Z), .dead, (.old Z Z Z), (.old Z Z Z), (.old Z Z Z), (.old Z Z Z), .dead, .dead, (.old Z Z Z), .dead, (.new 3 Z Z .vec), Y⟩)) (.nil (b6 ?_)))))))
         obtain ⟨t32, hx33, h⟩ := bind_some h
         refine AWP.seqJ (⟨[(8, .c (.ptr 6 0 0)), (17, .c (.ptr 16 0 0)), (121, .c (bool t32))], [.one (.cells 4 [(tT t)]), .one (.cells 1 [[row 1 intI observed]]), .dead, .one (vec 1 intI c16), .dead, .one (.cells 1 [[.own 18 0 ab107.length]]), .one (.cells 1 [[.ptr 5 0 0]]), .one (mapB Value.string vI (mset c6 a43 1)), .one (.cells 1 [[int (w64 (c28 + 1))]]), .dead, .one (.cells 4 [[row 1 intI a35.2.fs, int a35.2.seen, int a35.2.cost, int a35.2.sequence]]), .one (.cells 4 [(tT t)]), .one (.cells 1 [[row 1 intI a35.2.fs]]), .one (l4 133 [85, 86] as25 bo25 .busy none [(3, none), (5, none), (8, none), (10, none), (11, none)] [.ptr 0 0 0, .ptr 1 0 0, .ptr 6 0 0, .ptr 8 0 0, .ptr 10 0 0]), .dead, .dead, .one (.cells 4 [[row 1 intI ai21, int a35.2.seen, int (w64 (a35.2.cost + ab95.cost)), int c28]]), .dead, .one (vec 4 b9 ab107)]⟩) ?_ ?_
         ·rcases bft (decide (a35.2.seen < (observed.length : Int))) with hb34 | hb34
          ·replace hx33 := v8 hb34 hx33
           obtain ⟨ab117, hab117, hx33⟩ := bind_some hx33
           refine AWP.u (W.fieldAddr Z Z Z Z (.E Z Z Z Z Z Z (.E Z Z Z Z Z Z (S.len Z Z (fun hl111 => .F Z Z Z (.j Z Z (.z Z Z Z hb34 (.E Z Z Z Z Z Z (.z Z Z Z hb34 (W.fieldAddr Z Z Z Z (.z Z Z Z hb34 (.E Z Z Z Z Z Z (.z Z Z Z hb34 (S.idx hab117 Z Z Z Z (.z Z Z Z hb34 (.ad Z Z Z Z (.z Z Z Z hb34 (.j Z Z (.z Z Z Z hb34 (.ab Z Z Z (.U Z hb34 Z Z (.nil ?_))))))))))))))))))))))
           obtain rfl := oi hx33
           refine b6 (Sub.env ⟨Z, Z, Z, Y⟩)
          ·replace hx33 := v7 hb34 hx33
           refine AWP.u (W.fieldAddr Z Z Z Z (.E Z Z Z Z Z Z (.E Z Z Z Z Z Z (S.len Z Z (fun hl111 => .F Z Z Z (.j Z Z (.B Z Z Z hb34 (.B Z Z Z hb34 (.B Z Z Z hb34 (.B Z Z Z hb34 (.B Z Z Z hb34 (.B Z Z Z hb34 (.B Z Z Z hb34 (.aa Z hb34 Z Z (.nil ?_)))))))))))))))
           obtain rfl := oi hx33
           refine b6 (Sub.env ⟨Z, Z, Z, Y⟩)
         ·refine AWP.ah Z h (fun hc35 h => ?_) (fun hc35 h => ?_)
          ·refine AWP.q (.u (W.fieldAddr Z Z Z Z (.E Z Z Z Z Z Z (S.add Z Z Z (W.fieldAddr Z Z Z Z (W.store Z Z Z Z Z (.nil (b6 ?_))))))))
           obtain ⟨ab130, hab130, h⟩ := bind_some h
           refine AWP.u (.E Z Z Z Z Z Z (S.mkIfc Z Z Z (W.loadAgg Z Z Z Z Z Z Z (S.mkIfcA Z Z Z (.callF (r2 := .tup []) (σ'' := [.one (.cells 4 [(tT t)]), .one (.cells 1 [[row 1 intI observed]]), .dead, .one (vec 1 intI c16), .dead, .one (.cells 1 [[.own 20 0 ab130.length]]), .one (.cells 1 [[.ptr 5 0 0]]), .one (mapB Value.string vI (mset c6 a43 1)), .one (.cells 1 [[int (w64 (c28 + 1))]]), .dead, .one (.cells 4 [[row 1 intI a35.2.fs, int a35.2.seen, int a35.2.cost, int a35.2.sequence]]), .one (.cells 4 [(tT t)]), .one (.cells 1 [[row 1 intI a35.2.fs]]), .one (l4 133 [85, 86] as25 bo25 .busy none [(3, none), (5, none), (8, none), (10, none), (11, none)] [.ptr 0 0 0, .ptr 1 0 0, .ptr 6 0 0, .ptr 8 0 0, .ptr 10 0 0]), .dead, .dead, .one (.cells 4 [[row 1 intI ai21, int (w64 (a35.2.seen + 1)), int (w64 (a35.2.cost + ab95.cost)), int c28]]), .dead, .dead, .dead, .one (vec 4 b9 ab130)]) Z Z Z (FnOk.lend [5, 18] (O1 hab130) Z Z Z Z Z Z (by exact ⟨(.one Z), .vec, Y⟩) Z (by exact ⟨(.live Z (.one Z)), (.live Z .vec), Y⟩) Z Z (by exact ⟨(.old Z Z Z), (.old Z Z Z), .dead, (.old Z Z Z), .dead, (.new 0 Z Z (.one Z)), (.old Z Z Z), (.old Z Z Z), (.old Z Z Z), .dead, (.old Z Z Z), (.old Z Z Z), (.old Z Z Z), (.old Z Z Z), .dead, .dead, (.old Z Z Z), .dead, .dead, .dead, (.new 3 Z Z .vec), Y⟩)) (.nil (e6 (T7 Z Z (.z Z Z Z hb31 (.ac Z Z (.U Z hb31 Z Z (.nil (b6 (.condF Z (.skip (e6 (b6 (.u (.add Z Z Z (by omega) (.j Z Z (.nil ?_)))))))))))))))))))))
           obtain rfl := oi h
           refine b6 ((Sub.move (env' := [(0, .c (.yld 13)), (1, .c (.ptr 11 0 0)), (2, .c (.ptr 12 0 0)), (7, .c (int (t.operators.length : Int))), (8, .c (int (t30 + 1)))]) (σ' := [.one (.cells 4 [(tT t)]), .one (.cells 1 [[row 1 intI observed]]), .dead, .one (vec 1 intI c16), .dead, .one (.cells 1 [[.own 14 0 ab130.length]]), .one (.cells 1 [[.ptr 5 0 0]]), .one (mapB Value.string vI (mset c6 a43 1)), .one (.cells 1 [[int (w64 (c28 + 1))]]), .dead, .one (.cells 4 [[row 1 intI a35.2.fs, int a35.2.seen, int a35.2.cost, int a35.2.sequence]]), .one (.cells 4 [(tT t)]), .one (.cells 1 [[row 1 intI a35.2.fs]]), .one (l4 133 [85, 86] as25 bo25 .ready none [(3, none), (5, none), (8, none), (10, none), (11, none)] [.ptr 0 0 0, .ptr 1 0 0, .ptr 6 0 0, .ptr 8 0 0, .ptr 10 0 0]), .one (vec 4 b9 ab130), .dead, .one (.cells 4 [[row 1 intI ai21, int (w64 (a35.2.seen + 1)), int (w64 (a35.2.cost + ab95.cost)), int c28]]), .dead, .dead, .dead]) 14 20 Z Z Z ⟨Z, Z, Z, Z, Z, Y⟩ Z ⟨⟨Z, Z⟩, ⟨Z, Z⟩, trivial, ⟨Blk.im_ok _ _ _, i8 Z⟩, trivial, ⟨Z, Z⟩, ⟨Z, Z⟩, ⟨Z, Z⟩, ⟨Z, Z⟩, trivial, ⟨Z, Z⟩, ⟨Z, Z⟩, ⟨Z, Z⟩, ⟨Z, Z⟩, ⟨Blk.im_ok _ _ _, i8 Z⟩, trivial, ⟨Z, Z⟩, trivial, trivial, trivial, Y⟩).trans (Sub.cut ⟨Z, Z, Z, Z, Z, Y⟩ Z ⟨.one Z, .one Z, .dead, .vec, .dead, .one Z, .one Z, .one Z, .one Z, .dead, .one Z, .one Z, .one Z, .one Z, .vec, Y⟩ Z))
          ·refine AWP.skip (e6 (T7 Z Z (.z Z Z Z hb31 (.ac Z Z (.U Z hb31 Z Z (.nil (b6 (.condF Z (.skip (e6 (b6 (.u (.add Z Z Z (by omega) (.j Z Z (.nil ?_)))))))))))))))
           obtain rfl := oi h
           refine b6 ((Sub.move (env' := [(0, .c (.yld 13)), (1, .c (.ptr 11 0 0)), (2, .c (.ptr 12 0 0)), (7, .c (int (t.operators.length : Int))), (8, .c (int (t30 + 1)))]) (σ' := [.one (.cells 4 [(tT t)]), .one (.cells 1 [[row 1 intI observed]]), .dead, .one (vec 1 intI c16), .dead, .one (.cells 1 [[.own 14 0 ab107.length]]), .one (.cells 1 [[.ptr 5 0 0]]), .one (mapB Value.string vI (mset c6 a43 1)), .one (.cells 1 [[int (w64 (c28 + 1))]]), .dead, .one (.cells 4 [[row 1 intI a35.2.fs, int a35.2.seen, int a35.2.cost, int a35.2.sequence]]), .one (.cells 4 [(tT t)]), .one (.cells 1 [[row 1 intI a35.2.fs]]), .one (l4 133 [85, 86] as25 bo25 .ready none [(3, none), (5, none), (8, none), (10, none), (11, none)] [.ptr 0 0 0, .ptr 1 0 0, .ptr 6 0 0, .ptr 8 0 0, .ptr 10 0 0]), .one (vec 4 b9 ab107), .dead, .one (.cells 4 [[row 1 intI ai21, int a35.2.seen, int (w64 (a35.2.cost + ab95.cost)), int c28]]), .dead]) 14 18 Z Z Z ⟨Z, Z, Z, Z, Z, Y⟩ Z ⟨⟨Z, Z⟩, ⟨Z, Z⟩, trivial, ⟨Blk.im_ok _ _ _, i8 Z⟩, trivial, ⟨Z, Z⟩, ⟨Z, Z⟩, ⟨Z, Z⟩, ⟨Z, Z⟩, trivial, ⟨Z, Z⟩, ⟨Z, Z⟩, ⟨Z, Z⟩, ⟨Z, Z⟩, ⟨Blk.im_ok _ _ _, i8 Z⟩, trivial, ⟨Z, Z⟩, trivial, Y⟩).trans (Sub.cut ⟨Z, Z, Z, Z, Z, Y⟩ Z ⟨.one Z, .one Z, .dead, .vec, .dead, .one Z, .one Z, .one Z, .one Z, .dead, .one Z, .one Z, .one Z, .one Z, .vec, Y⟩ Z))
        ·replace h := F0 hb31 h
         refine AWP.u (W.loadAgg Z Z Z Z Z Z Z (.E Z Z Z Z Z Z (.j Z Z (.J Z Z Z Z (ah0 hai14) Z (.j Z Z (.B Z Z Z hb31 (.B Z Z Z hb31 (.B Z Z Z hb31 (.B Z Z Z hb31 (.B Z Z Z hb31 (.B Z Z Z hb31 (.B Z Z Z hb31 (.B Z Z Z hb31 (.aa Z hb31 Z Z (.nil (b6 (.condF Z (.skip (e6 (b6 (.u (.add Z Z Z (by omega) (.j Z Z (.nil ?_))))))))))))))))))))))))
         obtain rfl := oi h
         refine b6 (Sub.env ⟨Z, Z, Z, Z, Z, Y⟩)
       ·intro e s hq
        obtain ⟨rfl, hs⟩ := hq
        refine ⟨_, hs, ?_⟩
        refine h9 ?_
        obtain rfl := oi hr25
        exact ⟨⟨[], [.one (.cells 4 [(tT t)]), .one (.cells 1 [[row 1 intI observed]]), .dead, .one (vec 1 intI c16), .dead, .one (.cells 1 [[.own 14 0 c29.length]]), .one (.cells 1 [[.ptr 5 0 0]]), .one (mapB Value.string vI (mset c6 a43 1)), .one (.cells 1 [[int c28]]), .dead, .one (.cells 4 [[row 1 intI a35.2.fs, int a35.2.seen, int a35.2.cost, int a35.2.sequence]]), .one (.cells 4 [(tT t)]), .one (.cells 1 [[row 1 intI a35.2.fs]]), .one (l4 133 [85, 86] as25 bo25 .ready none [(3, none), (5, none), (8, none), (10, none), (11, none)] [.ptr 0 0 0, .ptr 1 0 0, .ptr 6 0 0, .ptr 8 0 0, .ptr 10 0 0]), .one (vec 4 b9 c29)]⟩, Sub.env trivial, Done.normal Z ⟨Z, Z⟩⟩
      ·rintro tt ss ⟨rfl, rfl⟩
       obtain ⟨c26, c27⟩ := xr25
       try dsimp only at hx14 ⊢
       refine aj1 Z Z (e6 (e6 ?_))
       have ej := Option.some.inj hx14
       simp only [Prod.mk.injEq] at ej
       obtain ⟨ej0, ej1, ej2, ej3⟩ := ej
       subst ej0
       subst ej1
       subst ej2
       subst ej3
       refine b6 ((Sub.move (env' := [(1, .c (row 1 f5 goals)), (3, .c (.ptr 0 0 0)), (5, .c (.ptr 1 0 0)), (7, .c (.own 3 0 c16.length)), (8, .c (.ptr 6 0 0)), (9, .c (.map 7)), (10, .c (.ptr 8 0 0))]) (σ' := [.one (.cells 4 [(tT t)]), .one (.cells 1 [[row 1 intI observed]]), .dead, .one (vec 1 intI c16), .dead, .one (.cells 1 [[.own 9 0 c27.length]]), .one (.cells 1 [[.ptr 5 0 0]]), .one (mapB Value.string vI (mset c6 a43 1)), .one (.cells 1 [[int c26]]), .one (vec 4 b9 c27), .one (.cells 4 [[row 1 intI a35.2.fs, int a35.2.seen, int a35.2.cost, int a35.2.sequence]]), .one (.cells 4 [(tT t)]), .one (.cells 1 [[row 1 intI a35.2.fs]]), .dead]) 9 14 Z Z Z ⟨Z, Z, Z, Z, Z, Z, Z, Y⟩ Z ⟨⟨Z, Z⟩, ⟨Z, Z⟩, trivial, ⟨Blk.im_ok _ _ _, i8 Z⟩, trivial, ⟨Z, Z⟩, ⟨Z, Z⟩, ⟨Z, Z⟩, ⟨Z, Z⟩, ⟨Blk.im_ok _ _ _, i8 Z⟩, ⟨Z, Z⟩, ⟨Z, Z⟩, ⟨Z, Z⟩, trivial, Y⟩).trans (Sub.cut ⟨Z, Z, Z, Z, Z, Z, Z, Y⟩ Z ⟨.one Z, .one Z, .dead, .vec, .dead, .one Z, .one Z, .one Z, .one Z, .vec, Y⟩ Z))
   ·try dsimp only at h
    refine AWP.q (.u (.E Z Z Z Z Z Z (.nil (b6 (.u (W.alloc Z Z Z Z (W.store Z Z Z Z Z (.nil ?_))))))))
    obtain rfl := oi h
    refine b6 ⟨_, Z, ?_⟩
    exact (Sub.move (env' := [(1, .c (row 1 f5 goals)), (3, .c (.ptr 0 0 0)), (5, .c (.ptr 1 0 0)), (7, .c (.own 3 0 c10.length)), (8, .c (.ptr 6 0 0)), (9, .c (.map 7)), (10, .c (.ptr 8 0 0))]) (σ' := [.one (.cells 4 [(tT t)]), .one (.cells 1 [[row 1 intI observed]]), .dead, .one (vec 1 intI c10), .dead, .one (.cells 1 [[.own 9 0 c13.length]]), .one (.cells 1 [[.ptr 5 0 0]]), .one (mapB Value.string vI c11), .one (.cells 1 [[int c12]]), .one (vec 4 b9 c13)]) 8 10 Z Z Z ⟨Z, Z, Z, Z, Z, Z, Z, Y⟩ Z ⟨⟨Z, Z⟩, ⟨Z, Z⟩, trivial, ⟨Blk.im_ok _ _ _, i8 Z⟩, trivial, ⟨Z, Z⟩, ⟨Z, Z⟩, ⟨Z, Z⟩, ⟨Z, Z⟩, ⟨Blk.im_ok _ _ _, i8 Z⟩, Y⟩).trans ((Sub.move (env' := [(1, .c (row 1 f5 goals)), (3, .c (.ptr 0 0 0)), (5, .c (.ptr 1 0 0)), (7, .c (.own 3 0 c10.length)), (8, .c (.ptr 6 0 0)), (9, .c (.map 7)), (10, .c (.ptr 8 0 0))]) (σ' := [.one (.cells 4 [(tT t)]), .one (.cells 1 [[row 1 intI observed]]), .dead, .one (vec 1 intI c10), .one (vec 4 b9 c13), .one (.cells 1 [[.own 4 0 c13.length]]), .one (.cells 1 [[.ptr 5 0 0]]), .one (mapB Value.string vI c11), .one (.cells 1 [[int c12]])]) 4 9 Z Z Z ⟨Z, Z, Z, Z, Z, Z, Z, Y⟩ Z ⟨⟨Z, Z⟩, ⟨Z, Z⟩, trivial, ⟨Blk.im_ok _ _ _, i8 Z⟩, ⟨Blk.im_ok _ _ _, i8 Z⟩, ⟨Z, Z⟩, ⟨Z, Z⟩, ⟨Z, Z⟩, ⟨Z, Z⟩, Y⟩).trans (Sub.env ⟨Z, Z, Z, Z, Z, Z, Z, Y⟩))
  ·refine AWP.exit (e8 ?_)
   obtain rfl := oi h
   refine e8 ⟨_, Z, Z, ?_⟩
   exact Sub.cut ⟨Z, Y⟩ Z ⟨.dead, .dead, .dead, .vec, Y⟩ Z
 ·intro e s hq
  obtain ⟨rfl, hs⟩ := hq
  refine ⟨_, hs, ?_⟩
  refine h9 (b6 (.q (.u (.j Z Z (.v Z Z (.nil (b6 (.ret ?_))))))))
  obtain rfl := oi h
  exact Done.ret Z (Fresh.mk Z Z)
theorem P4 {t : f7} {goals : List (List Int)} {observed : List Int} {r : (List (Int × Int)) × TFault} (h : s4 t goals observed = some r) : f9 prog 8 [.agg (tT t), .c (row 1 f5 goals), .c (row 1 intI observed)] (.tup [.c (row 2 j8 r.1), .agg [int r.2.code, int r.2.index]]) := by
 unfold f9
 refine FnOk.enter (rs := [.t 6, .cell 7 29 2]) func8 Z ntmps8 results8 Z ⟨trivial, rv _ Z, Y⟩ (by kernel_rfl) Z ?_
 unfold s4 at h
 refine AWP.q (.u (W.box Z Z Z Z Z Z (.v Z Z (W.alloc Z Z Z Z (.nil (b6 (.q (.q ?_))))))))
 obtain ⟨a16, ha16, h⟩ := bind_some h
 refine AWP.u (W.loadAgg Z Z Z Z Z Z Z (.j Z Z (.j Z Z (.J Z Z Z Z (ai2 ha16) Z (W.alloc Z Z Z Z (W.storeAgg Z Z Z Z Z Z Z (.nil (b6 (.q (.u (W.loadAgg Z Z Z Z Z Z Z (W.build Z Z Z Z (.neqP Z Z Z Z Z Z Z (.nil (b6 (.ah Z h (fun hc4 h => ?_) (fun hc4 h => ?_)))))))))))))))))
 ·refine AWP.q (.drawEI [2] mixed Z Z Z ?_)
  refine f8.consN Z Z (fun E => W.loadAgg Z Z Z Z Z Z Z .N) Z (.consN Z Z (fun E => AOps.v Z Z .N) Z ?_)
  apply f8.consE (v := .undef); exact Z; exact Z; intro E
  refine W.storeAgg Z Z Z Z Z Z Z .N
  exact Z
  exact Z
  refine f8.done Z ?_ ?_
  ·refine e7.cons Z Z ?_ ?_
   refine b8.go Z Z (fun E => W.loadAgg Z Z Z Z Z Z Z .N) ?_
   refine b8.skip Z (b8.nil)
   refine e7.cons Z Z ?_ ?_
   refine b8.go Z Z (fun E => AOps.v Z Z .N) ?_
   refine b8.skip Z (b8.nil)
   refine e7.skip Z (e7.nil)
  dsimp only [k6]
  refine b6 (.nilrow 2 6 Z (.ret (e9 ?_)))
  obtain rfl := oi h
  exact Done.ret Z Z
 ·refine AWP.skip (b6 (.q ?_))
  obtain ⟨a24, ha24, a27, ha27, h⟩ := b2 h
  refine AWP.drawEI [3, 6] mixed Z Z Z ?_
  refine f8.consN Z Z (fun E => W.loadAgg Z Z Z Z Z Z Z .N) Z (.consN Z Z (fun E => AOps.j Z Z .N) Z (.consN Z Z (fun E => AOps.j Z Z .N) Z ?_))
  apply f8.consE; exact Z; exact Z; intro E
  refine S.fresh Z Z Z Z (X9 ha24) Z Z .N
  exact Z
  exact Z
  refine f8.consN Z Z (fun E => W.loadAgg Z Z Z Z Z Z Z .N) Z (.consN Z Z (fun E => AOps.j Z Z .N) Z ?_)
  apply f8.consE; exact Z; exact Z; intro E
  refine S.fresh Z Z Z Z (m7.nil (by exact ⟨⟨(.inl Z), (.inl Z), (.inl Z), (.inl Z), Y⟩, (.inl Z), (.inr ⟨Z, _, Z⟩), Y⟩) (X9 ha27)) Z Z .N
  exact Z
  exact Z
  refine f8.consN Z Z (fun E => AOps.v Z Z .N) Z (.consN Z Z (fun E => AOps.v Z Z .N) Z ?_)
  refine f8.done Z ?_ ?_
  ·refine e7.cons Z Z ?_ ?_
   refine b8.go Z Z (fun E => W.loadAgg Z Z Z Z Z Z Z .N) ?_
   refine b8.skip Z (b8.skip Z (b8.nil))
   refine e7.cons Z Z ?_ ?_
   refine b8.go Z Z (fun E => AOps.j Z Z .N) ?_
   refine b8.skip Z (b8.skip Z (b8.nil))
   refine e7.cons Z Z ?_ ?_
   refine b8.go Z Z (fun E => AOps.j Z Z .N) ?_
   refine b8.skip Z (b8.skip Z (b8.nil))
   refine e7.skip Z ?_
   refine e7.cons Z Z ?_ ?_
   refine b8.go Z Z (fun E => W.loadAgg Z Z Z Z Z Z Z .N) ?_
   refine b8.go Z Z (fun E => W.loadAgg Z Z Z Z Z Z Z .N) ?_
   refine b8.skip Z (b8.nil)
   refine e7.cons Z Z ?_ ?_
   refine b8.go Z Z (fun E => AOps.j Z Z .N) ?_
   refine b8.go Z Z (fun E => AOps.j Z Z .N) ?_
   refine b8.skip Z (b8.nil)
   refine e7.skip Z ?_
   refine e7.cons Z Z ?_ ?_
   refine b8.skip Z (b8.skip Z ?_)
   refine b8.go Z Z (fun E => AOps.v Z Z .N) ?_
   exact b8.nil
   refine e7.cons Z Z ?_ ?_
   refine b8.skip Z (b8.skip Z ?_)
   refine b8.go Z Z (fun E => AOps.v Z Z .N) ?_
   exact b8.nil
   exact e7.nil
  dsimp only [k6]
  refine b6 (.q (.u (.v Z Z (.nil (b6 (.q (.q (.u (.j Z Z (S.len Z Z (fun hl29 => .j Z Z (.nil (b6 (.O (.virtV 2 j8 11 Z Z Z ?_)))))))))))))))
  obtain ⟨c5, ho1, h⟩ := bind_some h
  refine AWP.forS ho1 (fun t6 c5 => ⟨[(7, .c (.ptr 1 0 0)), (9, .c (.own 3 0 a24.length)), (10, .c (.own 4 0 a27.length)), (11, .c (.own 5 0 c5.length)), (29, .c (int (goals.length : Int))), (30, .c (int t6))], [.dead, .one (.cells 2 [[int 0, int 0]]), .dead, .one (vec 1 intI a24), .one (vec 1 intI a27), .one (vec 2 j8 c5)]⟩) (fun c5 e st => e = .exit 0 ∧ Sub [] st ⟨[(7, .c (.ptr 1 0 0)), (11, .c (.own 5 0 c5.length))], [.dead, .one (.cells 2 [[int 0, int 0]]), .dead, .one (vec 1 intI a24), .one (vec 1 intI a27), .one (vec 2 j8 c5)]⟩) ?_ ?_ ?_ ?_
  ·try dsimp only
   exact Sub.cut ⟨Z, Z, Z, (E0 (by first | rfl | simp only [List.length_set])), Z, Z, Y⟩ Z ⟨.dead, .one Z, .dead, .vec, .vec, .vec, Y⟩ Z
  ·intro t6 c5 hlot6 hltt6 _
   try dsimp only
   refine AWP.q (.u (.F Z Z Z (.nil (b6 (.q (.ae Z hltt6 (.exit (e8 (e8 ⟨Z, ?_⟩)))))))))
   exact Sub.env ⟨Z, Z, Y⟩
  ·intro t6 c5 o hlot6 hltt6 h
   unfold J2 at h
   try dsimp only at h ⊢
   refine AWP.q (.u (.F Z Z Z (.nil (b6 (.q (.af Z hltt6 (.skip (b6 (.q (.O (.q (.u (.j Z Z (.v Z Z (.nil (b6 ?_))))))))))))))))
   obtain ⟨a36, ha36, a40, ha40, a44, ha44, h⟩ := b3 h
   refine AWP.drawEI [10, 11] mixed Z Z Z ?_
   refine f8.consN Z Z (fun E => AOps.j Z Z .N) Z (.consN Z Z (fun E => AOps.j Z Z .N) Z (.consN Z Z (fun E => AOps.j Z Z .N) Z (.consN Z Z (fun E => S.idxO ha36 Z Z Z Z Z .N) Z (.consN Z Z (fun E => S.loadO ha36 Z Z Z Z Z .N) Z (.consN Z Z (fun E => AOps.j Z Z .N) Z (.consN Z Z (fun E => AOps.j Z Z .N) Z (.consN Z Z (fun E => S.idxO ha40 Z Z Z Z Z .N) Z (.consN Z Z (fun E => S.loadO ha40 Z Z Z Z Z .N) Z (.consN Z Z (fun E => AOps.buildA Z Z Z Z .N) Z ?_)))))))))
   apply f8.consE; exact Z; exact Z; intro E
   refine S.lit (f := j8) (l := [(a36, a40)]) (ess := [[int a36, int a40]]) Z Z Z Z Z Z Z ⟨⟨.inl Z, .inl Z, Y⟩, Y⟩ Z Z Z .N
   exact Z
   exact Z
   apply f8.consE; exact Z; exact Z; intro E
   refine S.append (f := j8) ha44 Z Z Z Z Z Z (.own Z Z) Z Z Z Z .N
   exact Z
   exact Z
   refine f8.consN Z Z (fun E => AOps.v Z Z .N) Z ?_
   refine f8.done Z ?_ ?_
   ·refine e7.cons Z Z ?_ ?_
    refine b8.go Z Z (fun E => AOps.j Z Z .N) ?_
    refine b8.go Z Z (fun E => AOps.j Z Z .N) ?_
    refine b8.skip Z (b8.nil)
    refine e7.cons Z Z ?_ ?_
    refine b8.go Z Z (fun E => AOps.j Z Z .N) ?_
    refine b8.skip Z (b8.skip Z (b8.nil))
    refine e7.cons Z Z ?_ ?_
    refine b8.go Z Z (fun E => AOps.j Z Z .N) ?_
    refine b8.skip Z (b8.skip Z (b8.nil))
    refine e7.cons Z Z ?_ ?_
    refine b8.go Z Z (fun E => S.idxO ha36 Z Z Z Z Z .N) ?_
    refine b8.skip Z (b8.skip Z (b8.nil))
    refine e7.cons Z Z ?_ ?_
    refine b8.go Z Z (fun E => S.loadO ha36 Z Z Z Z Z .N) ?_
    refine b8.skip Z (b8.skip Z (b8.nil))
    refine e7.cons Z Z ?_ ?_
    refine b8.go Z Z (fun E => AOps.j Z Z .N) ?_
    refine b8.skip Z (b8.skip Z (b8.nil))
    refine e7.cons Z Z ?_ ?_
    refine b8.go Z Z (fun E => AOps.j Z Z .N) ?_
    refine b8.skip Z (b8.skip Z (b8.nil))
    refine e7.cons Z Z ?_ ?_
    refine b8.go Z Z (fun E => S.idxO ha40 Z Z Z Z Z .N) ?_
    refine b8.skip Z (b8.skip Z (b8.nil))
    refine e7.cons Z Z ?_ ?_
    refine b8.go Z Z (fun E => S.loadO ha40 Z Z Z Z Z .N) ?_
    refine b8.skip Z (b8.skip Z (b8.nil))
    refine e7.cons Z Z ?_ ?_
    refine b8.go Z Z (fun E => AOps.buildA Z Z Z Z .N) ?_
    refine b8.skip Z (b8.skip Z (b8.nil))
    refine e7.skip Z (e7.skip Z ?_)
    refine e7.cons Z Z ?_ ?_
    refine b8.skip Z (b8.skip Z ?_)
    refine b8.go Z Z (fun E => AOps.v Z Z .N) ?_
    exact b8.nil
    exact e7.nil
   dsimp only [k6]
   refine e6 (b6 (.j (env' := [(7, .c (.ptr 1 0 0)), (9, .c (.own 3 0 a24.length)), (10, .c (.own 4 0 a27.length)), (11, .c (.own 5 0 a44.length)), (29, .c (int (goals.length : Int))), (30, .c (int t6))]) (σ' := [.dead, .one (.cells 2 [[int 0, int 0]]), .dead, .one (vec 1 intI a24), .one (vec 1 intI a27), .one (vec 2 j8 a44), .one (vec 2 j8 [(a36, a40)])]) 5 7 Z Z Z ⟨Z, Z, Z, Z, Z, Z, Y⟩ Z ⟨trivial, ⟨Z, Z⟩, trivial, ⟨Blk.im_ok _ _ _, i8 Z⟩, ⟨Blk.im_ok _ _ _, i8 Z⟩, ⟨Blk.im_ok _ _ _, i8 Z⟩, ⟨Blk.im_ok _ _ _, i8 Z⟩, Y⟩ (.u (.add Z Z Z (by omega) (.j Z Z (.nil ?_))))))
   obtain rfl := oi h
   refine b6 (Sub.cut ⟨Z, Z, Z, Z, Z, Z, Y⟩ Z ⟨.dead, .one Z, .dead, .vec, .vec, .vec, Y⟩ Z)
  ·intro e s hq
   obtain ⟨rfl, hs⟩ := hq
   refine ⟨_, hs, ?_⟩
   refine h9 (b6 (.q (.u (.j Z Z (W.build Z Z Z Z (.v Z Z (W.storeAgg Z Z Z Z Z Z Z (.nil (b6 (.frzV (id := 5) (l := c5) (env2 := [(6, .c (row 2 j8 c5)), (7, .c (.ptr 1 0 0))]) (σ2 := [.dead, .one (.cells 2 [[int 0, int 0]]), .dead, .one (vec 1 intI a24), .one (vec 1 intI a27), .dead]) Z Z (by exact ⟨⟨_, Z, .inr ⟨_, Z, Z, Z⟩⟩, ⟨_, Z, .inl ⟨Z, Z⟩⟩, Y⟩) Z (by exact ⟨trivial, ⟨Z, .inl ⟨Z, Z⟩, .inl ⟨Z, Z⟩, Y⟩, trivial, FrzB.vec, FrzB.vec, trivial, Y⟩) (.ret ?_)))))))))))
   obtain rfl := oi h
   exact Done.ret Z Z
theorem Y8 {t : f7} {goals : List (List Int)} {observed : List Int} {r : (List Int) × TFault} (h : q7 t goals observed = some r) : f9 prog 9 [.agg (tT t), .c (row 1 f5 goals), .c (row 1 intI observed)] (.tup [.c (row 1 intI r.1), .agg [int r.2.code, int r.2.index]]) := by
 unfold f9
 refine FnOk.enter (rs := [.t 6, .cell 7 29 2]) func9 Z ntmps9 results9 Z ⟨trivial, rv _ Z, Y⟩ (by kernel_rfl) Z ?_
 unfold q7 at h
 refine AWP.q (.u (W.box Z Z Z Z Z Z (.v Z Z (W.alloc Z Z Z Z (.nil (b6 (.q ?_)))))))
 obtain ⟨a20, ha20, h⟩ := bind_some h
 refine AWP.u (W.loadAgg Z Z Z Z Z Z Z (.j Z Z (.j Z Z (.J Z Z Z Z (P4 ha20) Z (.j Z Z (.ai Z Z Z (.ai Z Z Z (W.alloc Z Z Z Z (.v Z Z (W.storeAgg Z Z Z Z Z Z Z (.nil (b6 (.q (.q (.u (W.loadAgg Z Z Z Z Z Z Z (W.build Z Z Z Z (.neqP Z Z Z Z Z Z Z (.nil (b6 (.ah Z h (fun hc4 h => ?_) (fun hc4 h => ?_))))))))))))))))))))))
 ·refine AWP.q (.drawEI [2] mixed Z Z Z ?_)
  refine f8.consN Z Z (fun E => W.loadAgg Z Z Z Z Z Z Z .N) Z (.consN Z Z (fun E => AOps.v Z Z .N) Z ?_)
  apply f8.consE (v := .undef); exact Z; exact Z; intro E
  refine W.storeAgg Z Z Z Z Z Z Z .N
  exact Z
  exact Z
  refine f8.done Z ?_ ?_
  ·refine e7.cons Z Z ?_ ?_
   refine b8.go Z Z (fun E => W.loadAgg Z Z Z Z Z Z Z .N) ?_
   refine b8.skip Z (b8.nil)
   refine e7.cons Z Z ?_ ?_
   refine b8.go Z Z (fun E => AOps.v Z Z .N) ?_
   refine b8.skip Z (b8.nil)
   refine e7.skip Z (e7.nil)
  dsimp only [k6]
  refine b6 (.nilrow 1 6 Z (.ret (e9 ?_)))
  obtain rfl := oi h
  exact Done.ret Z Z
 ·refine AWP.skip (b6 (.q (.u (.v Z Z (.nil (b6 (.q (.q (.u (.j Z Z (S.len Z Z (fun hl28 => .j Z Z (.nil (b6 (.O ?_)))))))))))))))
  obtain ⟨least5, ho1, h⟩ := bind_some h
  refine AWP.forS ho1 (fun t6 least5 => ⟨[(7, .c (.ptr 1 0 0)), (8, .c (row 2 j8 a20.1)), (10, .c (int least5)), (27, .c (row 2 j8 a20.1)), (28, .c (int (a20.1.length : Int))), (29, .c (int t6))], [.dead, .one (.cells 2 [[int 0, int 0]])]⟩) (fun least5 e st => e = .exit 0 ∧ Sub [] st ⟨[(7, .c (.ptr 1 0 0)), (8, .c (row 2 j8 a20.1)), (10, .c (int least5))], [.dead, .one (.cells 2 [[int 0, int 0]])]⟩) ?_ ?_ ?_ ?_
  ·try dsimp only
   exact Sub.cut ⟨Z, Z, Z, Z, Z, Z, Y⟩ Z ⟨.dead, .one Z, Y⟩ Z
  ·intro t6 least5 hlot6 hltt6 _
   try dsimp only
   refine AWP.q (.u (.F Z Z Z (.nil (b6 (.q (.ae Z hltt6 (.exit (e8 (e8 ⟨Z, ?_⟩)))))))))
   exact Sub.env ⟨Z, Z, Z, Y⟩
  ·intro t6 least5 o hlot6 hltt6 h
   unfold J6 at h
   try dsimp only at h ⊢
   refine AWP.q (.u (.F Z Z Z (.nil (b6 (.q (.af Z hltt6 (.skip (b6 ?_))))))))
   obtain ⟨least7, hx8, h⟩ := bind_some h
   refine AWP.seqJ (⟨[(7, .c (.ptr 1 0 0)), (8, .c (row 2 j8 a20.1)), (10, .c (int least7)), (27, .c (row 2 j8 a20.1)), (28, .c (int (a20.1.length : Int))), (29, .c (int t6))], [.dead, .one (.cells 2 [[int 0, int 0]])]⟩) ?_ ?_
   ·refine AWP.O (.q ?_)
    obtain ⟨a31, ha31, hx8⟩ := bind_some hx8
    refine AWP.u (S.idx ha31 Z Z Z Z (W.loadIAgg Z Z Z Z Z (W.alloc Z Z Z Z (W.storeAgg Z Z Z Z Z Z Z (.nil (b6 (.q (.u (W.idxArr Z Z Z Z (Nat.le_of_ble_eq_true Z) Z (.E Z Z Z Z Z Z (.F Z Z Z (.nil (b6 (.ite Z hx8 (fun hc9 hx8 => ?_) (fun hc9 hx8 => ?_)))))))))))))))
    ·refine AWP.u (.j Z Z (W.idxArr Z Z Z Z (Nat.le_of_ble_eq_true Z) Z (.E Z Z Z Z Z Z (W.idxArr Z Z Z Z (Nat.le_of_ble_eq_true Z) Z (.E Z Z Z Z Z Z (S.sub Z Z Z (.min2 Z Z Z (.v Z Z (.nil (e6 ?_))))))))))
     obtain rfl := oi hx8
     refine b6 (Sub.cut ⟨Z, Z, Z, Z, Z, Z, Y⟩ Z ⟨.dead, .one Z, Y⟩ Z)
    ·refine AWP.skip (e6 ?_)
     obtain rfl := oi hx8
     refine b6 (Sub.cut ⟨Z, Z, Z, Z, Z, Z, Y⟩ Z ⟨.dead, .one Z, Y⟩ Z)
   ·refine AWP.u (.add Z Z Z (by omega) (.j Z Z (.nil ?_)))
    obtain rfl := oi h
    refine b6 (Sub.env ⟨Z, Z, Z, Z, Z, Z, Y⟩)
  ·intro e s hq
   obtain ⟨rfl, hs⟩ := hq
   refine ⟨_, hs, ?_⟩
   refine h9 (b6 (.q (.u (.v Z Z (.nil (b6 (.q (.q (.u (.j Z Z (S.len Z Z (fun hl45 => .j Z Z (.nil (b6 (.O (.virtV 1 intI 13 Z Z Z ?_))))))))))))))))
   obtain ⟨c10, ho2, h⟩ := bind_some h
   refine AWP.forS ho2 (fun t11 c10 => ⟨[(7, .c (.ptr 1 0 0)), (10, .c (int least5)), (13, .c (.own 2 0 c10.length)), (44, .c (row 2 j8 a20.1)), (45, .c (int (a20.1.length : Int))), (46, .c (int t11))], [.dead, .one (.cells 2 [[int 0, int 0]]), .one (vec 1 intI c10)]⟩) (fun c10 e st => e = .exit 2 ∧ Sub [] st ⟨[(7, .c (.ptr 1 0 0)), (13, .c (.own 2 0 c10.length))], [.dead, .one (.cells 2 [[int 0, int 0]]), .one (vec 1 intI c10)]⟩) ?_ ?_ ?_ ?_
   ·try dsimp only
    exact Sub.env ⟨Z, Z, (E0 (by first | rfl | simp only [List.length_set])), Z, Z, Z, Y⟩
   ·intro t11 c10 hlot11 hltt11 _
    try dsimp only
    refine AWP.q (.u (.F Z Z Z (.nil (b6 (.q (.ae Z hltt11 (.exit (e8 (e8 ⟨Z, ?_⟩)))))))))
    exact Sub.env ⟨Z, Z, Y⟩
   ·intro t11 c10 o hlot11 hltt11 h
    unfold J5 at h
    try dsimp only at h ⊢
    refine AWP.q (.u (.F Z Z Z (.nil (b6 (.q (.af Z hltt11 (.skip (b6 ?_))))))))
    obtain ⟨c12, hx13, h⟩ := bind_some h
    refine AWP.seqJ (⟨[(7, .c (.ptr 1 0 0)), (10, .c (int least5)), (13, .c (.own 5 0 c12.length)), (44, .c (row 2 j8 a20.1)), (45, .c (int (a20.1.length : Int))), (46, .c (int t11))], [.dead, .one (.cells 2 [[int 0, int 0]]), .dead, .dead, .dead, .one (vec 1 intI c12)]⟩) ?_ ?_
    ·refine AWP.O (.q ?_)
     obtain ⟨a49, ha49, hx13⟩ := bind_some hx13
     refine AWP.u (.j Z Z (S.idx ha49 Z Z Z Z (W.loadIAgg Z Z Z Z Z (W.alloc Z Z Z Z (.v Z Z (W.storeAgg Z Z Z Z Z Z Z (.nil (b6 (.seqJ (⟨[(7, .c (.ptr 1 0 0)), (10, .c (int least5)), (13, .c (.own 2 0 c10.length)), (14, .c (int t11)), (44, .c (row 2 j8 a20.1)), (45, .c (int (a20.1.length : Int))), (46, .c (int t11)), (62, .c (bool ((decide (a49.1 < 1000000000)) && (decide (w64 (a49.1 - a49.2) = least5)))))], [.dead, .one (.cells 2 [[int 0, int 0]]), .one (vec 1 intI c10), .one (.cells 2 [[int a49.1, int a49.2]])]⟩) ?_ ?_)))))))))
     ·rcases bft (decide (a49.1 < 1000000000)) with hb1 | hb1
      ·refine AWP.u (W.idxArr Z Z Z Z (Nat.le_of_ble_eq_true Z) Z (.E Z Z Z Z Z Z (.F Z Z Z (.j Z Z (.z Z Z Z hb1 (W.idxArr Z Z Z Z (Nat.le_of_ble_eq_true Z) Z (.z Z Z Z hb1 (.E Z Z Z Z Z Z (.z Z Z Z hb1 (W.idxArr Z Z Z Z (Nat.le_of_ble_eq_true Z) Z (.z Z Z Z hb1 (.E Z Z Z Z Z Z (.z Z Z Z hb1 (S.sub Z Z Z (.z Z Z Z hb1 (.j Z Z (.z Z Z Z hb1 (.ab Z Z Z (.U Z hb1 Z Z (.nil (b6 ?_)))))))))))))))))))))
       simp only [and_t hb1, or_t hb1, Bool.false_or, Bool.true_or, Bool.false_and, Bool.true_and]
       exact Sub.env ⟨Z, Z, Z, Z, Z, Z, Z, Z, Y⟩
      ·refine AWP.u (W.idxArr Z Z Z Z (Nat.le_of_ble_eq_true Z) Z (.E Z Z Z Z Z Z (.F Z Z Z (.j Z Z (.B Z Z Z hb1 (.B Z Z Z hb1 (.B Z Z Z hb1 (.B Z Z Z hb1 (.B Z Z Z hb1 (.B Z Z Z hb1 (.B Z Z Z hb1 (.aa Z hb1 Z Z (.nil (b6 ?_))))))))))))))
       simp only [and_f hb1, or_f hb1, Bool.false_or, Bool.true_or, Bool.false_and, Bool.true_and]
       exact Sub.env ⟨Z, Z, Z, Z, Z, Z, Z, Z, Y⟩
     ·refine AWP.ah Z hx13 (fun hc14 hx13 => ?_) (fun hc14 hx13 => ?_)
      ·obtain ⟨a66, ha66, hx13⟩ := bind_some hx13
       refine AWP.u (.j Z Z (.j Z Z (S.lit (f := intI) (l := [t11]) (ess := [[int t11]]) Z Z Z Z Z Z Z ⟨⟨.inl Z, Y⟩, Y⟩ Z Z Z (S.append (f := intI) ha66 Z Z Z Z Z Z (.own Z Z) Z Z Z Z (.v Z Z (.nil (e6 ?_)))))))
       obtain rfl := oi hx13
       refine b6 (Sub.cut ⟨Z, Z, Z, Z, Z, Z, Y⟩ Z ⟨.dead, .one Z, .dead, .dead, .dead, .vec, Y⟩ Z)
      ·refine AWP.skip (e6 ?_)
       obtain rfl := oi hx13
       refine b6 ((Sub.move (env' := [(7, .c (.ptr 1 0 0)), (10, .c (int least5)), (13, .c (.own 5 0 c10.length)), (44, .c (row 2 j8 a20.1)), (45, .c (int (a20.1.length : Int))), (46, .c (int t11))]) (σ' := [.dead, .one (.cells 2 [[int 0, int 0]]), .dead, .one (.cells 2 [[int a49.1, int a49.2]]), .dead, .one (vec 1 intI c10)]) 5 2 Z Z Z ⟨Z, Z, Z, Z, Z, Z, Y⟩ Z ⟨trivial, ⟨Z, Z⟩, trivial, ⟨Z, Z⟩, trivial, ⟨Blk.im_ok _ _ _, i8 Z⟩, Y⟩).trans (Sub.cut ⟨Z, Z, Z, Z, Z, Z, Y⟩ Z ⟨.dead, .one Z, .dead, .dead, .dead, .vec, Y⟩ Z))
    ·refine AWP.u (.add Z Z Z (by omega) (.j Z Z (.nil ?_)))
     obtain rfl := oi h
     refine b6 ((Sub.move (env' := [(7, .c (.ptr 1 0 0)), (10, .c (int least5)), (13, .c (.own 2 0 c12.length)), (44, .c (row 2 j8 a20.1)), (45, .c (int (a20.1.length : Int))), (46, .c (int (t11 + 1)))]) (σ' := [.dead, .one (.cells 2 [[int 0, int 0]]), .one (vec 1 intI c12), .dead, .dead]) 2 5 Z Z Z ⟨Z, Z, Z, Z, Z, Z, Y⟩ Z ⟨trivial, ⟨Z, Z⟩, ⟨Blk.im_ok _ _ _, i8 Z⟩, trivial, trivial, Y⟩).trans (Sub.cut ⟨Z, Z, Z, Z, Z, Z, Y⟩ Z ⟨.dead, .one Z, .vec, Y⟩ Z))
   ·intro e s hq
    obtain ⟨rfl, hs⟩ := hq
    refine ⟨_, hs, ?_⟩
    refine h9 (b6 (.q (.u (.j Z Z (W.build Z Z Z Z (.v Z Z (W.storeAgg Z Z Z Z Z Z Z (.nil (b6 (.frzV (id := 2) (l := c10) (env2 := [(6, .c (row 1 intI c10)), (7, .c (.ptr 1 0 0))]) (σ2 := [.dead, .one (.cells 2 [[int 0, int 0]]), .dead]) Z Z (by exact ⟨⟨_, Z, .inr ⟨_, Z, Z, Z⟩⟩, ⟨_, Z, .inl ⟨Z, Z⟩⟩, Y⟩) Z (by exact ⟨trivial, ⟨Z, .inl ⟨Z, Z⟩, .inl ⟨Z, Z⟩, Y⟩, trivial, Y⟩) (.ret ?_)))))))))))
    obtain rfl := oi h
    exact Done.ret Z Z
theorem L7 {nv : Int} {low : Int} {high : Int} {r : Bool} (h : Q1 nv low high = some r) : f9 prog 16 [.c (int nv), .c (int low), .c (int high)] (.c (bool r)) := by
 unfold f9
 refine FnOk.enter (rs := [.t 6]) func16 Z ntmps16 results16 Z ⟨trivial, Y⟩ (by kernel_rfl) Z ?_
 unfold Q1 at h
 refine AWP.q (.u (.v Z Z (.nil (b6 (.seqJ (⟨[(6, .c (bool ((decide (low ≤ nv)) && (decide (nv ≤ high)))))], []⟩) ?_ ?_)))))
 ·rcases bft (decide (low ≤ nv)) with hb1 | hb1
  ·refine AWP.u (.j Z Z (.j Z Z (.geq Z Z Z (.j Z Z (.z Z Z Z hb1 (.j Z Z (.z Z Z Z hb1 (.j Z Z (.z Z Z Z hb1 (.leq Z Z Z (.U Z hb1 Z Z (.v Z Z (.nil (b6 ?_))))))))))))))
   simp only [and_t hb1, or_t hb1, Bool.false_or, Bool.true_or, Bool.false_and, Bool.true_and]
   exact Sub.env ⟨Z, Y⟩
  ·refine AWP.u (.j Z Z (.j Z Z (.geq Z Z Z (.j Z Z (.B Z Z Z hb1 (.B Z Z Z hb1 (.B Z Z Z hb1 (.aa Z hb1 Z Z (.v Z Z (.nil (b6 ?_)))))))))))
   simp only [and_f hb1, or_f hb1, Bool.false_or, Bool.true_or, Bool.false_and, Bool.true_and]
   exact Sub.env ⟨Z, Y⟩
 ·refine AWP.ret ?_
  obtain rfl := oi h
  exact Done.ret Z Z
theorem y5 {code : Int} {index : Int} {r : TFault} (h : C7 code index = some r) : f9 prog 23 [.c (int code), .c (int index)] (.agg [int r.code, int r.index]) := by
 unfold f9
 refine FnOk.enter (rs := [.cell 4 29 2]) func23 Z ntmps23 results23 Z ⟨rv _ Z, Y⟩ (by kernel_rfl) Z ?_
 unfold C7 at h
 refine AWP.q (.u (W.alloc Z Z Z Z (.nil (b6 (.q (.u (.j Z Z (.j Z Z (W.build Z Z Z Z (W.storeAgg Z Z Z Z Z Z Z (.nil (b6 (.ret ?_)))))))))))))
 obtain rfl := oi h
 exact Done.ret Z Z
theorem o5 {l : List Int} {nv : Int} {r : Bool} (h : D2 l nv = some r) : f9 prog 24 [.c (row 1 intI l), .c (int nv)] (.c (bool r)) := by
 unfold f9
 refine FnOk.enter (rs := [.t 4]) func24 Z ntmps24 results24 Z ⟨trivial, Y⟩ (by kernel_rfl) Z ?_
 unfold D2 at h
 refine AWP.q (.u (.v Z Z (.nil (b6 (.q (.q (.u (.v Z Z (.nil (b6 (.O ?_)))))))))))
 obtain ⟨oo, ho1, h⟩ := bind_some h
 refine AWP.rngS ho1 (fun iv3 _ => ⟨[(0, .c (row 1 intI l)), (1, .c (int nv)), (5, .c (int iv3))], []⟩) (fun o e st => match o with | .inl _ => e = .exit 0 ∧ Sub [] st ⟨[], []⟩ | .inr x => e = .ret ∧ Done [.t 4] (fun t _ => t = .c (bool x)) .ret st) ?_ ?_ ?_ ?_
 ·try dsimp only
  exact Sub.env ⟨Z, Z, Z, Y⟩
 ·intro iv3 s hloiv3 hltiv3 _
  try dsimp only
  refine AWP.q (.q (.u (.j Z Z (.j Z Z (S.len Z Z (fun hl8 => .F Z Z Z (.nil (b6 (.ae Z hltiv3 (.exit (e8 (e8 ⟨Z, ?_⟩))))))))))))
  exact Sub.env trivial
 ·intro iv3 s o hloiv3 hltiv3 h
  unfold R3 at h
  try dsimp only at h ⊢
  refine AWP.q (.q (.u (.j Z Z (.j Z Z (S.len Z Z (fun hl8 => .F Z Z Z (.nil (b6 (.af Z hltiv3 (.skip (b6 (.q (.O ?_)))))))))))))
  obtain ⟨t4, hx5, h⟩ := bind_some h
  refine AWP.seqJ (⟨[(0, .c (row 1 intI l)), (1, .c (int nv)), (5, .c (int iv3)), (35, .c (bool t4))], []⟩) ?_ ?_
  ·obtain ⟨a14, ha14, a18, ha18, hx5⟩ := b2 hx5
   rcases bft (!a18) with hb6 | hb6
   ·replace hx5 := F2 hb6 hx5
    refine AWP.drawI mixed Z ?_
    refine i4.consF Z (fun E => AOps.j Z Z .N) Z (.consF Z (fun E => AOps.j Z Z .N) Z (.consF Z (fun E => S.idx ha14 Z Z Z Z .N) Z (.consF Z (fun E => AOps.ad Z Z Z Z .N) Z (.consF Z (fun E => AOps.j Z Z .N) Z (.consF Z (fun E => S.sub Z Z Z .N) Z (.consF Z (fun E => AOps.J Z Z Z Z (L7 ha18) Z .N) Z (.consF Z (fun E => AOps.ac Z Z .N) Z (.consF Z (fun E => AOps.j Z Z .N) Z (.consF Z (fun E => AOps.B Z Z Z hb6 .N) Z (.consF Z (fun E => AOps.B Z Z Z hb6 .N) Z (.consF Z (fun E => AOps.B Z Z Z hb6 .N) Z (.consF Z (fun E => AOps.ag Z Z Z .N) Z (.consF Z (fun E => AOps.ag Z Z Z .N) Z (.consF Z (fun E => AOps.ag Z Z Z .N) Z (.consF Z (fun E => AOps.ag Z Z Z .N) Z (.consF Z (fun E => AOps.ag Z Z Z .N) Z (.consF Z (fun E => AOps.ag Z Z Z .N) Z (.consF Z (fun E => AOps.ag Z Z Z .N) Z (.consF Z (fun E => AOps.ag Z Z Z .N) Z (.consF Z (fun E => AOps.ag Z Z Z .N) Z (.consF Z (fun E => AOps.ag Z Z Z .N) Z (.consF Z (fun E => AOps.B Z Z Z hb6 .N) Z (.consF Z (fun E => AOps.U Z hb6 Z Z .N) Z ?_)))))))))))))))))))))))
    refine i4.done ?_
    dsimp only [k6]
    obtain rfl := oi hx5
    refine b6 (Sub.env ⟨Z, Z, Z, Z, Y⟩)
   ·replace hx5 := F0 hb6 hx5
    rcases bft (decide (0 < iv3)) with hb7 | hb7
    ·replace hx5 := v8 hb7 hx5
     obtain ⟨a26, ha26, a31, ha31, hx5⟩ := b2 hx5
     refine AWP.drawI mixed Z ?_
     refine i4.consF Z (fun E => AOps.j Z Z .N) Z (.consF Z (fun E => AOps.j Z Z .N) Z (.consF Z (fun E => S.idx ha14 Z Z Z Z .N) Z (.consF Z (fun E => AOps.ad Z Z Z Z .N) Z (.consF Z (fun E => AOps.j Z Z .N) Z (.consF Z (fun E => S.sub Z Z Z .N) Z (.consF Z (fun E => AOps.J Z Z Z Z (L7 ha18) Z .N) Z (.consF Z (fun E => AOps.ac Z Z .N) Z (.consF Z (fun E => AOps.j Z Z .N) Z (.consF Z (fun E => AOps.z Z Z Z hb6 (.j Z Z .N)) Z (.consF Z (fun E => AOps.z Z Z Z hb6 (.gtr Z Z Z .N)) Z (.consF Z (fun E => AOps.z Z Z Z hb6 (.j Z Z .N)) Z (.consF Z (fun E => AOps.z Z Z Z hb7 (.j Z Z .N)) Z (.consF Z (fun E => AOps.z Z Z Z hb7 (.j Z Z .N)) Z (.consF Z (fun E => AOps.z Z Z Z hb7 (S.idx ha26 Z Z Z Z .N)) Z (.consF Z (fun E => AOps.z Z Z Z hb7 (.ad Z Z Z Z .N)) Z (.consF Z (fun E => AOps.z Z Z Z hb7 (.j Z Z .N)) Z (.consF Z (fun E => AOps.z Z Z Z hb7 (.j Z Z .N)) Z (.consF Z (fun E => AOps.z Z Z Z hb7 (.sub' Z Z Z (by omega) .N)) Z (.consF Z (fun E => AOps.z Z Z Z hb7 (S.idx ha31 Z Z Z Z .N)) Z (.consF Z (fun E => AOps.z Z Z Z hb7 (.ad Z Z Z Z .N)) Z (.consF Z (fun E => AOps.z Z Z Z hb7 (.leq Z Z Z .N)) Z (.consF Z (fun E => AOps.z Z Z Z hb6 (.U Z hb7 Z Z .N)) Z (.consF Z (fun E => AOps.aa Z hb6 Z Z .N) Z ?_)))))))))))))))))))))))
     refine i4.done ?_
     dsimp only [k6]
     obtain rfl := oi hx5
     refine b6 (Sub.env ⟨Z, Z, Z, Z, Y⟩)
    ·replace hx5 := v7 hb7 hx5
     refine AWP.drawI mixed Z ?_
     refine i4.consF Z (fun E => AOps.j Z Z .N) Z (.consF Z (fun E => AOps.j Z Z .N) Z (.consF Z (fun E => S.idx ha14 Z Z Z Z .N) Z (.consF Z (fun E => AOps.ad Z Z Z Z .N) Z (.consF Z (fun E => AOps.j Z Z .N) Z (.consF Z (fun E => S.sub Z Z Z .N) Z (.consF Z (fun E => AOps.J Z Z Z Z (L7 ha18) Z .N) Z (.consF Z (fun E => AOps.ac Z Z .N) Z (.consF Z (fun E => AOps.j Z Z .N) Z (.consF Z (fun E => AOps.z Z Z Z hb6 (.j Z Z .N)) Z (.consF Z (fun E => AOps.z Z Z Z hb6 (.gtr Z Z Z .N)) Z (.consF Z (fun E => AOps.z Z Z Z hb6 (.j Z Z .N)) Z (.consF Z (fun E => AOps.B Z Z Z hb7 .N) Z (.consF Z (fun E => AOps.B Z Z Z hb7 .N) Z (.consF Z (fun E => AOps.B Z Z Z hb7 .N) Z (.consF Z (fun E => AOps.B Z Z Z hb7 .N) Z (.consF Z (fun E => AOps.B Z Z Z hb7 .N) Z (.consF Z (fun E => AOps.B Z Z Z hb7 .N) Z (.consF Z (fun E => AOps.B Z Z Z hb7 .N) Z (.consF Z (fun E => AOps.B Z Z Z hb7 .N) Z (.consF Z (fun E => AOps.B Z Z Z hb7 .N) Z (.consF Z (fun E => AOps.B Z Z Z hb7 .N) Z (.consF Z (fun E => AOps.z Z Z Z hb6 (.aa Z hb7 Z Z .N)) Z (.consF Z (fun E => AOps.aa Z hb6 Z Z .N) Z ?_)))))))))))))))))))))))
     refine i4.done ?_
     dsimp only [k6]
     obtain rfl := oi hx5
     refine b6 (Sub.env ⟨Z, Z, Z, Z, Y⟩)
  ·refine AWP.ah Z h (fun hc8 h => ?_) (fun hc8 h => ?_)
   ·refine AWP.q (.u (.v Z Z (.nil (b6 (.ret (i5 (e9 ?_)))))))
    obtain rfl := oi h
    refine e9 ⟨_, Z, Z, ?_⟩
    exact Done.ret Z Z
   ·refine AWP.skip (e6 (b6 (.u (.j Z Z (.add Z Z Z (by omega) (.v Z Z (.nil ?_)))))))
    obtain rfl := oi h
    refine b6 ⟨_, Z, ?_⟩
    exact Sub.env ⟨Z, Z, Z, Y⟩
 ·intro e s hq
  rcases oo with u | x
  ·try dsimp only at h hq
   obtain ⟨rfl, hs⟩ := hq
   refine ⟨_, hs, ?_⟩
   refine h9 (b6 (.q (.u (.v Z Z (.nil (b6 (.ret ?_)))))))
   obtain rfl := oi h
   exact Done.ret Z Z
  ·try dsimp only at h hq
   obtain ⟨rfl, hs⟩ := hq
   refine ⟨_, Sub.refl _ _, ?_⟩
   refine i5 (e9 ?_)
   obtain rfl := oi h
   exact hs
theorem C9 {l : List Int} {nv : Int} {r : Bool} (h : J3 l nv = some r) : f9 prog 50 [.c (row 1 intI l), .c (int nv)] (.c (bool r)) := by
 unfold f9
 refine FnOk.enter (rs := [.t 4]) func50 Z ntmps50 results50 Z ⟨trivial, Y⟩ (by kernel_rfl) Z ?_
 unfold J3 at h
 refine AWP.q (.u (.v Z Z (.nil (b6 (.q (.q (.u (.v Z Z (.nil (b6 (.O ?_)))))))))))
 obtain ⟨oo, ho1, h⟩ := bind_some h
 refine AWP.rngS ho1 (fun iv3 _ => ⟨[(0, .c (row 1 intI l)), (1, .c (int nv)), (5, .c (int iv3))], []⟩) (fun o e st => match o with | .inl _ => e = .exit 0 ∧ Sub [] st ⟨[], []⟩ | .inr x => e = .ret ∧ Done [.t 4] (fun t _ => t = .c (bool x)) .ret st) ?_ ?_ ?_ ?_
 ·try dsimp only
  exact Sub.env ⟨Z, Z, Z, Y⟩
 ·intro iv3 s hloiv3 hltiv3 _
  try dsimp only
  refine AWP.q (.q (.u (.j Z Z (.j Z Z (S.len Z Z (fun hl8 => .F Z Z Z (.nil (b6 (.ae Z hltiv3 (.exit (e8 (e8 ⟨Z, ?_⟩))))))))))))
  exact Sub.env trivial
 ·intro iv3 s o hloiv3 hltiv3 h
  unfold ae1 at h
  try dsimp only at h ⊢
  refine AWP.q (.q (.u (.j Z Z (.j Z Z (S.len Z Z (fun hl8 => .F Z Z Z (.nil (b6 (.af Z hltiv3 (.skip (b6 (.q (.O (.q ?_))))))))))))))
  obtain ⟨a14, ha14, h⟩ := bind_some h
  refine AWP.u (.j Z Z (.j Z Z (S.idx ha14 Z Z Z Z (.ad Z Z Z Z (.j Z Z (.ab Z Z Z (.nil (b6 (.ite Z h (fun hc4 h => ?_) (fun hc4 h => ?_))))))))))
  ·refine AWP.q (.u (.v Z Z (.nil (b6 (.ret (i5 (e9 ?_)))))))
   obtain rfl := oi h
   refine e9 ⟨_, Z, Z, ?_⟩
   exact Done.ret Z Z
  ·refine AWP.skip (e6 (b6 (.u (.j Z Z (.add Z Z Z (by omega) (.v Z Z (.nil ?_)))))))
   obtain rfl := oi h
   refine b6 ⟨_, Z, ?_⟩
   exact Sub.env ⟨Z, Z, Z, Y⟩
 ·intro e s hq
  rcases oo with u | x
  ·try dsimp only at h hq
   obtain ⟨rfl, hs⟩ := hq
   refine ⟨_, hs, ?_⟩
   refine h9 (b6 (.q (.u (.v Z Z (.nil (b6 (.ret ?_)))))))
   obtain rfl := oi h
   exact Done.ret Z Z
  ·try dsimp only at h hq
   obtain ⟨rfl, hs⟩ := hq
   refine ⟨_, Sub.refl _ _, ?_⟩
   refine i5 (e9 ?_)
   obtain rfl := oi h
   exact hs
theorem aj9 {av : List Int} {bv : List Int} {r : Bool} (h : M7 av bv = some r) : f9 prog 48 [.c (row 1 intI av), .c (row 1 intI bv)] (.c (bool r)) := by
 unfold f9
 refine FnOk.enter (rs := [.t 4]) func48 Z ntmps48 results48 Z ⟨trivial, Y⟩ (by kernel_rfl) Z ?_
 unfold M7 at h
 refine AWP.q (.u (.v Z Z (.nil (b6 (.q (.q (.u (.v Z Z (.nil (b6 (.O ?_)))))))))))
 obtain ⟨oo, ho1, h⟩ := bind_some h
 refine AWP.rngS ho1 (fun iv3 _ => ⟨[(0, .c (row 1 intI av)), (1, .c (row 1 intI bv)), (5, .c (int iv3))], []⟩) (fun o e st => match o with | .inl _ => e = .exit 0 ∧ Sub [] st ⟨[], []⟩ | .inr x => e = .ret ∧ Done [.t 4] (fun t _ => t = .c (bool x)) .ret st) ?_ ?_ ?_ ?_
 ·try dsimp only
  exact Sub.env ⟨Z, Z, Z, Y⟩
 ·intro iv3 s hloiv3 hltiv3 _
  try dsimp only
  refine AWP.q (.q (.u (.j Z Z (.j Z Z (S.len Z Z (fun hl8 => .F Z Z Z (.nil (b6 (.ae Z hltiv3 (.exit (e8 (e8 ⟨Z, ?_⟩))))))))))))
  exact Sub.env trivial
 ·intro iv3 s o hloiv3 hltiv3 h
  unfold S5 at h
  try dsimp only at h ⊢
  refine AWP.q (.q (.u (.j Z Z (.j Z Z (S.len Z Z (fun hl8 => .F Z Z Z (.nil (b6 (.af Z hltiv3 (.skip (b6 (.q (.O (.q ?_))))))))))))))
  obtain ⟨a15, ha15, a17, ha17, h⟩ := b2 h
  refine AWP.u (.j Z Z (.j Z Z (.j Z Z (S.idx ha15 Z Z Z Z (.ad Z Z Z Z (.J Z Z Z Z (C9 ha17) Z (.nil (b6 (.ah Z h (fun hc4 h => ?_) (fun hc4 h => ?_))))))))))
  ·refine AWP.q (.u (.v Z Z (.nil (b6 (.ret (i5 (e9 ?_)))))))
   obtain rfl := oi h
   refine e9 ⟨_, Z, Z, ?_⟩
   exact Done.ret Z Z
  ·refine AWP.skip (e6 (b6 (.u (.j Z Z (.add Z Z Z (by omega) (.v Z Z (.nil ?_)))))))
   obtain rfl := oi h
   refine b6 ⟨_, Z, ?_⟩
   exact Sub.env ⟨Z, Z, Z, Y⟩
 ·intro e s hq
  rcases oo with u | x
  ·try dsimp only at h hq
   obtain ⟨rfl, hs⟩ := hq
   refine ⟨_, hs, ?_⟩
   refine h9 (b6 (.q (.u (.v Z Z (.nil (b6 (.ret ?_)))))))
   obtain rfl := oi h
   exact Done.ret Z Z
  ·try dsimp only at h hq
   obtain ⟨rfl, hs⟩ := hq
   refine ⟨_, Sub.refl _ _, ?_⟩
   refine i5 (e9 ?_)
   obtain rfl := oi h
   exact hs
theorem aj3 {t : f7} {r : TFault} (h : J9 t = some r) : f9 prog 22 [.agg (tT t)] (.agg [int r.code, int r.index]) := by
 unfold f9
 refine FnOk.enter (rs := [.cell 2 29 2]) func22 Z ntmps22 results22 Z ⟨rv _ Z, Y⟩ (by kernel_rfl) Z ?_
 unfold J9 at h
 refine AWP.q (.u (W.box Z Z Z Z Z Z (W.alloc Z Z Z Z (.nil (b6 (.q (.q ?_)))))))
 obtain ⟨a7, ha7, h⟩ := bind_some h
 refine AWP.u (W.fieldAddr Z Z Z Z (.E Z Z Z Z Z Z (.J Z Z Z Z (L7 ha7) Z (.ac Z Z (.nil (b6 (.ah Z h (fun hc2 h => ?_) (fun hc2 h => ?_))))))))
 ·refine AWP.q ?_
  obtain ⟨a9, ha9, h⟩ := bind_some h
  refine AWP.u (.J Z Z Z Z (y5 ha9) Z (W.storeAgg Z Z Z Z Z Z Z (.nil (b6 (.ret (e9 ?_))))))
  obtain rfl := oi h
  exact Done.ret Z Z
 ·refine AWP.skip (b6 (.q (.q ?_)))
  obtain ⟨a14, ha14, h⟩ := bind_some h
  refine AWP.u (W.fieldAddr Z Z Z Z (.E Z Z Z Z Z Z (W.fieldAddr Z Z Z Z (.E Z Z Z Z Z Z (.J Z Z Z Z (o5 ha14) Z (.ac Z Z (.nil (b6 (.ah Z h (fun hc3 h => ?_) (fun hc3 h => ?_))))))))))
  ·refine AWP.q ?_
   obtain ⟨a16, ha16, h⟩ := bind_some h
   refine AWP.u (.J Z Z Z Z (y5 ha16) Z (W.storeAgg Z Z Z Z Z Z Z (.nil (b6 (.ret (e9 ?_))))))
   obtain rfl := oi h
   exact Done.ret Z Z
  ·refine AWP.skip (b6 (.q (.q ?_)))
   obtain ⟨a21, ha21, h⟩ := bind_some h
   refine AWP.u (W.fieldAddr Z Z Z Z (.E Z Z Z Z Z Z (W.fieldAddr Z Z Z Z (.E Z Z Z Z Z Z (.J Z Z Z Z (o5 ha21) Z (.ac Z Z (.nil (b6 (.ah Z h (fun hc4 h => ?_) (fun hc4 h => ?_))))))))))
   ·refine AWP.q ?_
    obtain ⟨a23, ha23, h⟩ := bind_some h
    refine AWP.u (.J Z Z Z Z (y5 ha23) Z (W.storeAgg Z Z Z Z Z Z Z (.nil (b6 (.ret (e9 ?_))))))
    obtain rfl := oi h
    exact Done.ret Z Z
   ·refine AWP.skip (b6 (.q (.q (.u (W.fieldAddr Z Z Z Z (.E Z Z Z Z Z Z (S.len Z Z (fun hl26 => .gtr Z Z Z (.nil (b6 (.ite Z h (fun hc5 h => ?_) (fun hc5 h => ?_))))))))))))
    ·refine AWP.q ?_
     obtain ⟨a28, ha28, h⟩ := bind_some h
     refine AWP.u (.J Z Z Z Z (y5 ha28) Z (W.storeAgg Z Z Z Z Z Z Z (.nil (b6 (.ret (e9 ?_))))))
     obtain rfl := oi h
     exact Done.ret Z Z
    ·refine AWP.skip (b6 (.q (.q (.u (.v Z Z (.nil (b6 (.O ?_))))))))
     obtain ⟨oo, ho1, h⟩ := bind_some h
     refine AWP.rngS ho1 (fun iv6 _ => ⟨[(1, .c (.ptr 0 0 0)), (2, .c (.ptr 1 0 0)), (3, .c (int iv6))], [.one (.cells 4 [(tT t)]), .one (.cells 2 [[int 0, int 0]])]⟩) (fun o e st => match o with | .inl _ => e = .exit 0 ∧ Sub [] st ⟨[(2, .c (.ptr 1 0 0))], [.one (.cells 4 [(tT t)]), .one (.cells 2 [[int 0, int 0]])]⟩ | .inr x => e = .ret ∧ Done [.cell 2 29 2] (fun t _ => t = .agg [int x.code, int x.index]) .ret st) ?_ ?_ ?_ ?_
     ·try dsimp only
      exact Sub.env ⟨Z, Z, Z, Y⟩
     ·intro iv6 s hloiv6 hltiv6 _
      try dsimp only
      refine AWP.q (.q (.u (.j Z Z (W.fieldAddr Z Z Z Z (.E Z Z Z Z Z Z (S.len Z Z (fun hl32 => .F Z Z Z (.nil (b6 (.ae Z hltiv6 (.exit (e8 (e8 ⟨Z, ?_⟩)))))))))))))
      exact Sub.env ⟨Z, Y⟩
     ·intro iv6 s o hloiv6 hltiv6 h
      unfold B7 at h
      try dsimp only at h ⊢
      refine AWP.q (.q (.u (.j Z Z (W.fieldAddr Z Z Z Z (.E Z Z Z Z Z Z (S.len Z Z (fun hl32 => .F Z Z Z (.nil (b6 (.af Z hltiv6 (.skip (b6 (.q (.O (.q ?_)))))))))))))))
      obtain ⟨a39, ha39, h⟩ := bind_some h
      refine AWP.u (W.fieldAddr Z Z Z Z (.E Z Z Z Z Z Z (.j Z Z (S.idx ha39 Z Z Z Z (W.loadIAgg Z Z Z Z Z (W.alloc Z Z Z Z (W.storeAgg Z Z Z Z Z Z Z (.nil (b6 (.q ?_))))))))))
      obtain ⟨t7, hx8, h⟩ := bind_some h
      refine AWP.seqJ (⟨[(1, .c (.ptr 0 0 0)), (2, .c (.ptr 1 0 0)), (3, .c (int iv6)), (4, .c (.ptr 2 0 0)), (70, .c (bool t7))], [.one (.cells 4 [(tT t)]), .one (.cells 2 [[int 0, int 0]]), .one (.cells 4 [[row 1 intI a39.pre, row 1 intI a39.add, row 1 intI a39.del, int a39.cost]])]⟩) ?_ ?_
      ·obtain ⟨a45, ha45, hx8⟩ := bind_some hx8
       rcases bft (!a45) with hb9 | hb9
       ·replace hx8 := F2 hb9 hx8
        refine AWP.u (W.fieldAddr Z Z Z Z (.E Z Z Z Z Z Z (W.fieldAddr Z Z Z Z (.E Z Z Z Z Z Z (.J Z Z Z Z (o5 ha45) Z (.ac Z Z (.j Z Z (.B Z Z Z hb9 (.B Z Z Z hb9 (.B Z Z Z hb9 (.B Z Z Z hb9 (.B Z Z Z hb9 (.B Z Z Z hb9 (.U Z hb9 Z Z (.j Z Z (.B Z Z Z Z (.B Z Z Z Z (.B Z Z Z Z (.B Z Z Z Z (.B Z Z Z Z (.B Z Z Z Z (.U Z Z Z Z (.j Z Z (.B Z Z Z Z (.B Z Z Z Z (.B Z Z Z Z (.B Z Z Z Z (.B Z Z Z Z (.B Z Z Z Z (.U Z Z Z Z (.nil ?_)))))))))))))))))))))))))))))))
        obtain rfl := oi hx8
        refine b6 (Sub.env ⟨Z, Z, Z, Z, Z, Y⟩)
       ·replace hx8 := F0 hb9 hx8
        obtain ⟨a52, ha52, hx8⟩ := bind_some hx8
        rcases bft (!a52) with hb10 | hb10
        ·replace hx8 := F2 hb10 hx8
         refine AWP.u (W.fieldAddr Z Z Z Z (.E Z Z Z Z Z Z (W.fieldAddr Z Z Z Z (.E Z Z Z Z Z Z (.J Z Z Z Z (o5 ha45) Z (.ac Z Z (.j Z Z (.z Z Z Z hb9 (W.fieldAddr Z Z Z Z (.z Z Z Z hb9 (.E Z Z Z Z Z Z (.z Z Z Z hb9 (W.fieldAddr Z Z Z Z (.z Z Z Z hb9 (.E Z Z Z Z Z Z (.z Z Z Z hb9 (.J Z Z Z Z (o5 ha52) Z (.z Z Z Z hb9 (.ac Z Z (.aa Z hb9 Z Z (.j Z Z (.B Z Z Z hb10 (.B Z Z Z hb10 (.B Z Z Z hb10 (.B Z Z Z hb10 (.B Z Z Z hb10 (.B Z Z Z hb10 (.U Z hb10 Z Z (.j Z Z (.B Z Z Z Z (.B Z Z Z Z (.B Z Z Z Z (.B Z Z Z Z (.B Z Z Z Z (.B Z Z Z Z (.U Z Z Z Z (.nil ?_)))))))))))))))))))))))))))))))))))))
         obtain rfl := oi hx8
         refine b6 (Sub.env ⟨Z, Z, Z, Z, Z, Y⟩)
        ·replace hx8 := F0 hb10 hx8
         obtain ⟨a60, ha60, hx8⟩ := bind_some hx8
         rcases bft (!a60) with hb11 | hb11
         ·replace hx8 := F2 hb11 hx8
          refine AWP.u (W.fieldAddr Z Z Z Z (.E Z Z Z Z Z Z (W.fieldAddr Z Z Z Z (.E Z Z Z Z Z Z (.J Z Z Z Z (o5 ha45) Z (.ac Z Z (.j Z Z (.z Z Z Z hb9 (W.fieldAddr Z Z Z Z (.z Z Z Z hb9 (.E Z Z Z Z Z Z (.z Z Z Z hb9 (W.fieldAddr Z Z Z Z (.z Z Z Z hb9 (.E Z Z Z Z Z Z (.z Z Z Z hb9 (.J Z Z Z Z (o5 ha52) Z (.z Z Z Z hb9 (.ac Z Z (.aa Z hb9 Z Z (.j Z Z (.z Z Z Z hb10 (W.fieldAddr Z Z Z Z (.z Z Z Z hb10 (.E Z Z Z Z Z Z (.z Z Z Z hb10 (W.fieldAddr Z Z Z Z (.z Z Z Z hb10 (.E Z Z Z Z Z Z (.z Z Z Z hb10 (.J Z Z Z Z (o5 ha60) Z (.z Z Z Z hb10 (.ac Z Z (.aa Z hb10 Z Z (.j Z Z (.B Z Z Z hb11 (.B Z Z Z hb11 (.B Z Z Z hb11 (.B Z Z Z hb11 (.B Z Z Z hb11 (.B Z Z Z hb11 (.U Z hb11 Z Z (.nil ?_)))))))))))))))))))))))))))))))))))))))))))
          obtain rfl := oi hx8
          refine b6 (Sub.env ⟨Z, Z, Z, Z, Z, Y⟩)
         ·replace hx8 := F0 hb11 hx8
          obtain ⟨a68, ha68, hx8⟩ := bind_some hx8
          refine AWP.u (W.fieldAddr Z Z Z Z (.E Z Z Z Z Z Z (W.fieldAddr Z Z Z Z (.E Z Z Z Z Z Z (.J Z Z Z Z (o5 ha45) Z (.ac Z Z (.j Z Z (.z Z Z Z hb9 (W.fieldAddr Z Z Z Z (.z Z Z Z hb9 (.E Z Z Z Z Z Z (.z Z Z Z hb9 (W.fieldAddr Z Z Z Z (.z Z Z Z hb9 (.E Z Z Z Z Z Z (.z Z Z Z hb9 (.J Z Z Z Z (o5 ha52) Z (.z Z Z Z hb9 (.ac Z Z (.aa Z hb9 Z Z (.j Z Z (.z Z Z Z hb10 (W.fieldAddr Z Z Z Z (.z Z Z Z hb10 (.E Z Z Z Z Z Z (.z Z Z Z hb10 (W.fieldAddr Z Z Z Z (.z Z Z Z hb10 (.E Z Z Z Z Z Z (.z Z Z Z hb10 (.J Z Z Z Z (o5 ha60) Z (.z Z Z Z hb10 (.ac Z Z (.aa Z hb10 Z Z (.j Z Z (.z Z Z Z hb11 (W.fieldAddr Z Z Z Z (.z Z Z Z hb11 (.E Z Z Z Z Z Z (.z Z Z Z hb11 (W.fieldAddr Z Z Z Z (.z Z Z Z hb11 (.E Z Z Z Z Z Z (.z Z Z Z hb11 (.J Z Z Z Z (aj9 ha68) Z (.z Z Z Z hb11 (.ac Z Z (.aa Z hb11 Z Z (.nil ?_)))))))))))))))))))))))))))))))))))))))))))))))))
          obtain rfl := oi hx8
          refine b6 (Sub.env ⟨Z, Z, Z, Z, Z, Y⟩)
      ·refine AWP.ah Z h (fun hc12 h => ?_) (fun hc12 h => ?_)
       ·refine AWP.q ?_
        obtain ⟨a72, ha72, h⟩ := bind_some h
        refine AWP.u (.j Z Z (.J Z Z Z Z (y5 ha72) Z (W.storeAgg Z Z Z Z Z Z Z (.nil (b6 (.ret (e9 (i5 (e9 ?_)))))))))
        obtain rfl := oi h
        refine e9 ⟨_, Z, Z, ?_⟩
        exact Done.ret Z Z
       ·refine AWP.skip (b6 (.q ?_))
        obtain ⟨a75, ha75, h⟩ := bind_some h
        refine AWP.u (W.fieldAddr Z Z Z Z (.E Z Z Z Z Z Z (.J Z Z Z Z (L7 ha75) Z (.ac Z Z (.nil (b6 (.ah Z h (fun hc13 h => ?_) (fun hc13 h => ?_))))))))
        ·refine AWP.q ?_
         obtain ⟨a78, ha78, h⟩ := bind_some h
         refine AWP.u (.j Z Z (.J Z Z Z Z (y5 ha78) Z (W.storeAgg Z Z Z Z Z Z Z (.nil (b6 (.ret (i5 (e9 ?_))))))))
         obtain rfl := oi h
         refine e9 ⟨_, Z, Z, ?_⟩
         exact Done.ret Z Z
        ·refine AWP.skip (e6 (b6 (.u (.j Z Z (.add Z Z Z (by omega) (.v Z Z (.nil ?_)))))))
         obtain rfl := oi h
         refine b6 ⟨_, Z, ?_⟩
         exact Sub.cut ⟨Z, Z, Z, Y⟩ Z ⟨.one Z, .one Z, Y⟩ Z
     ·intro e s hq
      rcases oo with u | x
      ·try dsimp only at h hq
       obtain ⟨rfl, hs⟩ := hq
       refine ⟨_, hs, ?_⟩
       refine h9 (b6 (.q (.u (W.build Z Z Z Z (W.storeAgg Z Z Z Z Z Z Z (.nil (b6 (.ret ?_))))))))
       obtain rfl := oi h
       exact Done.ret Z Z
      ·try dsimp only at h hq
       obtain ⟨rfl, hs⟩ := hq
       refine ⟨_, Sub.refl _ _, ?_⟩
       refine i5 (e9 ?_)
       obtain rfl := oi h
       exact hs
theorem ah3 {operators : Int} {plan : List Int} {r : TFault} (h : I8 operators plan = some r) : f9 prog 25 [.c (int operators), .c (row 1 intI plan)] (.agg [int r.code, int r.index]) := by
 unfold f9
 refine FnOk.enter (rs := [.cell 4 29 2]) func25 Z ntmps25 results25 Z ⟨rv _ Z, Y⟩ (by kernel_rfl) Z ?_
 unfold I8 at h
 refine AWP.q (.u (W.alloc Z Z Z Z (.nil (b6 (.q (.q (.u (.j Z Z (S.len Z Z (fun hl7 => .gtr Z Z Z (.nil (b6 (.ite Z h (fun hc3 h => ?_) (fun hc3 h => ?_))))))))))))))
 ·refine AWP.q ?_
  obtain ⟨a9, ha9, h⟩ := bind_some h
  refine AWP.u (.J Z Z Z Z (y5 ha9) Z (W.storeAgg Z Z Z Z Z Z Z (.nil (b6 (.ret (e9 ?_))))))
  obtain rfl := oi h
  exact Done.ret Z Z
 ·refine AWP.skip (b6 (.q (.q (.u (.v Z Z (.nil (b6 (.O ?_))))))))
  obtain ⟨oo, ho1, h⟩ := bind_some h
  refine AWP.rngS ho1 (fun iv4 _ => ⟨[(0, .c (int operators)), (1, .c (row 1 intI plan)), (4, .c (.ptr 0 0 0)), (5, .c (int iv4))], [.one (.cells 2 [[int 0, int 0]])]⟩) (fun o e st => match o with | .inl _ => e = .exit 0 ∧ Sub [] st ⟨[(4, .c (.ptr 0 0 0))], [.one (.cells 2 [[int 0, int 0]])]⟩ | .inr x => e = .ret ∧ Done [.cell 4 29 2] (fun t _ => t = .agg [int x.code, int x.index]) .ret st) ?_ ?_ ?_ ?_
  ·try dsimp only
   exact Sub.env ⟨Z, Z, Z, Z, Y⟩
  ·intro iv4 s hloiv4 hltiv4 _
   try dsimp only
   refine AWP.q (.q (.u (.j Z Z (.j Z Z (S.len Z Z (fun hl12 => .F Z Z Z (.nil (b6 (.ae Z hltiv4 (.exit (e8 (e8 ⟨Z, ?_⟩))))))))))))
   exact Sub.env ⟨Z, Y⟩
  ·intro iv4 s o hloiv4 hltiv4 h
   unfold P1 at h
   try dsimp only at h ⊢
   refine AWP.q (.q (.u (.j Z Z (.j Z Z (S.len Z Z (fun hl12 => .F Z Z Z (.nil (b6 (.af Z hltiv4 (.skip (b6 (.q (.O (.q ?_))))))))))))))
   obtain ⟨a18, ha18, a22, ha22, h⟩ := b2 h
   refine AWP.u (.j Z Z (.j Z Z (S.idx ha18 Z Z Z Z (.ad Z Z Z Z (.j Z Z (S.sub Z Z Z (.J Z Z Z Z (L7 ha22) Z (.ac Z Z (.nil (b6 (.ah Z h (fun hc5 h => ?_) (fun hc5 h => ?_))))))))))))
   ·refine AWP.q ?_
    obtain ⟨a24, ha24, h⟩ := bind_some h
    refine AWP.u (.J Z Z Z Z (y5 ha24) Z (W.storeAgg Z Z Z Z Z Z Z (.nil (b6 (.ret (i5 (e9 ?_)))))))
    obtain rfl := oi h
    refine e9 ⟨_, Z, Z, ?_⟩
    exact Done.ret Z Z
   ·refine AWP.skip (e6 (b6 (.u (.j Z Z (.add Z Z Z (by omega) (.v Z Z (.nil ?_)))))))
    obtain rfl := oi h
    refine b6 ⟨_, Z, ?_⟩
    exact Sub.env ⟨Z, Z, Z, Z, Y⟩
  ·intro e s hq
   rcases oo with u | x
   ·try dsimp only at h hq
    obtain ⟨rfl, hs⟩ := hq
    refine ⟨_, hs, ?_⟩
    refine h9 (b6 (.q (.u (W.build Z Z Z Z (W.storeAgg Z Z Z Z Z Z Z (.nil (b6 (.ret ?_))))))))
    obtain rfl := oi h
    exact Done.ret Z Z
   ·try dsimp only at h hq
    obtain ⟨rfl, hs⟩ := hq
    refine ⟨_, Sub.refl _ _, ?_⟩
    refine i5 (e9 ?_)
    obtain rfl := oi h
    exact hs
theorem ae2 {t : f7} {goals : List (List Int)} {observed : List Int} {r : TFault} (h : z8 t goals observed = some r) : f9 prog 10 [.agg (tT t), .c (row 1 f5 goals), .c (row 1 intI observed)] (.agg [int r.code, int r.index]) := by
 unfold f9
 refine FnOk.enter (rs := [.cell 6 29 2]) func10 Z ntmps10 results10 Z ⟨rv _ Z, Y⟩ (by kernel_rfl) Z ?_
 unfold z8 at h
 refine AWP.q (.u (W.box Z Z Z Z Z Z (W.alloc Z Z Z Z (.nil (b6 (.q (.q ?_)))))))
 obtain ⟨a10, ha10, h⟩ := bind_some h
 refine AWP.u (W.loadAgg Z Z Z Z Z Z Z (.J Z Z Z Z (aj3 ha10) Z (W.alloc Z Z Z Z (W.storeAgg Z Z Z Z Z Z Z (.nil (b6 (.q (.u (W.fieldAddr Z Z Z Z (.E Z Z Z Z Z Z (.neq Z Z Z (.nil (b6 (.iteN Z h (fun hc4 h => ?_) (fun hc4 h => ?_)))))))))))))))
 ·refine AWP.q (.u (W.loadAgg Z Z Z Z Z Z Z (W.storeAgg Z Z Z Z Z Z Z (.nil (b6 (.ret (e9 ?_)))))))
  obtain rfl := oi h
  exact Done.ret Z Z
 ·refine AWP.skip (b6 (.q (.q ?_)))
  obtain ⟨a17, ha17, h⟩ := bind_some h
  refine AWP.u (.j Z Z (S.len Z Z (fun hl16 => .J Z Z Z Z (L7 ha17) Z (.ac Z Z (.nil (b6 (.ah Z h (fun hc5 h => ?_) (fun hc5 h => ?_))))))))
  ·refine AWP.q ?_
   obtain ⟨a19, ha19, h⟩ := bind_some h
   refine AWP.u (.J Z Z Z Z (y5 ha19) Z (W.storeAgg Z Z Z Z Z Z Z (.nil (b6 (.ret (e9 ?_))))))
   obtain rfl := oi h
   exact Done.ret Z Z
  ·refine AWP.skip (b6 (.q (.q (.u (.v Z Z (.nil (b6 (.O ?_))))))))
   obtain ⟨oo, ho1, h⟩ := bind_some h
   refine AWP.rngS ho1 (fun iv6 _ => ⟨[(1, .c (row 1 f5 goals)), (2, .c (row 1 intI observed)), (3, .c (.ptr 0 0 0)), (6, .c (.ptr 1 0 0)), (8, .c (int iv6))], [.one (.cells 4 [(tT t)]), .one (.cells 2 [[int 0, int 0]])]⟩) (fun o e st => match o with | .inl _ => e = .exit 0 ∧ Sub [] st ⟨[(2, .c (row 1 intI observed)), (3, .c (.ptr 0 0 0)), (6, .c (.ptr 1 0 0))], [.one (.cells 4 [(tT t)]), .one (.cells 2 [[int 0, int 0]])]⟩ | .inr x => e = .ret ∧ Done [.cell 6 29 2] (fun t _ => t = .agg [int x.code, int x.index]) .ret st) ?_ ?_ ?_ ?_
   ·try dsimp only
    exact Sub.cut ⟨Z, Z, Z, Z, Z, Y⟩ Z ⟨.one Z, .one Z, Y⟩ Z
   ·intro iv6 s hloiv6 hltiv6 _
    try dsimp only
    refine AWP.q (.q (.u (.j Z Z (.j Z Z (S.len Z Z (fun hl22 => .F Z Z Z (.nil (b6 (.ae Z hltiv6 (.exit (e8 (e8 ⟨Z, ?_⟩))))))))))))
    exact Sub.env ⟨Z, Z, Z, Y⟩
   ·intro iv6 s o hloiv6 hltiv6 h
    unfold D9 at h
    try dsimp only at h ⊢
    refine AWP.q (.q (.u (.j Z Z (.j Z Z (S.len Z Z (fun hl22 => .F Z Z Z (.nil (b6 (.af Z hltiv6 (.skip (b6 (.q (.O (.q ?_))))))))))))))
    obtain ⟨a28, ha28, a32, ha32, h⟩ := b2 h
    refine AWP.drawI mixed Z ?_
    refine i4.consF Z (fun E => AOps.j Z Z .N) Z (.consF Z (fun E => AOps.j Z Z .N) Z (.consF Z (fun E => S.idx ha28 Z Z Z Z .N) Z (.consF Z (fun E => AOps.ad Z Z Z Z .N) Z (.consF Z (fun E => W.fieldAddr Z Z Z Z .N) Z (.consF Z (fun E => AOps.E Z Z Z Z Z Z .N) Z (.consF Z (fun E => AOps.J Z Z Z Z (o5 ha32) Z .N) Z (.consF Z (fun E => AOps.ac Z Z .N) Z ?_)))))))
    refine i4.done ?_
    dsimp only [k6]
    refine b6 (.ah Z h (fun hc7 h => ?_) (fun hc7 h => ?_))
    ·refine AWP.q ?_
     obtain ⟨a36, ha36, h⟩ := bind_some h
     refine AWP.u (.j Z Z (S.sub Z Z Z (.J Z Z Z Z (y5 ha36) Z (W.storeAgg Z Z Z Z Z Z Z (.nil (b6 (.ret (i5 (e9 ?_)))))))))
     obtain rfl := oi h
     refine e9 ⟨_, Z, Z, ?_⟩
     exact Done.ret Z Z
    ·refine AWP.skip (e6 (b6 (.u (.j Z Z (.add Z Z Z (by omega) (.v Z Z (.nil ?_)))))))
     obtain rfl := oi h
     refine b6 ⟨_, Z, ?_⟩
     exact Sub.env ⟨Z, Z, Z, Z, Z, Y⟩
   ·intro e s hq
    rcases oo with u | x
    ·try dsimp only at h hq
     obtain ⟨rfl, hs⟩ := hq
     refine ⟨_, hs, ?_⟩
     refine h9 (b6 (.q (.q (.u (.j Z Z (S.len Z Z (fun hl38 => .gtr Z Z Z (.nil (b6 (.ite Z h (fun hc8 h => ?_) (fun hc8 h => ?_)))))))))))
     ·refine AWP.q ?_
      obtain ⟨a40, ha40, h⟩ := bind_some h
      refine AWP.u (.J Z Z Z Z (y5 ha40) Z (W.storeAgg Z Z Z Z Z Z Z (.nil (b6 (.ret (e9 ?_))))))
      obtain rfl := oi h
      exact Done.ret Z Z
     ·refine AWP.skip (b6 (.q (.q ?_)))
      obtain ⟨a45, ha45, h⟩ := bind_some h
      refine AWP.u (W.fieldAddr Z Z Z Z (.E Z Z Z Z Z Z (S.len Z Z (fun hl43 => .j Z Z (.J Z Z Z Z (ah3 ha45) Z (W.field Z Z Z Z (.neq Z Z Z (.nil (b6 (.iteN Z h (fun hc9 h => ?_) (fun hc9 h => ?_)))))))))))
      ·refine AWP.q ?_
       obtain ⟨a48, ha48, h⟩ := bind_some h
       refine AWP.u (.J Z Z Z Z (y5 ha48) Z (W.storeAgg Z Z Z Z Z Z Z (.nil (b6 (.ret (e9 ?_))))))
       obtain rfl := oi h
       exact Done.ret Z Z
      ·refine AWP.skip (b6 (.q (.u (W.build Z Z Z Z (W.storeAgg Z Z Z Z Z Z Z (.nil (b6 (.ret ?_))))))))
       obtain rfl := oi h
       exact Done.ret Z Z
    ·try dsimp only at h hq
     obtain ⟨rfl, hs⟩ := hq
     refine ⟨_, Sub.refl _ _, ?_⟩
     refine i5 (e9 ?_)
     obtain rfl := oi h
     exact hs
theorem ah5 {r : f7} (h : W8 = some r) : f9 prog 26 [] (.agg (tT r)) := by
 unfold f9
 refine FnOk.enter (rs := [.cell 0 25 4]) func26 Z ntmps26 results26 Z ⟨rv _ Z, Y⟩ (by kernel_rfl) Z ?_
 unfold W8 at h
 refine AWP.q (.u (W.alloc Z Z Z Z (.nil (b6 (.q (.u (S.lit (f := intI) (l := [0]) (ess := [[int 0]]) Z Z Z Z Z Z Z ⟨⟨.inl Z, Y⟩, Y⟩ Z Z Z (S.lit (f := intI) (l := [1]) (ess := [[int 1]]) Z Z Z Z Z Z Z ⟨⟨.inl Z, Y⟩, Y⟩ Z Z Z (S.lit (f := intI) (l := [0]) (ess := [[int 0]]) Z Z Z Z Z Z Z ⟨⟨.inl Z, Y⟩, Y⟩ Z Z Z (S.lit (f := intI) (l := [1]) (ess := [[int 1]]) Z Z Z Z Z Z Z ⟨⟨.inl Z, Y⟩, Y⟩ Z Z Z (S.lit (f := intI) (l := [0]) (ess := [[int 0]]) Z Z Z Z Z Z Z ⟨⟨.inl Z, Y⟩, Y⟩ Z Z Z (W.build Z Z Z Z (S.lit (f := intI) (l := [1]) (ess := [[int 1]]) Z Z Z Z Z Z Z ⟨⟨.inl Z, Y⟩, Y⟩ Z Z Z (W.build Z Z Z Z ?_))))))))))))))
 refine AOps.frzV (id := 3) (l := [0]) (env2 := [(0, .c (.ptr 0 0 0)), (1, .c (.own 1 0 ([0].length))), (2, .c (.own 2 0 ([1].length))), (6, .agg [row 1 intI [0], .own 4 0 ([1].length), .own 5 0 ([0].length), int 1]), (8, .agg [.imm (.val nL), .own 6 0 ([1].length), .imm (.val nL), int 3])]) (σ2 := [.one (.cells 4 [[int 0, .imm (.val nL), .imm (.val nL), .imm (.val nL)]]), .one (vec 1 intI [0]), .one (vec 1 intI [1]), .dead, .one (vec 1 intI [1]), .one (vec 1 intI [0]), .one (vec 1 intI [1])]) Z Z (by exact ⟨⟨_, Z, .inl ⟨Z, Z⟩⟩, ⟨_, Z, .inl ⟨Z, Z⟩⟩, ⟨_, Z, .inl ⟨Z, Z⟩⟩, ⟨_, Z, ⟨.inr ⟨_, Z, Z, Z⟩, .inl ⟨Z, Z⟩, .inl ⟨Z, Z⟩, .inl ⟨Z, Z⟩, Y⟩⟩, ⟨_, Z, ⟨.inl ⟨Z, Z⟩, .inl ⟨Z, Z⟩, .inl ⟨Z, Z⟩, .inl ⟨Z, Z⟩, Y⟩⟩, Y⟩) Z (by exact ⟨⟨Z, .inl ⟨Z, Z⟩, .inl ⟨Z, Z⟩, .inl ⟨Z, Z⟩, .inl ⟨Z, Z⟩, Y⟩, FrzB.vec, FrzB.vec, trivial, FrzB.vec, FrzB.vec, FrzB.vec, Y⟩) ?_; refine AOps.frzV (id := 4) (l := [1]) (env2 := [(0, .c (.ptr 0 0 0)), (1, .c (.own 1 0 ([0].length))), (2, .c (.own 2 0 ([1].length))), (6, .agg [row 1 intI [0], row 1 intI [1], .own 5 0 ([0].length), int 1]), (8, .agg [.imm (.val nL), .own 6 0 ([1].length), .imm (.val nL), int 3])]) (σ2 := [.one (.cells 4 [[int 0, .imm (.val nL), .imm (.val nL), .imm (.val nL)]]), .one (vec 1 intI [0]), .one (vec 1 intI [1]), .dead, .dead, .one (vec 1 intI [0]), .one (vec 1 intI [1])]) Z Z (by exact ⟨⟨_, Z, .inl ⟨Z, Z⟩⟩, ⟨_, Z, .inl ⟨Z, Z⟩⟩, ⟨_, Z, .inl ⟨Z, Z⟩⟩, ⟨_, Z, ⟨.inl ⟨Z, Z⟩, .inr ⟨_, Z, Z, Z⟩, .inl ⟨Z, Z⟩, .inl ⟨Z, Z⟩, Y⟩⟩, ⟨_, Z, ⟨.inl ⟨Z, Z⟩, .inl ⟨Z, Z⟩, .inl ⟨Z, Z⟩, .inl ⟨Z, Z⟩, Y⟩⟩, Y⟩) Z (by exact ⟨⟨Z, .inl ⟨Z, Z⟩, .inl ⟨Z, Z⟩, .inl ⟨Z, Z⟩, .inl ⟨Z, Z⟩, Y⟩, FrzB.vec, FrzB.vec, trivial, trivial, FrzB.vec, FrzB.vec, Y⟩) ?_; refine AOps.frzV (id := 5) (l := [0]) (env2 := [(0, .c (.ptr 0 0 0)), (1, .c (.own 1 0 ([0].length))), (2, .c (.own 2 0 ([1].length))), (6, .agg [row 1 intI [0], row 1 intI [1], row 1 intI [0], int 1]), (8, .agg [.imm (.val nL), .own 6 0 ([1].length), .imm (.val nL), int 3])]) (σ2 := [.one (.cells 4 [[int 0, .imm (.val nL), .imm (.val nL), .imm (.val nL)]]), .one (vec 1 intI [0]), .one (vec 1 intI [1]), .dead, .dead, .dead, .one (vec 1 intI [1])]) Z Z (by exact ⟨⟨_, Z, .inl ⟨Z, Z⟩⟩, ⟨_, Z, .inl ⟨Z, Z⟩⟩, ⟨_, Z, .inl ⟨Z, Z⟩⟩, ⟨_, Z, ⟨.inl ⟨Z, Z⟩, .inl ⟨Z, Z⟩, .inr ⟨_, Z, Z, Z⟩, .inl ⟨Z, Z⟩, Y⟩⟩, ⟨_, Z, ⟨.inl ⟨Z, Z⟩, .inl ⟨Z, Z⟩, .inl ⟨Z, Z⟩, .inl ⟨Z, Z⟩, Y⟩⟩, Y⟩) Z (by exact ⟨⟨Z, .inl ⟨Z, Z⟩, .inl ⟨Z, Z⟩, .inl ⟨Z, Z⟩, .inl ⟨Z, Z⟩, Y⟩, FrzB.vec, FrzB.vec, trivial, trivial, trivial, FrzB.vec, Y⟩) ?_; refine AOps.frzV (id := 6) (l := [1]) (env2 := [(0, .c (.ptr 0 0 0)), (1, .c (.own 1 0 ([0].length))), (2, .c (.own 2 0 ([1].length))), (6, .agg [row 1 intI [0], row 1 intI [1], row 1 intI [0], int 1]), (8, .agg [.imm (.val nL), row 1 intI [1], .imm (.val nL), int 3])]) (σ2 := [.one (.cells 4 [[int 0, .imm (.val nL), .imm (.val nL), .imm (.val nL)]]), .one (vec 1 intI [0]), .one (vec 1 intI [1]), .dead, .dead, .dead, .dead]) Z Z (by exact ⟨⟨_, Z, .inl ⟨Z, Z⟩⟩, ⟨_, Z, .inl ⟨Z, Z⟩⟩, ⟨_, Z, .inl ⟨Z, Z⟩⟩, ⟨_, Z, ⟨.inl ⟨Z, Z⟩, .inl ⟨Z, Z⟩, .inl ⟨Z, Z⟩, .inl ⟨Z, Z⟩, Y⟩⟩, ⟨_, Z, ⟨.inl ⟨Z, Z⟩, .inr ⟨_, Z, Z, Z⟩, .inl ⟨Z, Z⟩, .inl ⟨Z, Z⟩, Y⟩⟩, Y⟩) Z (by exact ⟨⟨Z, .inl ⟨Z, Z⟩, .inl ⟨Z, Z⟩, .inl ⟨Z, Z⟩, .inl ⟨Z, Z⟩, Y⟩, FrzB.vec, FrzB.vec, trivial, trivial, trivial, trivial, Y⟩) ?_; refine S.lit (f := n9) (l := [(⟨[0], [1], [0], 1⟩ : i6), (⟨[], [1], [], 3⟩ : i6)]) (ess := [[row 1 intI [0], row 1 intI [1], row 1 intI [0], int 1], [.imm (.val nL), row 1 intI [1], .imm (.val nL), int 3]]) Z Z Z Z Z Z Z ⟨⟨.inl Z, .inl Z, .inl Z, .inl Z, Y⟩, ⟨.inr ⟨Z, _, Z⟩, .inl Z, .inr ⟨Z, _, Z⟩, .inl Z, Y⟩, Y⟩ Z Z Z ?_
 refine W.build Z Z Z Z (W.storeAgg Z Z Z Z Z Z Z (.nil (b6 (.frzV (id := 1) (l := [0]) (env2 := [(0, .c (.ptr 0 0 0))]) (σ2 := [.one (.cells 4 [[int 2, row 1 intI [0], .own 2 0 ([1].length), .own 7 0 (([(⟨[0], [1], [0], 1⟩ : i6), (⟨[], [1], [], 3⟩ : i6)]).length)]]), .dead, .one (vec 1 intI [1]), .dead, .dead, .dead, .dead, .one (vec 4 n9 ([(⟨[0], [1], [0], 1⟩ : i6), (⟨[], [1], [], 3⟩ : i6)]))]) Z Z (by exact ⟨⟨_, Z, .inl ⟨Z, Z⟩⟩, Y⟩) Z (by exact ⟨⟨Z, .inl ⟨Z, Z⟩, .inr ⟨_, Z, Z, Z⟩, .inl ⟨Z, Z⟩, .inl ⟨Z, Z⟩, Y⟩, trivial, FrzB.vec, trivial, trivial, trivial, trivial, FrzB.vec, Y⟩) (.frzV (id := 2) (l := [1]) (env2 := [(0, .c (.ptr 0 0 0))]) (σ2 := [.one (.cells 4 [[int 2, row 1 intI [0], row 1 intI [1], .own 7 0 (([(⟨[0], [1], [0], 1⟩ : i6), (⟨[], [1], [], 3⟩ : i6)]).length)]]), .dead, .dead, .dead, .dead, .dead, .dead, .one (vec 4 n9 ([(⟨[0], [1], [0], 1⟩ : i6), (⟨[], [1], [], 3⟩ : i6)]))]) Z Z (by exact ⟨⟨_, Z, .inl ⟨Z, Z⟩⟩, Y⟩) Z (by exact ⟨⟨Z, .inl ⟨Z, Z⟩, .inl ⟨Z, Z⟩, .inr ⟨_, Z, Z, Z⟩, .inl ⟨Z, Z⟩, Y⟩, trivial, trivial, trivial, trivial, trivial, trivial, FrzB.vec, Y⟩) (.frzV (id := 7) (l := [(⟨[0], [1], [0], 1⟩ : i6), (⟨[], [1], [], 3⟩ : i6)]) (env2 := [(0, .c (.ptr 0 0 0))]) (σ2 := [.one (.cells 4 [[int 2, row 1 intI [0], row 1 intI [1], row 4 n9 ([(⟨[0], [1], [0], 1⟩ : i6), (⟨[], [1], [], 3⟩ : i6)])]]), .dead, .dead, .dead, .dead, .dead, .dead, .dead]) Z Z (by exact ⟨⟨_, Z, .inl ⟨Z, Z⟩⟩, Y⟩) Z (by exact ⟨⟨Z, .inl ⟨Z, Z⟩, .inl ⟨Z, Z⟩, .inl ⟨Z, Z⟩, .inr ⟨_, Z, Z, Z⟩, Y⟩, trivial, trivial, trivial, trivial, trivial, trivial, trivial, Y⟩) (.ret ?_)))))))
 obtain rfl := oi h
 exact Done.ret Z Z
theorem G0 {av : List (Int × Int)} {bv : List (Int × Int)} {r : Bool} (h : H3 av bv = some r) : f9 prog 14 [.c (row 2 j8 av), .c (row 2 j8 bv)] (.c (bool r)) := by
 unfold f9
 refine FnOk.enter (rs := [.t 4]) func14 Z ntmps14 results14 Z ⟨trivial, Y⟩ (by kernel_rfl) Z ?_
 unfold H3 at h
 refine AWP.q (.u (.v Z Z (.nil (b6 (.q (.q (.u (.j Z Z (S.len Z Z (fun hl7 => .j Z Z (S.len Z Z (fun hl9 => .neq Z Z Z (.nil (b6 (.iteN Z h (fun hc3 h => ?_) (fun hc3 h => ?_))))))))))))))))
 ·refine AWP.q (.u (.v Z Z (.nil (b6 (.ret (e9 ?_))))))
  obtain rfl := oi h
  exact Done.ret Z Z
 ·refine AWP.skip (b6 (.q (.q (.u (.v Z Z (.nil (b6 (.O ?_))))))))
  obtain ⟨oo, ho1, h⟩ := bind_some h
  refine AWP.rngS ho1 (fun iv4 _ => ⟨[(0, .c (row 2 j8 av)), (1, .c (row 2 j8 bv)), (5, .c (int iv4))], []⟩) (fun o e st => match o with | .inl _ => e = .exit 0 ∧ Sub [] st ⟨[], []⟩ | .inr x => e = .ret ∧ Done [.t 4] (fun t _ => t = .c (bool x)) .ret st) ?_ ?_ ?_ ?_
  ·try dsimp only
   exact Sub.env ⟨Z, Z, Z, Y⟩
  ·intro iv4 s hloiv4 hltiv4 _
   try dsimp only
   refine AWP.q (.q (.u (.j Z Z (.j Z Z (S.len Z Z (fun hl13 => .F Z Z Z (.nil (b6 (.ae Z hltiv4 (.exit (e8 (e8 ⟨Z, ?_⟩))))))))))))
   exact Sub.env trivial
  ·intro iv4 s o hloiv4 hltiv4 h
   unfold S4 at h
   try dsimp only at h ⊢
   refine AWP.q (.q (.u (.j Z Z (.j Z Z (S.len Z Z (fun hl13 => .F Z Z Z (.nil (b6 (.af Z hltiv4 (.skip (b6 (.q (.O (.q ?_))))))))))))))
   obtain ⟨a19, ha19, a23, ha23, h⟩ := b2 h
   refine AWP.drawI mixed Z ?_
   refine i4.consF Z (fun E => AOps.j Z Z .N) Z (.consF Z (fun E => AOps.j Z Z .N) Z (.consF Z (fun E => S.idx ha19 Z Z Z Z .N) Z (.consF Z (fun E => W.loadIAgg Z Z Z Z Z .N) Z (.consF Z (fun E => AOps.j Z Z .N) Z (.consF Z (fun E => AOps.j Z Z .N) Z (.consF Z (fun E => S.idx ha23 Z Z Z Z .N) Z (.consF Z (fun E => W.loadIAgg Z Z Z Z Z .N) Z (.consF Z (fun E => AOps.neqA Z Z Z Z .N) Z ?_))))))))
   refine i4.done ?_
   dsimp only [k6]
   refine b6 (.ah Z h (fun hc5 h => ?_) (fun hc5 h => ?_))
   ·refine AWP.q (.u (.v Z Z (.nil (b6 (.ret (i5 (e9 ?_)))))))
    obtain rfl := oi h
    refine e9 ⟨_, Z, Z, ?_⟩
    exact Done.ret Z Z
   ·refine AWP.skip (e6 (b6 (.u (.j Z Z (.add Z Z Z (by omega) (.v Z Z (.nil ?_)))))))
    obtain rfl := oi h
    refine b6 ⟨_, Z, ?_⟩
    exact Sub.env ⟨Z, Z, Z, Y⟩
  ·intro e s hq
   rcases oo with u | x
   ·try dsimp only at h hq
    obtain ⟨rfl, hs⟩ := hq
    refine ⟨_, hs, ?_⟩
    refine h9 (b6 (.q (.u (.v Z Z (.nil (b6 (.ret ?_)))))))
    obtain rfl := oi h
    exact Done.ret Z Z
   ·try dsimp only at h hq
    obtain ⟨rfl, hs⟩ := hq
    refine ⟨_, Sub.refl _ _, ?_⟩
    refine i5 (e9 ?_)
    obtain rfl := oi h
    exact hs
theorem S0 {av : List Int} {bv : List Int} {r : Bool} (h : G7 av bv = some r) : f9 prog 15 [.c (row 1 intI av), .c (row 1 intI bv)] (.c (bool r)) := by
 unfold f9
 refine FnOk.enter (rs := [.t 4]) func15 Z ntmps15 results15 Z ⟨trivial, Y⟩ (by kernel_rfl) Z ?_
 unfold G7 at h
 refine AWP.q (.u (.v Z Z (.nil (b6 (.q (.q (.u (.j Z Z (S.len Z Z (fun hl7 => .j Z Z (S.len Z Z (fun hl9 => .neq Z Z Z (.nil (b6 (.iteN Z h (fun hc3 h => ?_) (fun hc3 h => ?_))))))))))))))))
 ·refine AWP.q (.u (.v Z Z (.nil (b6 (.ret (e9 ?_))))))
  obtain rfl := oi h
  exact Done.ret Z Z
 ·refine AWP.skip (b6 (.q (.q (.u (.v Z Z (.nil (b6 (.O ?_))))))))
  obtain ⟨oo, ho1, h⟩ := bind_some h
  refine AWP.rngS ho1 (fun iv4 _ => ⟨[(0, .c (row 1 intI av)), (1, .c (row 1 intI bv)), (5, .c (int iv4))], []⟩) (fun o e st => match o with | .inl _ => e = .exit 0 ∧ Sub [] st ⟨[], []⟩ | .inr x => e = .ret ∧ Done [.t 4] (fun t _ => t = .c (bool x)) .ret st) ?_ ?_ ?_ ?_
  ·try dsimp only
   exact Sub.env ⟨Z, Z, Z, Y⟩
  ·intro iv4 s hloiv4 hltiv4 _
   try dsimp only
   refine AWP.q (.q (.u (.j Z Z (.j Z Z (S.len Z Z (fun hl13 => .F Z Z Z (.nil (b6 (.ae Z hltiv4 (.exit (e8 (e8 ⟨Z, ?_⟩))))))))))))
   exact Sub.env trivial
  ·intro iv4 s o hloiv4 hltiv4 h
   unfold L8 at h
   try dsimp only at h ⊢
   refine AWP.q (.q (.u (.j Z Z (.j Z Z (S.len Z Z (fun hl13 => .F Z Z Z (.nil (b6 (.af Z hltiv4 (.skip (b6 (.q (.O (.q ?_))))))))))))))
   obtain ⟨a19, ha19, a23, ha23, h⟩ := b2 h
   refine AWP.drawI mixed Z ?_
   refine i4.consF Z (fun E => AOps.j Z Z .N) Z (.consF Z (fun E => AOps.j Z Z .N) Z (.consF Z (fun E => S.idx ha19 Z Z Z Z .N) Z (.consF Z (fun E => AOps.ad Z Z Z Z .N) Z (.consF Z (fun E => AOps.j Z Z .N) Z (.consF Z (fun E => AOps.j Z Z .N) Z (.consF Z (fun E => S.idx ha23 Z Z Z Z .N) Z (.consF Z (fun E => AOps.ad Z Z Z Z .N) Z (.consF Z (fun E => AOps.neq Z Z Z .N) Z ?_))))))))
   refine i4.done ?_
   dsimp only [k6]
   refine b6 (.iteN Z h (fun hc5 h => ?_) (fun hc5 h => ?_))
   ·refine AWP.q (.u (.v Z Z (.nil (b6 (.ret (i5 (e9 ?_)))))))
    obtain rfl := oi h
    refine e9 ⟨_, Z, Z, ?_⟩
    exact Done.ret Z Z
   ·refine AWP.skip (e6 (b6 (.u (.j Z Z (.add Z Z Z (by omega) (.v Z Z (.nil ?_)))))))
    obtain rfl := oi h
    refine b6 ⟨_, Z, ?_⟩
    exact Sub.env ⟨Z, Z, Z, Y⟩
  ·intro e s hq
   rcases oo with u | x
   ·try dsimp only at h hq
    obtain ⟨rfl, hs⟩ := hq
    refine ⟨_, hs, ?_⟩
    refine h9 (b6 (.q (.u (.v Z Z (.nil (b6 (.ret ?_)))))))
    obtain rfl := oi h
    exact Done.ret Z Z
   ·try dsimp only at h hq
    obtain ⟨rfl, hs⟩ := hq
    refine ⟨_, Sub.refl _ _, ?_⟩
    refine i5 (e9 ?_)
    obtain rfl := oi h
    exact hs
theorem Q5 {r : Bool} (h : C6 = some r) : f9 prog 11 [] (.c (bool r)) := by
 unfold f9
 refine FnOk.enter (rs := [.t 0]) func11 Z ntmps11 results11 Z ⟨trivial, Y⟩ (by kernel_rfl) Z ?_
 unfold C6 at h
 refine AWP.q (.u (.v Z Z (.nil (b6 (.q ?_)))))
 obtain ⟨a6, ha6, a10, ha10, h⟩ := b2 h
 refine AWP.u (.J Z Z Z Z (ah5 ha6) Z (S.lit (f := intI) (l := [1]) (ess := [[int 1]]) Z Z Z Z Z Z Z ⟨⟨.inl Z, Y⟩, Y⟩ Z Z Z (.frzV (id := 0) (l := [1]) (env2 := [(6, .agg (tT a6)), (7, .c (row 1 intI [1]))]) (σ2 := [.dead]) Z Z (by exact ⟨⟨_, Z, ⟨.inl ⟨Z, Z⟩, .inl ⟨Z, Z⟩, .inl ⟨Z, Z⟩, .inl ⟨Z, Z⟩, Y⟩⟩, ⟨_, Z, .inr ⟨_, Z, Z, Z⟩⟩, Y⟩) Z (by exact ⟨trivial, Y⟩) (S.lit (f := f5) (l := [[1]]) (ess := [[row 1 intI [1]]]) Z Z Z Z Z Z Z ⟨⟨.inl Z, Y⟩, Y⟩ Z Z Z (S.lit (f := intI) (l := [1]) (ess := [[int 1]]) Z Z Z Z Z Z Z ⟨⟨.inl Z, Y⟩, Y⟩ Z Z Z ?_)))))
 refine AOps.frzV (id := 1) (l := [[1]]) (env2 := [(6, .agg (tT a6)), (8, .c (row 1 f5 ([[1]]))), (9, .c (.own 2 0 ([1].length)))]) (σ2 := [.dead, .dead, .one (vec 1 intI [1])]) Z Z (by exact ⟨⟨_, Z, ⟨.inl ⟨Z, Z⟩, .inl ⟨Z, Z⟩, .inl ⟨Z, Z⟩, .inl ⟨Z, Z⟩, Y⟩⟩, ⟨_, Z, .inr ⟨_, Z, Z, Z⟩⟩, ⟨_, Z, .inl ⟨Z, Z⟩⟩, Y⟩) Z (by exact ⟨trivial, trivial, FrzB.vec, Y⟩) ?_; refine AOps.frzV (id := 2) (l := [1]) (env2 := [(6, .agg (tT a6)), (8, .c (row 1 f5 ([[1]]))), (9, .c (row 1 intI [1]))]) (σ2 := [.dead, .dead, .dead]) Z Z (by exact ⟨⟨_, Z, ⟨.inl ⟨Z, Z⟩, .inl ⟨Z, Z⟩, .inl ⟨Z, Z⟩, .inl ⟨Z, Z⟩, Y⟩⟩, ⟨_, Z, .inl ⟨Z, Z⟩⟩, ⟨_, Z, .inr ⟨_, Z, Z, Z⟩⟩, Y⟩) Z (by exact ⟨trivial, trivial, trivial, Y⟩) ?_; refine AOps.J Z Z Z Z (P4 ha10) Z ?_
 refine AOps.j Z Z (.ai Z Z Z (.ai Z Z Z (W.alloc Z Z Z Z (.v Z Z (W.storeAgg Z Z Z Z Z Z Z (.nil (b6 (.q ?_))))))))
 obtain ⟨a14, ha14, a18, ha18, h⟩ := b2 h
 refine AWP.u (.J Z Z Z Z (ah5 ha14) Z (S.lit (f := intI) (l := [1]) (ess := [[int 1]]) Z Z Z Z Z Z Z ⟨⟨.inl Z, Y⟩, Y⟩ Z Z Z (.frzV (id := 4) (l := [1]) (env2 := [(1, .c (row 2 j8 a10.1)), (2, .c (.ptr 3 0 0)), (14, .agg (tT a14)), (15, .c (row 1 intI [1]))]) (σ2 := [.dead, .dead, .dead, .one (.cells 2 [[int a10.2.code, int a10.2.index]]), .dead]) Z Z (by exact ⟨⟨_, Z, .inl ⟨Z, Z⟩⟩, ⟨_, Z, .inl ⟨Z, Z⟩⟩, ⟨_, Z, ⟨.inl ⟨Z, Z⟩, .inl ⟨Z, Z⟩, .inl ⟨Z, Z⟩, .inl ⟨Z, Z⟩, Y⟩⟩, ⟨_, Z, .inr ⟨_, Z, Z, Z⟩⟩, Y⟩) Z (by exact ⟨trivial, trivial, trivial, ⟨Z, .inl ⟨Z, Z⟩, .inl ⟨Z, Z⟩, Y⟩, trivial, Y⟩) (S.lit (f := f5) (l := [[1]]) (ess := [[row 1 intI [1]]]) Z Z Z Z Z Z Z ⟨⟨.inl Z, Y⟩, Y⟩ Z Z Z (S.lit (f := intI) (l := [1]) (ess := [[int 1]]) Z Z Z Z Z Z Z ⟨⟨.inl Z, Y⟩, Y⟩ Z Z Z ?_)))))
 refine AOps.frzV (id := 5) (l := [[1]]) (env2 := [(1, .c (row 2 j8 a10.1)), (2, .c (.ptr 3 0 0)), (14, .agg (tT a14)), (16, .c (row 1 f5 ([[1]]))), (17, .c (.own 6 0 ([1].length)))]) (σ2 := [.dead, .dead, .dead, .one (.cells 2 [[int a10.2.code, int a10.2.index]]), .dead, .dead, .one (vec 1 intI [1])]) Z Z (by exact ⟨⟨_, Z, .inl ⟨Z, Z⟩⟩, ⟨_, Z, .inl ⟨Z, Z⟩⟩, ⟨_, Z, ⟨.inl ⟨Z, Z⟩, .inl ⟨Z, Z⟩, .inl ⟨Z, Z⟩, .inl ⟨Z, Z⟩, Y⟩⟩, ⟨_, Z, .inr ⟨_, Z, Z, Z⟩⟩, ⟨_, Z, .inl ⟨Z, Z⟩⟩, Y⟩) Z (by exact ⟨trivial, trivial, trivial, ⟨Z, .inl ⟨Z, Z⟩, .inl ⟨Z, Z⟩, Y⟩, trivial, trivial, FrzB.vec, Y⟩) ?_; refine AOps.frzV (id := 6) (l := [1]) (env2 := [(1, .c (row 2 j8 a10.1)), (2, .c (.ptr 3 0 0)), (14, .agg (tT a14)), (16, .c (row 1 f5 ([[1]]))), (17, .c (row 1 intI [1]))]) (σ2 := [.dead, .dead, .dead, .one (.cells 2 [[int a10.2.code, int a10.2.index]]), .dead, .dead, .dead]) Z Z (by exact ⟨⟨_, Z, .inl ⟨Z, Z⟩⟩, ⟨_, Z, .inl ⟨Z, Z⟩⟩, ⟨_, Z, ⟨.inl ⟨Z, Z⟩, .inl ⟨Z, Z⟩, .inl ⟨Z, Z⟩, .inl ⟨Z, Z⟩, Y⟩⟩, ⟨_, Z, .inl ⟨Z, Z⟩⟩, ⟨_, Z, .inr ⟨_, Z, Z, Z⟩⟩, Y⟩) Z (by exact ⟨trivial, trivial, trivial, ⟨Z, .inl ⟨Z, Z⟩, .inl ⟨Z, Z⟩, Y⟩, trivial, trivial, trivial, Y⟩) ?_; refine AOps.J Z Z Z Z (Y8 ha18) Z ?_
 refine AOps.j Z Z (.ai Z Z Z (.ai Z Z Z (W.alloc Z Z Z Z (.v Z Z (W.storeAgg Z Z Z Z Z Z Z (.nil (b6 ?_)))))))
 obtain ⟨t1, hx2, h⟩ := bind_some h
 refine AWP.seqJ (⟨[(0, .c (bool t1))], []⟩) ?_ ?_
 ·rcases bft (decide (a10.2.code = 0)) with hb3 | hb3
  ·replace hx2 := v8 hb3 hx2
   rcases bft (decide (a18.2.code = 0)) with hb4 | hb4
   ·replace hx2 := v8 hb4 hx2
    obtain ⟨a33, ha33, hx2⟩ := bind_some hx2
    rcases bft (a33) with hb5 | hb5
    ·replace hx2 := F2 hb5 hx2
     obtain ⟨a38, ha38, hx2⟩ := bind_some hx2
     refine AWP.u (W.fieldAddr Z Z Z Z (.E Z Z Z Z Z Z (.ab Z Z Z (.j Z Z (.z Z Z Z hb3 (W.fieldAddr Z Z Z Z (.z Z Z Z hb3 (.E Z Z Z Z Z Z (.z Z Z Z hb3 (.ab Z Z Z (.U Z hb3 Z Z (.j Z Z (.z Z Z Z hb4 (.j Z Z (.z Z Z Z hb4 (.buildA Z Z Z Z (.z Z Z Z hb4 (S.lit (f := j8) (l := [(3, 1)]) (ess := [[int 3, int 1]]) Z Z Z Z Z Z Z ⟨⟨.inl Z, .inl Z, Y⟩, Y⟩ Z Z Z (.z Z Z Z hb4 (.aj Z Z (.cons (.c .imm) (.cons (.c (.own Z Z)) .nil)) Z (G0 ha33) Z (.U Z hb4 Z Z (.j Z Z (.z Z Z Z hb5 (.j Z Z (.z Z Z Z hb5 (S.lit (f := intI) (l := [0]) (ess := [[int 0]]) Z Z Z Z Z Z Z ⟨⟨.inl Z, Y⟩, Y⟩ Z Z Z (.z Z Z Z hb5 (.aj Z Z (.cons (.c .imm) (.cons (.c (.own Z Z)) .nil)) Z (S0 ha38) Z (.U Z hb5 Z Z (.v Z Z (.nil ?_)))))))))))))))))))))))))))))))
     obtain rfl := oi hx2
     refine b6 (Sub.cut ⟨Z, Y⟩ Z trivial Z)
    ·replace hx2 := F0 hb5 hx2
     refine AWP.u (W.fieldAddr Z Z Z Z (.E Z Z Z Z Z Z (.ab Z Z Z (.j Z Z (.z Z Z Z hb3 (W.fieldAddr Z Z Z Z (.z Z Z Z hb3 (.E Z Z Z Z Z Z (.z Z Z Z hb3 (.ab Z Z Z (.U Z hb3 Z Z (.j Z Z (.z Z Z Z hb4 (.j Z Z (.z Z Z Z hb4 (.buildA Z Z Z Z (.z Z Z Z hb4 (S.lit (f := j8) (l := [(3, 1)]) (ess := [[int 3, int 1]]) Z Z Z Z Z Z Z ⟨⟨.inl Z, .inl Z, Y⟩, Y⟩ Z Z Z (.z Z Z Z hb4 (.aj Z Z (.cons (.c .imm) (.cons (.c (.own Z Z)) .nil)) Z (G0 ha33) Z (.U Z hb4 Z Z (.j Z Z (.B Z Z Z hb5 (.B Z Z Z hb5 (.B Z Z Z hb5 (.aa Z hb5 Z Z (.v Z Z (.nil ?_))))))))))))))))))))))))))))
     obtain rfl := oi hx2
     refine b6 (Sub.cut ⟨Z, Y⟩ Z trivial Z)
   ·replace hx2 := v7 hb4 hx2
    refine AWP.u (W.fieldAddr Z Z Z Z (.E Z Z Z Z Z Z (.ab Z Z Z (.j Z Z (.z Z Z Z hb3 (W.fieldAddr Z Z Z Z (.z Z Z Z hb3 (.E Z Z Z Z Z Z (.z Z Z Z hb3 (.ab Z Z Z (.U Z hb3 Z Z (.j Z Z (.B Z Z Z hb4 (.B Z Z Z hb4 (.B Z Z Z hb4 (.B Z Z Z hb4 (.aa Z hb4 Z Z (.j Z Z (.B Z Z Z Z (.B Z Z Z Z (.B Z Z Z Z (.aa Z Z Z Z (.v Z Z (.nil ?_))))))))))))))))))))))))
    obtain rfl := oi hx2
    refine b6 (Sub.cut ⟨Z, Y⟩ Z trivial Z)
  ·replace hx2 := v7 hb3 hx2
   refine AWP.u (W.fieldAddr Z Z Z Z (.E Z Z Z Z Z Z (.ab Z Z Z (.j Z Z (.B Z Z Z hb3 (.B Z Z Z hb3 (.B Z Z Z hb3 (.aa Z hb3 Z Z (.j Z Z (.B Z Z Z Z (.B Z Z Z Z (.B Z Z Z Z (.B Z Z Z Z (.aa Z Z Z Z (.j Z Z (.B Z Z Z Z (.B Z Z Z Z (.B Z Z Z Z (.aa Z Z Z Z (.v Z Z (.nil ?_)))))))))))))))))))))
   obtain rfl := oi hx2
   refine b6 (Sub.cut ⟨Z, Y⟩ Z trivial Z)
 ·refine AWP.ret ?_
  obtain rfl := oi h
  exact Done.ret Z Z
theorem ab7 {sv : List Int} {r : Int} (h : O9 sv = some r) : f9 prog 49 [.c (row 1 intI sv)] (.c (int r)) := by
 unfold f9
 refine FnOk.enter (rs := [.t 2]) func49 Z ntmps49 results49 Z ⟨trivial, Y⟩ (by kernel_rfl) Z ?_
 unfold O9 at h
 refine AWP.q (.u (.v Z Z (.nil (b6 (.q (.u (.v Z Z (.nil (b6 (.q (.q (.u (.v Z Z (.nil (b6 (.O ?_))))))))))))))))
 obtain ⟨w2, ho1, h⟩ := bind_some h
 refine AWP.forS ho1 (fun iv3 w2 => ⟨[(0, .c (row 1 intI sv)), (3, .c (int w2)), (4, .c (int iv3))], []⟩) (fun w2 e st => e = .exit 0 ∧ Sub [] st ⟨[(3, .c (int w2))], []⟩) ?_ ?_ ?_ ?_
 ·try dsimp only
  exact Sub.env ⟨Z, Z, Z, Y⟩
 ·intro iv3 w2 hloiv3 hltiv3 _
  try dsimp only
  refine AWP.q (.q (.u (.j Z Z (.j Z Z (S.len Z Z (fun hl7 => .F Z Z Z (.nil (b6 (.ae Z hltiv3 (.exit (e8 (e8 ⟨Z, ?_⟩))))))))))))
  exact Sub.env ⟨Z, Y⟩
 ·intro iv3 w2 o hloiv3 hltiv3 h
  unfold U1 at h
  try dsimp only at h ⊢
  refine AWP.q (.q (.u (.j Z Z (.j Z Z (S.len Z Z (fun hl7 => .F Z Z Z (.nil (b6 (.af Z hltiv3 (.skip (b6 (.q (.O ?_)))))))))))))
  obtain ⟨a14, ha14, u17, hu17, h⟩ := b2 h
  refine AWP.u (.j Z Z (.j Z Z (.j Z Z (S.idx ha14 Z Z Z Z (.ad Z Z Z Z (.convInt Z Z (S.shl hu17 Z Z Z (S.add Z Z Z (.v Z Z (.nil (e6 (b6 (.u (.j Z Z (.add Z Z Z (by omega) (.v Z Z (.nil ?_)))))))))))))))))
  obtain rfl := oi h
  refine b6 (Sub.env ⟨Z, Z, Z, Y⟩)
 ·intro e s hq
  obtain ⟨rfl, hs⟩ := hq
  refine ⟨_, hs, ?_⟩
  refine h9 (b6 (.q (.u (.j Z Z (.v Z Z (.nil (b6 (.ret ?_))))))))
  obtain rfl := oi h
  exact Done.ret Z Z
theorem ae8 {part : List Int} {l : List Int} {r : Bool} (h : N3 part l = some r) : f9 prog 28 [.c (row 1 intI part), .c (row 1 intI l)] (.c (bool r)) := by
 unfold f9
 refine FnOk.enter (rs := [.t 4]) func28 Z ntmps28 results28 Z ⟨trivial, Y⟩ (by kernel_rfl) Z ?_
 unfold N3 at h
 refine AWP.q (.u (.v Z Z (.nil (b6 (.q (.q (.u (.v Z Z (.nil (b6 (.O ?_)))))))))))
 obtain ⟨oo, ho1, h⟩ := bind_some h
 refine AWP.rngS ho1 (fun iv3 _ => ⟨[(0, .c (row 1 intI part)), (1, .c (row 1 intI l)), (5, .c (int iv3))], []⟩) (fun o e st => match o with | .inl _ => e = .exit 0 ∧ Sub [] st ⟨[], []⟩ | .inr x => e = .ret ∧ Done [.t 4] (fun t _ => t = .c (bool x)) .ret st) ?_ ?_ ?_ ?_
 ·try dsimp only
  exact Sub.env ⟨Z, Z, Z, Y⟩
 ·intro iv3 s hloiv3 hltiv3 _
  try dsimp only
  refine AWP.q (.q (.u (.j Z Z (.j Z Z (S.len Z Z (fun hl8 => .F Z Z Z (.nil (b6 (.ae Z hltiv3 (.exit (e8 (e8 ⟨Z, ?_⟩))))))))))))
  exact Sub.env trivial
 ·intro iv3 s o hloiv3 hltiv3 h
  unfold V0 at h
  try dsimp only at h ⊢
  refine AWP.q (.q (.u (.j Z Z (.j Z Z (S.len Z Z (fun hl8 => .F Z Z Z (.nil (b6 (.af Z hltiv3 (.skip (b6 (.q (.O (.q ?_))))))))))))))
  obtain ⟨a15, ha15, a17, ha17, h⟩ := b2 h
  refine AWP.u (.j Z Z (.j Z Z (.j Z Z (S.idx ha15 Z Z Z Z (.ad Z Z Z Z (.J Z Z Z Z (C9 ha17) Z (.ac Z Z (.nil (b6 (.ah Z h (fun hc4 h => ?_) (fun hc4 h => ?_)))))))))))
  ·refine AWP.q (.u (.v Z Z (.nil (b6 (.ret (i5 (e9 ?_)))))))
   obtain rfl := oi h
   refine e9 ⟨_, Z, Z, ?_⟩
   exact Done.ret Z Z
  ·refine AWP.skip (e6 (b6 (.u (.j Z Z (.add Z Z Z (by omega) (.v Z Z (.nil ?_)))))))
   obtain rfl := oi h
   refine b6 ⟨_, Z, ?_⟩
   exact Sub.env ⟨Z, Z, Z, Y⟩
 ·intro e s hq
  rcases oo with u | x
  ·try dsimp only at h hq
   obtain ⟨rfl, hs⟩ := hq
   refine ⟨_, hs, ?_⟩
   refine h9 (b6 (.q (.u (.v Z Z (.nil (b6 (.ret ?_)))))))
   obtain rfl := oi h
   exact Done.ret Z Z
  ·try dsimp only at h hq
   obtain ⟨rfl, hs⟩ := hq
   refine ⟨_, Sub.refl _ _, ?_⟩
   refine i5 (e9 ?_)
   obtain rfl := oi h
   exact hs
theorem ad3 {t : f7} {sv : List Int} {op : Int} {r : Bool} (h : K5 t sv op = some r) : f9 prog 29 [.agg (tT t), .c (row 1 intI sv), .c (int op)] (.c (bool r)) := by
 unfold f9
 refine FnOk.enter (rs := [.t 6]) func29 Z ntmps29 results29 Z ⟨trivial, Y⟩ (by kernel_rfl) Z ?_
 unfold K5 at h
 refine AWP.q (.u (W.box Z Z Z Z Z Z (.v Z Z (.nil (b6 (.q ?_))))))
 obtain ⟨a10, ha10, a14, ha14, h⟩ := b2 h
 refine AWP.u (W.fieldAddr Z Z Z Z (.E Z Z Z Z Z Z (.j Z Z (S.idx ha10 Z Z Z Z (W.fieldAddrI Z Z Z Z (.ad Z Z Z Z (.j Z Z (.J Z Z Z Z (ae8 ha14) Z (.v Z Z (.nil (b6 (.ret ?_))))))))))))
 obtain rfl := oi h
 exact Done.ret Z Z
theorem ag9 {t : f7} {sv : List Int} {op : Int} {r : (List Int)} (h : P8 t sv op = some r) : m7 prog 31 [.agg (tT t), .c (row 1 intI sv), .c (int op)] 1 (List.map intI r) := by
 unfold m7
 refine FnOk.enter (rs := [.t 6]) func31 Z ntmps31 results31 Z ⟨trivial, Y⟩ (by kernel_rfl) Z ?_
 unfold P8 at h
 refine AWP.q (.u (W.box Z Z Z Z Z Z (.v Z Z (.nil (b6 (.q (.u (.v Z Z (.nil (b6 (.q (.q (.u (.v Z Z (.nil (b6 (.O (.virtV 1 intI 7 Z Z Z ?_))))))))))))))))))
 obtain ⟨hnp5, h⟩ := ite_none h
 obtain ⟨c4, ho1, h⟩ := bind_some h
 refine AWP.forS ho1 (fun p5 c4 => ⟨[(1, .c (row 1 intI sv)), (2, .c (int op)), (3, .c (.ptr 0 0 0)), (7, .c (.own 1 0 c4.length)), (8, .c (int p5))], [.one (.cells 4 [(tT t)]), .one (vec 1 intI c4)]⟩) (fun c4 e st => e = .exit 0 ∧ Sub [] st ⟨[(7, .c (.own 1 0 c4.length))], [.one (.cells 4 [(tT t)]), .one (vec 1 intI c4)]⟩) ?_ ?_ ?_ ?_
 ·try dsimp only
  exact Sub.env ⟨Z, Z, Z, (E0 (by first | rfl | simp only [List.length_set])), Z, Y⟩
 ·intro p5 c4 hlop5 hltp5 _
  try dsimp only
  refine AWP.q (.q (.u (.j Z Z (W.fieldAddr Z Z Z Z (.E Z Z Z Z Z Z (.F Z Z Z (.nil (b6 (.ae Z hltp5 (.exit (e8 (e8 ⟨Z, ?_⟩))))))))))))
  exact Sub.env ⟨Z, Y⟩
 ·intro p5 c4 o hlop5 hltp5 h
  unfold Y5 at h
  try dsimp only at h ⊢
  refine AWP.q (.q (.u (.j Z Z (W.fieldAddr Z Z Z Z (.E Z Z Z Z Z Z (.F Z Z Z (.nil (b6 (.af Z hltp5 (.skip (b6 ?_)))))))))))
  obtain ⟨c6, hx7, h⟩ := bind_some h
  refine AWP.seqJ (⟨[(1, .c (row 1 intI sv)), (2, .c (int op)), (3, .c (.ptr 0 0 0)), (7, .c (.own 3 0 c6.length)), (8, .c (int p5))], [.one (.cells 4 [(tT t)]), .dead, .dead, .one (vec 1 intI c6)]⟩) ?_ ?_
  ·refine AWP.O ?_
   obtain ⟨t8, hx9, hx7⟩ := bind_some hx7
   refine AWP.seqJ (⟨[(1, .c (row 1 intI sv)), (2, .c (int op)), (3, .c (.ptr 0 0 0)), (7, .c (.own 1 0 c4.length)), (8, .c (int p5)), (38, .c (bool t8))], [.one (.cells 4 [(tT t)]), .one (vec 1 intI c4)]⟩) ?_ ?_
   ·obtain ⟨a18, ha18, a22, ha22, hx9⟩ := b2 hx9
    rcases bft (a22) with hb10 | hb10
    ·replace hx9 := F2 hb10 hx9
     refine AWP.u (W.fieldAddr Z Z Z Z (.E Z Z Z Z Z Z (.j Z Z (S.idx ha18 Z Z Z Z (W.fieldAddrI Z Z Z Z (.ad Z Z Z Z (.j Z Z (.J Z Z Z Z (C9 ha22) Z (.j Z Z (.B Z Z Z hb10 (.B Z Z Z hb10 (.B Z Z Z hb10 (.B Z Z Z hb10 (.ag Z Z Z (.ag Z Z Z (.ag Z Z Z (.ag Z Z Z (.ag Z Z Z (.ag Z Z Z (.ag Z Z Z (.ag Z Z Z (.ag Z Z Z (.B Z Z Z hb10 (.U Z hb10 Z Z (.nil ?_)))))))))))))))))))))))))
     obtain rfl := oi hx9
     refine b6 (Sub.env ⟨Z, Z, Z, Z, Z, Z, Y⟩)
    ·replace hx9 := F0 hb10 hx9
     obtain ⟨a26, ha26, hx9⟩ := bind_some hx9
     rcases bft (a26) with hb11 | hb11
     ·replace hx9 := F2 hb11 hx9
      obtain ⟨a31, ha31, a35, ha35, hx9⟩ := b2 hx9
      refine AWP.u (W.fieldAddr Z Z Z Z (.E Z Z Z Z Z Z (.j Z Z (S.idx ha18 Z Z Z Z (W.fieldAddrI Z Z Z Z (.ad Z Z Z Z (.j Z Z (.J Z Z Z Z (C9 ha22) Z (.j Z Z (.z Z Z Z hb10 (.j Z Z (.z Z Z Z hb10 (.j Z Z (.z Z Z Z hb10 (.J Z Z Z Z (C9 ha26) Z (.z Z Z Z hb10 (.j Z Z (.z Z Z Z hb11 (W.fieldAddr Z Z Z Z (.z Z Z Z hb11 (.E Z Z Z Z Z Z (.z Z Z Z hb11 (.j Z Z (.z Z Z Z hb11 (S.idx ha31 Z Z Z Z (.z Z Z Z hb11 (W.fieldAddrI Z Z Z Z (.z Z Z Z hb11 (.ad Z Z Z Z (.z Z Z Z hb11 (.j Z Z (.z Z Z Z hb11 (.J Z Z Z Z (C9 ha35) Z (.z Z Z Z hb11 (.ac Z Z (.z Z Z Z hb10 (.U Z hb11 Z Z (.aa Z hb10 Z Z (.nil ?_)))))))))))))))))))))))))))))))))))))))
      obtain rfl := oi hx9
      refine b6 (Sub.env ⟨Z, Z, Z, Z, Z, Z, Y⟩)
     ·replace hx9 := F0 hb11 hx9
      refine AWP.u (W.fieldAddr Z Z Z Z (.E Z Z Z Z Z Z (.j Z Z (S.idx ha18 Z Z Z Z (W.fieldAddrI Z Z Z Z (.ad Z Z Z Z (.j Z Z (.J Z Z Z Z (C9 ha22) Z (.j Z Z (.z Z Z Z hb10 (.j Z Z (.z Z Z Z hb10 (.j Z Z (.z Z Z Z hb10 (.J Z Z Z Z (C9 ha26) Z (.z Z Z Z hb10 (.j Z Z (.B Z Z Z hb11 (.B Z Z Z hb11 (.B Z Z Z hb11 (.B Z Z Z hb11 (.B Z Z Z hb11 (.B Z Z Z hb11 (.B Z Z Z hb11 (.B Z Z Z hb11 (.B Z Z Z hb11 (.z Z Z Z hb10 (.aa Z hb11 Z Z (.aa Z hb10 Z Z (.nil ?_))))))))))))))))))))))))))))))
      obtain rfl := oi hx9
      refine b6 (Sub.env ⟨Z, Z, Z, Z, Z, Z, Y⟩)
   ·refine AWP.ah Z hx7 (fun hc12 hx7 => ?_) (fun hc12 hx7 => ?_)
    ·obtain ⟨a42, ha42, hx7⟩ := bind_some hx7
     refine AWP.u (.j Z Z (.j Z Z (S.lit (f := intI) (l := [p5]) (ess := [[int p5]]) Z Z Z Z Z Z Z ⟨⟨.inl Z, Y⟩, Y⟩ Z Z Z (S.append (f := intI) ha42 Z Z Z Z Z Z (.own Z Z) Z Z Z Z (.v Z Z (.nil (e6 ?_)))))))
     obtain rfl := oi hx7
     refine b6 (Sub.cut ⟨Z, Z, Z, Z, Z, Y⟩ Z ⟨.one Z, .dead, .dead, .vec, Y⟩ Z)
    ·refine AWP.skip (e6 ?_)
     obtain rfl := oi hx7
     refine b6 ((Sub.move (env' := [(1, .c (row 1 intI sv)), (2, .c (int op)), (3, .c (.ptr 0 0 0)), (7, .c (.own 3 0 c4.length)), (8, .c (int p5))]) (σ' := [.one (.cells 4 [(tT t)]), .dead, .dead, .one (vec 1 intI c4)]) 3 1 Z Z Z ⟨Z, Z, Z, Z, Z, Y⟩ Z ⟨⟨Z, Z⟩, trivial, trivial, ⟨Blk.im_ok _ _ _, i8 Z⟩, Y⟩).trans (Sub.env ⟨Z, Z, Z, Z, Z, Y⟩))
  ·refine AWP.u (.j Z Z (.add Z Z Z (by omega) (.v Z Z (.nil ?_))))
   obtain rfl := oi h
   refine b6 ((Sub.move (env' := [(1, .c (row 1 intI sv)), (2, .c (int op)), (3, .c (.ptr 0 0 0)), (7, .c (.own 1 0 c6.length)), (8, .c (int (p5 + 1)))]) (σ' := [.one (.cells 4 [(tT t)]), .one (vec 1 intI c6), .dead]) 1 3 Z Z Z ⟨Z, Z, Z, Z, Z, Y⟩ Z ⟨⟨Z, Z⟩, ⟨Blk.im_ok _ _ _, i8 Z⟩, trivial, Y⟩).trans (Sub.cut ⟨Z, Z, Z, Z, Z, Y⟩ Z ⟨.one Z, .vec, Y⟩ Z))
 ·intro e s hq
  obtain ⟨rfl, hs⟩ := hq
  refine ⟨_, hs, ?_⟩
  refine h9 (b6 (.q (.u (.j Z Z (.v Z Z (.nil (b6 (.ret ?_))))))))
  obtain rfl := oi h
  exact Done.ret Z (Fresh.mk Z Z)
theorem ah1 {t : f7} {sv : List Int} {r : (List (List Int)) × Bool} (h : M0 t sv = some r) : f9 prog 27 [.agg (tT t), .c (row 1 intI sv)] (.tup [.c (row 1 f5 r.1), .c (bool r.2)]) := by
 unfold f9
 refine FnOk.enter (rs := [.t 4, .t 5]) func27 Z ntmps27 results27 Z ⟨trivial, trivial, Y⟩ (by kernel_rfl) Z ?_
 unfold M0 at h
 refine AWP.q (.u (W.box Z Z Z Z Z Z (.v Z Z (.v Z Z (.nil (b6 (.q (.u (.j Z Z (S.lit (f := f5) (l := [sv]) (ess := [[row 1 intI sv]]) Z Z Z Z Z Z Z ⟨⟨.inl Z, Y⟩, Y⟩ Z Z Z (.v Z Z (.nil (b6 (.q ?_))))))))))))))
 obtain ⟨a14, ha14, h⟩ := bind_some h
 refine AWP.u (.j Z Z (.J Z Z Z Z (ab7 ha14) Z (S.lit (f := intI) (l := [a14]) (ess := [[int a14]]) Z Z Z Z Z Z Z ⟨⟨.inl Z, Y⟩, Y⟩ Z Z Z (.v Z Z (.nil (b6 (.q (.q (.u (.v Z Z (.nil (b6 (.O ?_)))))))))))))
 obtain ⟨oo, ho1, h⟩ := bind_some h
 refine AWP.loopS ho1 (fun (c3, c4, iv5) => ⟨[(2, .c (.ptr 0 0 0)), (6, .c (.own 1 0 c3.length)), (7, .c (.own 2 0 c4.length)), (8, .c (int iv5))], [.one (.cells 4 [(tT t)]), .one (vec 1 f5 c3), .one (vec 1 intI c4)]⟩) (fun o e st => match o with | .inl c6 => e = .exit 0 ∧ Sub [] st ⟨[(6, .c (.own 1 0 c6.length))], [.dead, .one (vec 1 f5 c6)]⟩ | .inr x => e = .ret ∧ Done [.t 4, .t 5] (fun t _ => t = .tup [.c (row 1 f5 x.1), .c (bool x.2)]) .ret st) ?_ ?_ ?_
 ·try dsimp only
  exact Sub.env ⟨Z, Z, Z, Z, Y⟩
 ·intro s o h
  obtain ⟨c3, c4, iv5⟩ := s
  unfold G5 at h
  try dsimp only at h ⊢
  refine AWP.q (.q (.u (.j Z Z (.j Z Z (S.lenO Z Z Z (fun hl18 => .F Z Z Z (.nil (b6 (.ite Z h (fun hc7 h => ?_) (fun hc7 h => ?_))))))))))
  ·refine AWP.skip (b6 (.q (.O (.q (.u (.v Z Z (.nil (b6 (.O ?_)))))))))
   obtain ⟨oo, ho2, h⟩ := bind_some h
   refine AWP.rngS ho2 (fun op10 (c8, c9) => ⟨[(2, .c (.ptr 0 0 0)), (6, .c (.own 1 0 c8.length)), (7, .c (.own 2 0 c9.length)), (8, .c (int iv5)), (9, .c (int op10))], [.one (.cells 4 [(tT t)]), .one (vec 1 f5 c8), .one (vec 1 intI c9)]⟩) (fun o e st => match o with | .inl (c8, c9) => e = .exit 2 ∧ Sub [] st ⟨[(2, .c (.ptr 0 0 0)), (6, .c (.own 1 0 c8.length)), (7, .c (.own 2 0 c9.length)), (8, .c (int iv5))], [.one (.cells 4 [(tT t)]), .one (vec 1 f5 c8), .one (vec 1 intI c9)]⟩ | .inr x => e = .ret ∧ Done [.t 4, .t 5] (fun t _ => t = .tup [.c (row 1 f5 x.1), .c (bool x.2)]) .ret st) ?_ ?_ ?_ ?_
   ·try dsimp only
    exact Sub.env ⟨Z, Z, Z, Z, Z, Y⟩
   ·intro op10 s hloop10 hltop10 _
    obtain ⟨c8, c9⟩ := s
    try dsimp only
    refine AWP.q (.q (.u (.j Z Z (W.fieldAddr Z Z Z Z (.E Z Z Z Z Z Z (S.len Z Z (fun hl25 => .F Z Z Z (.nil (b6 (.ae Z hltop10 (.exit (e8 (e8 ⟨Z, ?_⟩)))))))))))))
    exact Sub.env ⟨Z, Z, Z, Z, Y⟩
   ·intro op10 s o hloop10 hltop10 h
    obtain ⟨c8, c9⟩ := s
    unfold x6 at h
    try dsimp only at h ⊢
    refine AWP.q (.q (.u (.j Z Z (W.fieldAddr Z Z Z Z (.E Z Z Z Z Z Z (S.len Z Z (fun hl25 => .F Z Z Z (.nil (b6 (.af Z hltop10 (.skip (b6 (.seqF (C5) o (fun (c11, c12) => ⟨[(2, .c (.ptr 0 0 0)), (6, .c (.own 1 0 c11.length)), (7, .c (.own 2 0 c12.length)), (8, .c (int iv5)), (9, .c (int op10))], [.one (.cells 4 [(tT t)]), .one (vec 1 f5 c11), .one (vec 1 intI c12)]⟩) (fun x h => ?_) ?_)))))))))))))
    ·obtain ⟨c11, c12⟩ := x
     unfold C5 at h
     try dsimp only at h ⊢
     refine AWP.u (.j Z Z (.add Z Z Z (by omega) (.v Z Z (.nil ?_))))
     obtain rfl := oi h
     refine b6 ⟨_, Z, ?_⟩
     exact Sub.env ⟨Z, Z, Z, Z, Z, Y⟩
    ·refine AWP.O (.q (.q ?_))
     obtain ⟨a32, ha32, a35, ha35, h⟩ := b2 h
     refine AWP.drawI mixed Z ?_
     refine i4.consF Z (fun E => W.loadAgg Z Z Z Z Z Z Z .N) Z (.consF Z (fun E => AOps.j Z Z .N) Z (.consF Z (fun E => AOps.j Z Z .N) Z (.consF Z (fun E => S.idxO ha32 Z Z Z Z Z .N) Z (.consF Z (fun E => S.loadO ha32 Z Z Z Z Z .N) Z (.consF Z (fun E => AOps.j Z Z .N) Z (.consF Z (fun E => AOps.J Z Z Z Z (ad3 ha35) Z .N) Z (.consF Z (fun E => AOps.ac Z Z .N) Z ?_)))))))
     refine i4.done ?_
     dsimp only [k6]
     refine b6 (.ah Z h (fun hc13 h => ?_) (fun hc13 h => ?_))
     ·refine AWP.exit (e8 (h9 (b6 ⟨_, h, ?_⟩)))
      exact Sub.env ⟨Z, Z, Z, Z, Z, Y⟩
     ·refine AWP.skip (b6 (.q ?_))
      obtain ⟨a40, ha40, a43, ha43, h⟩ := b2 h
      refine AWP.drawEI [6] mixed Z Z Z ?_
      refine f8.consN Z Z (fun E => W.loadAgg Z Z Z Z Z Z Z .N) Z (.consN Z Z (fun E => AOps.j Z Z .N) Z (.consN Z Z (fun E => AOps.j Z Z .N) Z (.consN Z Z (fun E => S.idxO ha40 Z Z Z Z Z .N) Z (.consN Z Z (fun E => S.loadO ha40 Z Z Z Z Z .N) Z (.consN Z Z (fun E => AOps.j Z Z .N) Z ?_)))))
      apply f8.consE; exact Z; exact Z; intro E
      refine S.fresh Z Z Z Z (ag9 ha43) Z Z .N
      exact Z
      exact Z
      refine f8.consN Z Z (fun E => AOps.v Z Z .N) Z ?_
      refine f8.done Z ?_ ?_
      ·refine e7.cons Z Z ?_ ?_
       refine b8.go Z Z (fun E => W.loadAgg Z Z Z Z Z Z Z .N) ?_
       refine b8.skip Z (b8.nil)
       refine e7.cons Z Z ?_ ?_
       refine b8.go Z Z (fun E => AOps.j Z Z .N) ?_
       refine b8.skip Z (b8.nil)
       refine e7.cons Z Z ?_ ?_
       refine b8.go Z Z (fun E => AOps.j Z Z .N) ?_
       refine b8.skip Z (b8.nil)
       refine e7.cons Z Z ?_ ?_
       refine b8.go Z Z (fun E => S.idxO ha40 Z Z Z Z Z .N) ?_
       refine b8.skip Z (b8.nil)
       refine e7.cons Z Z ?_ ?_
       refine b8.go Z Z (fun E => S.loadO ha40 Z Z Z Z Z .N) ?_
       refine b8.skip Z (b8.nil)
       refine e7.cons Z Z ?_ ?_
       refine b8.go Z Z (fun E => AOps.j Z Z .N) ?_
       refine b8.skip Z (b8.nil)
       refine e7.skip Z ?_
       refine e7.cons Z Z ?_ ?_
       refine b8.skip Z ?_
       refine b8.go Z Z (fun E => AOps.v Z Z .N) ?_
       exact b8.nil
       exact e7.nil
      dsimp only [k6]
      refine b6 (.q (.q ?_))
      obtain ⟨a46, ha46, a47, ha47, h⟩ := b2 h
      refine AWP.u (.j Z Z (.j Z Z (.aj Z Z (.cons (.c (.own Z Z)) .nil) Z (ab7 ha46) Z (.aj Z Z (.cons (.c (.own Z Z)) (.cons (.c .imm) .nil)) Z (C9 ha47) Z (.nil (b6 (.ah Z h (fun hc14 h => ?_) (fun hc14 h => ?_))))))))
      ·refine AWP.exit (e8 (h9 (b6 ⟨_, h, ?_⟩)))
       exact Sub.cut ⟨Z, Z, Z, Z, Z, Y⟩ Z ⟨.one Z, .vec, .vec, Y⟩ Z
      ·refine AWP.skip (b6 (.q (.q (.u (.j Z Z (S.lenO Z Z Z (fun hl49 => .ab Z Z Z (.nil (b6 (.ite Z h (fun hc15 h => ?_) (fun hc15 h => ?_)))))))))))
       ·refine AWP.q (.u (.v Z Z (.v Z Z (.nil (b6 (.nilrow 1 4 Z (.ret (e9 (i5 (e9 ?_))))))))))
        obtain rfl := oi h
        refine e9 ⟨_, Z, Z, ?_⟩
        exact Done.ret Z Z
       ·refine AWP.skip (b6 (.q ?_))
        obtain ⟨a54, ha54, h⟩ := bind_some h
        refine AWP.u (.j Z Z (.j Z Z (.frzV (id := 3) (l := a43) (env2 := [(2, .c (.ptr 0 0 0)), (7, .c (.own 2 0 c9.length)), (8, .c (int iv5)), (9, .c (int op10)), (10, .c (row 1 intI a43)), (51, .c (.own 1 0 c8.length)), (52, .c (row 1 intI a43))]) (σ2 := [.one (.cells 4 [(tT t)]), .one (vec 1 f5 c8), .one (vec 1 intI c9), .dead]) Z Z (by exact ⟨⟨_, Z, .inl ⟨Z, Z⟩⟩, ⟨_, Z, .inl ⟨Z, Z⟩⟩, ⟨_, Z, .inl ⟨Z, Z⟩⟩, ⟨_, Z, .inl ⟨Z, Z⟩⟩, ⟨_, Z, .inr ⟨_, Z, Z, Z⟩⟩, ⟨_, Z, .inl ⟨Z, Z⟩⟩, ⟨_, Z, .inr ⟨_, Z, Z, Z⟩⟩, Y⟩) Z (by exact ⟨⟨Z, .inl ⟨Z, Z⟩, .inl ⟨Z, Z⟩, .inl ⟨Z, Z⟩, .inl ⟨Z, Z⟩, Y⟩, FrzB.vec, FrzB.vec, trivial, Y⟩) (S.lit (f := f5) (l := [a43]) (ess := [[row 1 intI a43]]) Z Z Z Z Z Z Z ⟨⟨.inl Z, Y⟩, Y⟩ Z Z Z (S.append (f := f5) ha54 Z Z Z Z Z Z (.own Z Z) Z Z Z Z (.v Z Z (.nil (b6 (.j (env' := [(2, .c (.ptr 0 0 0)), (6, .c (.own 1 0 a54.length)), (7, .c (.own 2 0 c9.length)), (8, .c (int iv5)), (9, .c (int op10)), (10, .c (row 1 intI a43))]) (σ' := [.one (.cells 4 [(tT t)]), .one (vec 1 f5 a54), .one (vec 1 intI c9), .dead, .one (vec 1 f5 [a43])]) 1 5 Z Z Z ⟨Z, Z, Z, Z, Z, Z, Y⟩ Z ⟨⟨Z, Z⟩, ⟨Blk.im_ok _ _ _, i8 Z⟩, ⟨Blk.im_ok _ _ _, i8 Z⟩, trivial, ⟨Blk.im_ok _ _ _, i8 Z⟩, Y⟩ ?_)))))))))
        obtain ⟨a57, ha57, a59, ha59, h⟩ := b2 h
        refine AWP.u (.j Z Z (.j Z Z (.J Z Z Z Z (ab7 ha57) Z (S.lit (f := intI) (l := [a57]) (ess := [[int a57]]) Z Z Z Z Z Z Z ⟨⟨.inl Z, Y⟩, Y⟩ Z Z Z (S.append (f := intI) ha59 Z Z Z Z Z Z (.own Z Z) Z Z Z Z (.v Z Z (.nil (e6 (b6 ⟨_, h, ?_⟩)))))))))
        exact (Sub.move (env' := [(2, .c (.ptr 0 0 0)), (6, .c (.own 1 0 a54.length)), (7, .c (.own 2 0 a59.length)), (8, .c (int iv5)), (9, .c (int op10))]) (σ' := [.one (.cells 4 [(tT t)]), .one (vec 1 f5 a54), .one (vec 1 intI a59), .dead, .one (vec 1 f5 [a43]), .one (vec 1 intI [a57])]) 2 6 Z Z Z ⟨Z, Z, Z, Z, Z, Y⟩ Z ⟨⟨Z, Z⟩, ⟨Blk.im_ok _ _ _, i8 Z⟩, ⟨Blk.im_ok _ _ _, i8 Z⟩, trivial, ⟨Blk.im_ok _ _ _, i8 Z⟩, ⟨Blk.im_ok _ _ _, i8 Z⟩, Y⟩).trans (Sub.cut ⟨Z, Z, Z, Z, Z, Y⟩ Z ⟨.one Z, .vec, .vec, Y⟩ Z)
   ·intro e s hq
    rcases oo with ⟨c8, c9⟩ | x
    ·try dsimp only at h hq
     obtain ⟨rfl, hs⟩ := hq
     refine ⟨_, hs, ?_⟩
     refine h9 (e6 (b6 (.u (.j Z Z (S.add Z Z Z (.v Z Z (.nil ?_)))))))
     obtain rfl := oi h
     refine b6 ⟨_, Z, ?_⟩
     exact Sub.env ⟨Z, Z, Z, Z, Y⟩
    ·try dsimp only at h hq
     obtain ⟨rfl, hs⟩ := hq
     refine ⟨_, Sub.refl _ _, ?_⟩
     refine i5 (i5 (e9 ?_))
     obtain rfl := oi h
     refine e9 ⟨_, Z, Z, ?_⟩
     exact hs
  ·refine AWP.exit (e8 ?_)
   obtain rfl := oi h
   refine e8 ⟨_, Z, Z, ?_⟩
   exact Sub.cut ⟨Z, Y⟩ Z ⟨.dead, .vec, Y⟩ Z
 ·intro e s hq
  rcases oo with c6 | x
  ·try dsimp only at h hq
   obtain ⟨rfl, hs⟩ := hq
   refine ⟨_, hs, ?_⟩
   refine h9 (b6 (.q (.u (.j Z Z (.v Z Z (.v Z Z (.nil (b6 (.frzV (id := 1) (l := c6) (env2 := [(4, .c (row 1 f5 c6)), (5, .c (bool true))]) (σ2 := [.dead, .dead]) Z Z (by exact ⟨⟨_, Z, .inr ⟨_, Z, Z, Z⟩⟩, ⟨_, Z, .inl ⟨Z, Z⟩⟩, Y⟩) Z (by exact ⟨trivial, trivial, Y⟩) (.ret ?_))))))))))
   obtain rfl := oi h
   exact Done.ret Z Z
  ·try dsimp only at h hq
   obtain ⟨rfl, hs⟩ := hq
   refine ⟨_, Sub.refl _ _, ?_⟩
   refine i5 (e9 ?_)
   obtain rfl := oi h
   exact hs
theorem ref1_Reached_ok {t : f7} {r : (List (List Int)) × Bool} (h : O8 t = some r) : f9 prog 12 [.agg (tT t)] (.tup [.c (row 1 f5 r.1), .c (bool r.2)]) := by
 unfold f9
 refine FnOk.enter (rs := [.t 2, .t 3]) func12 Z ntmps12 results12 Z ⟨trivial, trivial, Y⟩ (by kernel_rfl) Z ?_
 unfold O8 at h
 refine AWP.q (.u (W.box Z Z Z Z Z Z (.v Z Z (.v Z Z (.nil (b6 (.q ?_)))))))
 obtain ⟨a7, ha7, h⟩ := bind_some h
 refine AWP.u (W.loadAgg Z Z Z Z Z Z Z (W.fieldAddr Z Z Z Z (.E Z Z Z Z Z Z (.J Z Z Z Z (ah1 ha7) Z (.ai Z Z Z (.ai Z Z Z (.v Z Z (.v Z Z (.nil (b6 (.ret ?_)))))))))))
 obtain rfl := oi h
 exact Done.ret Z Z
theorem ref1_Ints_ok {av : List Int} {bv : List Int} {r : Bool} (h : X4 av bv = some r) : f9 prog 51 [.c (row 1 intI av), .c (row 1 intI bv)] (.c (bool r)) := by
 unfold f9
 refine FnOk.enter (rs := [.t 4]) func51 Z ntmps51 results51 Z ⟨trivial, Y⟩ (by kernel_rfl) Z ?_
 unfold X4 at h
 refine AWP.q (.u (.v Z Z (.nil (b6 (.q (.q (.u (.j Z Z (S.len Z Z (fun hl7 => .j Z Z (S.len Z Z (fun hl9 => .neq Z Z Z (.nil (b6 (.iteN Z h (fun hc3 h => ?_) (fun hc3 h => ?_))))))))))))))))
 ·refine AWP.q (.u (.v Z Z (.nil (b6 (.ret (e9 ?_))))))
  obtain rfl := oi h
  exact Done.ret Z Z
 ·refine AWP.skip (b6 (.q (.q (.u (.v Z Z (.nil (b6 (.O ?_))))))))
  obtain ⟨oo, ho1, h⟩ := bind_some h
  refine AWP.rngS ho1 (fun iv4 _ => ⟨[(0, .c (row 1 intI av)), (1, .c (row 1 intI bv)), (5, .c (int iv4))], []⟩) (fun o e st => match o with | .inl _ => e = .exit 0 ∧ Sub [] st ⟨[], []⟩ | .inr x => e = .ret ∧ Done [.t 4] (fun t _ => t = .c (bool x)) .ret st) ?_ ?_ ?_ ?_
  ·try dsimp only
   exact Sub.env ⟨Z, Z, Z, Y⟩
  ·intro iv4 s hloiv4 hltiv4 _
   try dsimp only
   refine AWP.q (.q (.u (.j Z Z (.j Z Z (S.len Z Z (fun hl13 => .F Z Z Z (.nil (b6 (.ae Z hltiv4 (.exit (e8 (e8 ⟨Z, ?_⟩))))))))))))
   exact Sub.env trivial
  ·intro iv4 s o hloiv4 hltiv4 h
   unfold ab8 at h
   try dsimp only at h ⊢
   refine AWP.q (.q (.u (.j Z Z (.j Z Z (S.len Z Z (fun hl13 => .F Z Z Z (.nil (b6 (.af Z hltiv4 (.skip (b6 (.q (.O (.q ?_))))))))))))))
   obtain ⟨a19, ha19, a23, ha23, h⟩ := b2 h
   refine AWP.drawI mixed Z ?_
   refine i4.consF Z (fun E => AOps.j Z Z .N) Z (.consF Z (fun E => AOps.j Z Z .N) Z (.consF Z (fun E => S.idx ha19 Z Z Z Z .N) Z (.consF Z (fun E => AOps.ad Z Z Z Z .N) Z (.consF Z (fun E => AOps.j Z Z .N) Z (.consF Z (fun E => AOps.j Z Z .N) Z (.consF Z (fun E => S.idx ha23 Z Z Z Z .N) Z (.consF Z (fun E => AOps.ad Z Z Z Z .N) Z (.consF Z (fun E => AOps.neq Z Z Z .N) Z ?_))))))))
   refine i4.done ?_
   dsimp only [k6]
   refine b6 (.iteN Z h (fun hc5 h => ?_) (fun hc5 h => ?_))
   ·refine AWP.q (.u (.v Z Z (.nil (b6 (.ret (i5 (e9 ?_)))))))
    obtain rfl := oi h
    refine e9 ⟨_, Z, Z, ?_⟩
    exact Done.ret Z Z
   ·refine AWP.skip (e6 (b6 (.u (.j Z Z (.add Z Z Z (by omega) (.v Z Z (.nil ?_)))))))
    obtain rfl := oi h
    refine b6 ⟨_, Z, ?_⟩
    exact Sub.env ⟨Z, Z, Z, Y⟩
  ·intro e s hq
   rcases oo with u | x
   ·try dsimp only at h hq
    obtain ⟨rfl, hs⟩ := hq
    refine ⟨_, hs, ?_⟩
    refine h9 (b6 (.q (.u (.v Z Z (.nil (b6 (.ret ?_)))))))
    obtain rfl := oi h
    exact Done.ret Z Z
   ·try dsimp only at h hq
    obtain ⟨rfl, hs⟩ := hq
    refine ⟨_, Sub.refl _ _, ?_⟩
    refine i5 (e9 ?_)
    obtain rfl := oi h
    exact hs
theorem Y4 {l : List (List Int)} {sv : List Int} {r : Int} (h : M3 l sv = some r) : f9 prog 30 [.c (row 1 f5 l), .c (row 1 intI sv)] (.c (int r)) := by
 unfold f9
 refine FnOk.enter (rs := [.t 4]) func30 Z ntmps30 results30 Z ⟨trivial, Y⟩ (by kernel_rfl) Z ?_
 unfold M3 at h
 refine AWP.q (.u (.v Z Z (.nil (b6 (.q (.q (.u (.v Z Z (.nil (b6 (.O ?_)))))))))))
 obtain ⟨oo, ho1, h⟩ := bind_some h
 refine AWP.rngS ho1 (fun iv3 _ => ⟨[(0, .c (row 1 f5 l)), (1, .c (row 1 intI sv)), (5, .c (int iv3))], []⟩) (fun o e st => match o with | .inl _ => e = .exit 0 ∧ Sub [] st ⟨[], []⟩ | .inr x => e = .ret ∧ Done [.t 4] (fun t _ => t = .c (int x)) .ret st) ?_ ?_ ?_ ?_
 ·try dsimp only
  exact Sub.env ⟨Z, Z, Z, Y⟩
 ·intro iv3 s hloiv3 hltiv3 _
  try dsimp only
  refine AWP.q (.q (.u (.j Z Z (.j Z Z (S.len Z Z (fun hl8 => .F Z Z Z (.nil (b6 (.ae Z hltiv3 (.exit (e8 (e8 ⟨Z, ?_⟩))))))))))))
  exact Sub.env trivial
 ·intro iv3 s o hloiv3 hltiv3 h
  unfold R5 at h
  try dsimp only at h ⊢
  refine AWP.q (.q (.u (.j Z Z (.j Z Z (S.len Z Z (fun hl8 => .F Z Z Z (.nil (b6 (.af Z hltiv3 (.skip (b6 (.q (.O (.q ?_))))))))))))))
  obtain ⟨a14, ha14, a17, ha17, h⟩ := b2 h
  refine AWP.u (.j Z Z (.j Z Z (S.idx ha14 Z Z Z Z (.ad Z Z Z Z (.j Z Z (.J Z Z Z Z (ref1_Ints_ok ha17) Z (.nil (b6 (.ah Z h (fun hc4 h => ?_) (fun hc4 h => ?_))))))))))
  ·refine AWP.q (.u (.j Z Z (.v Z Z (.nil (b6 (.ret (i5 (e9 ?_))))))))
   obtain rfl := oi h
   refine e9 ⟨_, Z, Z, ?_⟩
   exact Done.ret Z Z
  ·refine AWP.skip (e6 (b6 (.u (.j Z Z (.add Z Z Z (by omega) (.v Z Z (.nil ?_)))))))
   obtain rfl := oi h
   refine b6 ⟨_, Z, ?_⟩
   exact Sub.env ⟨Z, Z, Z, Y⟩
 ·intro e s hq
  rcases oo with u | x
  ·try dsimp only at h hq
   obtain ⟨rfl, hs⟩ := hq
   refine ⟨_, hs, ?_⟩
   refine h9 (b6 (.q (.u (.v Z Z (.nil (b6 (.ret ?_)))))))
   obtain rfl := oi h
   exact Done.ret Z Z
  ·try dsimp only at h hq
   obtain ⟨rfl, hs⟩ := hq
   refine ⟨_, Sub.refl _ _, ?_⟩
   refine i5 (e9 ?_)
   obtain rfl := oi h
   exact hs
theorem Y9 {t : f7} {states : List (List Int)} {goal : List Int} {observed : List Int} {r : Int} (h : F7 t states goal observed = some r) : f9 prog 13 [.agg (tT t), .c (row 1 f5 states), .c (row 1 intI goal), .c (row 1 intI observed)] (.c (int r)) := by
 unfold f9
 refine FnOk.enter (rs := [.t 8]) func13 Z ntmps13 results13 Z ⟨trivial, Y⟩ (by kernel_rfl) Z ?_
 unfold F7 at h
 refine AWP.q (.u (W.box Z Z Z Z Z Z (.v Z Z (.nil (b6 (.q (.u (.j Z Z (S.len Z Z (fun hl19 => .v Z Z (.nil (b6 (.q ?_)))))))))))))
 obtain ⟨a22, ha22, h⟩ := bind_some h
 refine AWP.u (.j Z Z (S.add Z Z Z (S.makeM 1 intI ha22 Z Z Z Z Z (.v Z Z (.nil (b6 (.q (.q (.u (.j Z Z (.v Z Z (.nil (b6 (.O ?_))))))))))))))
 obtain ⟨c7, ho1, h⟩ := bind_some h
 refine AWP.loopS ho1 (fun (c5, kv6) => ⟨[(1, .c (row 1 f5 states)), (2, .c (row 1 intI goal)), (3, .c (row 1 intI observed)), (4, .c (.ptr 0 0 0)), (9, .c (int (observed.length : Int))), (10, .c (.own 1 0 c5.length)), (11, .c (int kv6))], [.one (.cells 4 [(tT t)]), mat (1, []) 1 intI c5]⟩) (fun c7 e st => e = .exit 0 ∧ Sub [] st ⟨[(1, .c (row 1 f5 states)), (4, .c (.ptr 0 0 0)), (10, .c (.own 1 0 c7.length))], [.one (.cells 4 [(tT t)]), mat (1, []) 1 intI c7]⟩) ?_ ?_ ?_
 ·try dsimp only
  exact Sub.env ⟨Z, Z, Z, Z, Z, Z, Z, Y⟩
 ·intro s o h
  obtain ⟨c5, kv6⟩ := s
  unfold J7 at h
  try dsimp only at h ⊢
  refine AWP.q (.q (.u (.j Z Z (.geq Z Z Z (.nil (b6 (.ite Z h (fun hc8 h => ?_) (fun hc8 h => ?_))))))))
  ·refine AWP.skip (b6 (.q (.O (.q ?_))))
   obtain ⟨a32, ha32, a33, ha33, h⟩ := b2 h
   refine AWP.u (.j Z Z (.j Z Z (.j Z Z (S.len Z Z (fun hl31 => S.make (f := intI) ha32 (.val .nil) Z Z Z Z Z Z (S.idxH ha33 Z Z Z (by simp) Z Z (S.storeH (K7 ha33).2 Z Z Z Z (.nil (b6 (.q (.q (.moveR (k := 1) (f := intI) (M := c5) (env' := [(1, .c (row 1 f5 states)), (2, .c (row 1 intI goal)), (3, .c (row 1 intI observed)), (4, .c (.ptr 0 0 0)), (9, .c (int (observed.length : Int))), (10, .c (.own 1 0 c5.length)), (11, .c (int kv6))]) (σ' := [.one (.cells 4 [(tT t)]), mat (1, []) 1 intI (c5.set kv6.toNat a32)]) (r := 1) (s := 2) (p := kv6.toNat) (matS_at Z) (K7 ha33).2 Z Z Z Z Z (.inl Z) ⟨.one Z Z, .self, Y⟩ ⟨Z, Z, Z, Z, Z, Z, Z, Y⟩ Z Z (.u (.v Z Z (.nil (b6 (.O ?_)))))))))))))))))
   obtain ⟨c9, ho2, h⟩ := bind_some h
   refine AWP.forS ho2 (fun iv10 c9 => ⟨[(1, .c (row 1 f5 states)), (2, .c (row 1 intI goal)), (3, .c (row 1 intI observed)), (4, .c (.ptr 0 0 0)), (9, .c (int (observed.length : Int))), (10, .c (.own 1 0 c9.length)), (11, .c (int kv6)), (12, .c (int iv10))], [.one (.cells 4 [(tT t)]), mat (1, []) 1 intI c9]⟩) (fun c9 e st => e = .exit 2 ∧ Sub [] st ⟨[(1, .c (row 1 f5 states)), (2, .c (row 1 intI goal)), (3, .c (row 1 intI observed)), (4, .c (.ptr 0 0 0)), (9, .c (int (observed.length : Int))), (10, .c (.own 1 0 c9.length)), (11, .c (int kv6))], [.one (.cells 4 [(tT t)]), mat (1, []) 1 intI c9]⟩) ?_ ?_ ?_ ?_
   ·try dsimp only
    exact Sub.env ⟨Z, Z, Z, Z, Z, (E0 (by first | rfl | simp only [List.length_set])), Z, Z, Y⟩
   ·intro iv10 c9 hloiv10 hltiv10 _
    try dsimp only
    refine AWP.q (.q (.u (.j Z Z (.j Z Z (S.len Z Z (fun hl36 => .F Z Z Z (.nil (b6 (.ae Z hltiv10 (.exit (e8 (e8 ⟨Z, ?_⟩))))))))))))
    exact Sub.env ⟨Z, Z, Z, Z, Z, Z, Z, Y⟩
   ·intro iv10 c9 o hloiv10 hltiv10 h
    unfold E6 at h
    try dsimp only at h ⊢
    refine AWP.q (.q (.u (.j Z Z (.j Z Z (S.len Z Z (fun hl36 => .F Z Z Z (.nil (b6 (.af Z hltiv10 (.skip (b6 ?_)))))))))))
    obtain ⟨c11, hx12, h⟩ := bind_some h
    refine AWP.seqJ (⟨[(1, .c (row 1 f5 states)), (2, .c (row 1 intI goal)), (3, .c (row 1 intI observed)), (4, .c (.ptr 0 0 0)), (9, .c (int (observed.length : Int))), (10, .c (.own 1 0 c11.length)), (11, .c (int kv6)), (12, .c (int iv10))], [.one (.cells 4 [(tT t)]), mat (1, []) 1 intI c11]⟩) ?_ ?_
    ·refine AWP.O ?_
     obtain ⟨t13, hx14, hx12⟩ := bind_some hx12
     refine AWP.seqJ (⟨[(1, .c (row 1 f5 states)), (2, .c (row 1 intI goal)), (3, .c (row 1 intI observed)), (4, .c (.ptr 0 0 0)), (9, .c (int (observed.length : Int))), (10, .c (.own 1 0 c9.length)), (11, .c (int kv6)), (12, .c (int iv10)), (51, .c (bool t13))], [.one (.cells 4 [(tT t)]), mat (1, []) 1 intI c9]⟩) ?_ ?_
     ·rcases bft (decide (kv6 < (observed.length : Int))) with hb15 | hb15
      ·replace hx14 := v8 hb15 hx14
       refine AWP.u (.j Z Z (.j Z Z (.F Z Z Z (.j Z Z (.B Z Z Z hb15 (.B Z Z Z hb15 (.B Z Z Z hb15 (.B Z Z Z hb15 (.B Z Z Z hb15 (.B Z Z Z hb15 (.B Z Z Z hb15 (.U Z hb15 Z Z (.nil ?_)))))))))))))
       obtain rfl := oi hx14
       refine b6 (Sub.env ⟨Z, Z, Z, Z, Z, Z, Z, Z, Z, Y⟩)
      ·replace hx14 := v7 hb15 hx14
       obtain ⟨a47, ha47, a49, ha49, hx14⟩ := b2 hx14
       refine AWP.u (.j Z Z (.j Z Z (.F Z Z Z (.j Z Z (.z Z Z Z hb15 (.j Z Z (.z Z Z Z hb15 (.j Z Z (.z Z Z Z hb15 (.j Z Z (.z Z Z Z hb15 (S.idx ha47 Z Z Z Z (.z Z Z Z hb15 (.ad Z Z Z Z (.z Z Z Z hb15 (.J Z Z Z Z (ae8 ha49) Z (.z Z Z Z hb15 (.ac Z Z (.aa Z hb15 Z Z (.nil ?_))))))))))))))))))))
       obtain rfl := oi hx14
       refine b6 (Sub.env ⟨Z, Z, Z, Z, Z, Z, Z, Z, Z, Y⟩)
     ·refine AWP.ah Z hx12 (fun hc16 hx12 => ?_) (fun hc16 hx12 => ?_)
      ·obtain ⟨a54, ha54, a57, ha57, hx12⟩ := b2 hx12
       refine AWP.u (.j Z Z (.j Z Z (S.idxH ha54 Z Z Z (by simp) Z Z (S.loadM ha54 Z Z Z Z (.j Z Z (S.idxO ha57 Z Z (F6 Z ha54) Z Z (S.storeR1 (f := intI) (a' := 1000000000) (K7 ha54).2 (ix_lt ha57) (fun _ => ⟨_, Z⟩) Z Z Z Z Z ?_)))))))
       refine AOps.nil (e6 ?_)
       obtain rfl := oi hx12
       refine b6 (Sub.env ⟨Z, Z, Z, Z, Z, (E0 (by first | rfl | simp only [List.length_set])), Z, Z, Y⟩)
      ·refine AWP.skip (e6 ?_)
       obtain rfl := oi hx12
       refine b6 (Sub.env ⟨Z, Z, Z, Z, Z, Z, Z, Z, Y⟩)
    ·refine AWP.u (.j Z Z (.add Z Z Z (by omega) (.v Z Z (.nil ?_))))
     obtain rfl := oi h
     refine b6 (Sub.env ⟨Z, Z, Z, Z, Z, Z, Z, Z, Y⟩)
   ·intro e s hq
    obtain ⟨rfl, hs⟩ := hq
    refine ⟨_, hs, ?_⟩
    refine h9 (b6 (.q (.u (.v Z Z (.nil (b6 (.O ?_)))))))
    obtain ⟨c19, ho3, h⟩ := bind_some h
    refine AWP.loopS ho3 (fun (c17, again18) => ⟨[(1, .c (row 1 f5 states)), (2, .c (row 1 intI goal)), (3, .c (row 1 intI observed)), (4, .c (.ptr 0 0 0)), (9, .c (int (observed.length : Int))), (10, .c (.own 1 0 c17.length)), (11, .c (int kv6)), (13, .c (bool again18))], [.one (.cells 4 [(tT t)]), mat (1, []) 1 intI c17]⟩) (fun c19 e st => e = .exit 4 ∧ Sub [] st ⟨[(1, .c (row 1 f5 states)), (2, .c (row 1 intI goal)), (3, .c (row 1 intI observed)), (4, .c (.ptr 0 0 0)), (9, .c (int (observed.length : Int))), (10, .c (.own 1 0 c19.length)), (11, .c (int kv6))], [.one (.cells 4 [(tT t)]), mat (1, []) 1 intI c19]⟩) ?_ ?_ ?_
    ·try dsimp only
     exact Sub.env ⟨Z, Z, Z, Z, Z, Z, Z, Z, Y⟩
    ·intro s o h
     obtain ⟨c17, again18⟩ := s
     unfold E5 at h
     try dsimp only at h ⊢
     refine AWP.q (.q (.u (.j Z Z (.nil (b6 (.ah Z h (fun hc20 h => ?_) (fun hc20 h => ?_)))))))
     ·refine AWP.skip (b6 (.O (.q (.u (.v Z Z (.nil (b6 (.q (.u (.v Z Z (.nil (b6 (.O ?_)))))))))))))
      obtain ⟨⟨c21, again22⟩, ho4, h⟩ := bind_some h
      try dsimp only at h
      refine AWP.forS ho4 (fun iv23 (c21, again22) => ⟨[(1, .c (row 1 f5 states)), (2, .c (row 1 intI goal)), (3, .c (row 1 intI observed)), (4, .c (.ptr 0 0 0)), (9, .c (int (observed.length : Int))), (10, .c (.own 1 0 c21.length)), (11, .c (int kv6)), (13, .c (bool again22)), (14, .c (int iv23))], [.one (.cells 4 [(tT t)]), mat (1, []) 1 intI c21]⟩) (fun (c21, again22) e st => e = .exit 6 ∧ Sub [] st ⟨[(1, .c (row 1 f5 states)), (2, .c (row 1 intI goal)), (3, .c (row 1 intI observed)), (4, .c (.ptr 0 0 0)), (9, .c (int (observed.length : Int))), (10, .c (.own 1 0 c21.length)), (11, .c (int kv6)), (13, .c (bool again22))], [.one (.cells 4 [(tT t)]), mat (1, []) 1 intI c21]⟩) ?_ ?_ ?_ ?_
      ·try dsimp only
       exact Sub.env ⟨Z, Z, Z, Z, Z, Z, Z, Z, Z, Y⟩
      ·intro iv23 s hloiv23 hltiv23 _
       obtain ⟨c21, again22⟩ := s
       try dsimp only
       refine AWP.q (.q (.u (.j Z Z (.j Z Z (S.len Z Z (fun hl61 => .F Z Z Z (.nil (b6 (.ae Z hltiv23 (.exit (e8 (e8 ⟨Z, ?_⟩))))))))))))
       exact Sub.env ⟨Z, Z, Z, Z, Z, Z, Z, Z, Y⟩
      ·intro iv23 s o hloiv23 hltiv23 h
       obtain ⟨c21, again22⟩ := s
       unfold E9 at h
       try dsimp only at h ⊢
       refine AWP.q (.q (.u (.j Z Z (.j Z Z (S.len Z Z (fun hl61 => .F Z Z Z (.nil (b6 (.af Z hltiv23 (.skip (b6 (.q (.O (.q (.u (.v Z Z (.nil (b6 (.O ?_)))))))))))))))))))
       obtain ⟨⟨c24, again25⟩, ho5, h⟩ := bind_some h
       try dsimp only at h
       refine AWP.forS ho5 (fun op26 (c24, again25) => ⟨[(1, .c (row 1 f5 states)), (2, .c (row 1 intI goal)), (3, .c (row 1 intI observed)), (4, .c (.ptr 0 0 0)), (9, .c (int (observed.length : Int))), (10, .c (.own 1 0 c24.length)), (11, .c (int kv6)), (13, .c (bool again25)), (14, .c (int iv23)), (15, .c (int op26))], [.one (.cells 4 [(tT t)]), mat (1, []) 1 intI c24]⟩) (fun (c24, again25) e st => e = .exit 8 ∧ Sub [] st ⟨[(1, .c (row 1 f5 states)), (2, .c (row 1 intI goal)), (3, .c (row 1 intI observed)), (4, .c (.ptr 0 0 0)), (9, .c (int (observed.length : Int))), (10, .c (.own 1 0 c24.length)), (11, .c (int kv6)), (13, .c (bool again25)), (14, .c (int iv23))], [.one (.cells 4 [(tT t)]), mat (1, []) 1 intI c24]⟩) ?_ ?_ ?_ ?_
       ·try dsimp only
        exact Sub.env ⟨Z, Z, Z, Z, Z, Z, Z, Z, Z, Z, Y⟩
       ·intro op26 s hloop26 hltop26 _
        obtain ⟨c24, again25⟩ := s
        try dsimp only
        refine AWP.q (.q (.u (.j Z Z (W.fieldAddr Z Z Z Z (.E Z Z Z Z Z Z (S.len Z Z (fun hl68 => .F Z Z Z (.nil (b6 (.ae Z hltop26 (.exit (e8 (e8 ⟨Z, ?_⟩)))))))))))))
        exact Sub.env ⟨Z, Z, Z, Z, Z, Z, Z, Z, Z, Y⟩
       ·intro op26 s o hloop26 hltop26 h
        obtain ⟨c24, again25⟩ := s
        unfold E7 at h
        try dsimp only at h ⊢
        refine AWP.q (.q (.u (.j Z Z (W.fieldAddr Z Z Z Z (.E Z Z Z Z Z Z (S.len Z Z (fun hl68 => .F Z Z Z (.nil (b6 (.af Z hltop26 (.skip (b6 ?_))))))))))))
        obtain ⟨⟨c27, again28⟩, hx29, h⟩ := bind_some h
        refine AWP.seqJ (⟨[(1, .c (row 1 f5 states)), (2, .c (row 1 intI goal)), (3, .c (row 1 intI observed)), (4, .c (.ptr 0 0 0)), (9, .c (int (observed.length : Int))), (10, .c (.own 1 0 c27.length)), (11, .c (int kv6)), (13, .c (bool again28)), (14, .c (int iv23)), (15, .c (int op26))], [.one (.cells 4 [(tT t)]), mat (1, []) 1 intI c27]⟩) ?_ ?_
        ·refine AWP.O (.q (.q ?_))
         obtain ⟨a75, ha75, a78, ha78, hx29⟩ := b2 hx29
         refine AWP.drawI mixed Z ?_
         refine i4.consF Z (fun E => W.loadAgg Z Z Z Z Z Z Z .N) Z (.consF Z (fun E => AOps.j Z Z .N) Z (.consF Z (fun E => AOps.j Z Z .N) Z (.consF Z (fun E => S.idx ha75 Z Z Z Z .N) Z (.consF Z (fun E => AOps.ad Z Z Z Z .N) Z (.consF Z (fun E => AOps.j Z Z .N) Z (.consF Z (fun E => AOps.J Z Z Z Z (ad3 ha78) Z .N) Z (.consF Z (fun E => AOps.ac Z Z .N) Z ?_)))))))
         refine i4.done ?_
         dsimp only [k6]
         refine b6 (.ah Z hx29 (fun hc30 hx29 => ?_) (fun hc30 hx29 => ?_))
         ·refine AWP.exit (e8 (h9 ?_))
          obtain ⟨ej0, ej1⟩ := o2 hx29
          subst ej0 ej1
          refine b6 (Sub.env ⟨Z, Z, Z, Z, Z, Z, Z, Z, Z, Z, Y⟩)
         ·refine AWP.skip (b6 (.q ?_))
          obtain ⟨a84, ha84, a87, ha87, a88, ha88, hx29⟩ := b3 hx29
          refine AWP.drawEI [7] mixed Z Z Z ?_
          refine f8.consN Z Z (fun E => AOps.j Z Z .N) Z (.consN Z Z (fun E => W.loadAgg Z Z Z Z Z Z Z .N) Z (.consN Z Z (fun E => AOps.j Z Z .N) Z (.consN Z Z (fun E => AOps.j Z Z .N) Z (.consN Z Z (fun E => S.idx ha84 Z Z Z Z .N) Z (.consN Z Z (fun E => AOps.ad Z Z Z Z .N) Z (.consN Z Z (fun E => AOps.j Z Z .N) Z ?_))))))
          apply f8.consE; exact Z; exact Z; intro E
          refine S.fresh Z Z Z Z (ag9 ha87) Z Z .N
          exact Z
          exact Z
          refine f8.consN Z Z (fun E => AOps.aj Z Z (.cons (.c .imm) (.cons (.c (.own Z Z)) .nil)) Z (Y4 ha88) Z .N) Z (.consN Z Z (fun E => AOps.v Z Z .N) Z ?_)
          refine f8.done Z ?_ ?_
          ·refine e7.cons Z Z ?_ ?_
           refine b8.go Z Z (fun E => AOps.j Z Z .N) ?_
           refine b8.go Z Z (fun E => AOps.j Z Z .N) ?_
           exact b8.nil
           refine e7.cons Z Z ?_ ?_
           refine b8.go Z Z (fun E => W.loadAgg Z Z Z Z Z Z Z .N) ?_
           refine b8.skip Z (b8.nil)
           refine e7.cons Z Z ?_ ?_
           refine b8.go Z Z (fun E => AOps.j Z Z .N) ?_
           refine b8.skip Z (b8.nil)
           refine e7.cons Z Z ?_ ?_
           refine b8.go Z Z (fun E => AOps.j Z Z .N) ?_
           refine b8.skip Z (b8.nil)
           refine e7.cons Z Z ?_ ?_
           refine b8.go Z Z (fun E => S.idx ha84 Z Z Z Z .N) ?_
           refine b8.skip Z (b8.nil)
           refine e7.cons Z Z ?_ ?_
           refine b8.go Z Z (fun E => AOps.ad Z Z Z Z .N) ?_
           refine b8.skip Z (b8.nil)
           refine e7.cons Z Z ?_ ?_
           refine b8.go Z Z (fun E => AOps.j Z Z .N) ?_
           refine b8.skip Z (b8.nil)
           refine e7.skip Z ?_
           refine e7.cons Z Z ?_ ?_
           refine b8.skip Z ?_
           refine b8.go Z Z (fun E => AOps.aj Z Z (.cons (.c .imm) (.cons (.c (.own Z Z)) .nil)) Z (Y4 ha88) Z .N) ?_
           exact b8.nil
           refine e7.cons Z Z ?_ ?_
           refine b8.skip Z ?_
           refine b8.go Z Z (fun E => AOps.v Z Z .N) ?_
           exact b8.nil
           exact e7.nil
          dsimp only [k6]
          refine b6 (.q ?_)
          obtain ⟨a91, ha91, a94, ha94, hx29⟩ := b2 hx29
          refine AWP.u (.j Z Z (.j Z Z (S.idxH ha91 Z Z Z (by simp) Z Z (S.loadM ha91 Z Z Z Z (.j Z Z (S.idxO ha94 Z Z (F6 Z ha91) Z Z (S.loadO ha94 Z Z (F6 Z ha91) Z Z (.v Z Z (.nil (b6 ?_))))))))))
          obtain ⟨v31, hx32, hx29⟩ := bind_some hx29
          refine AWP.seqJ (⟨[(1, .c (row 1 f5 states)), (2, .c (row 1 intI goal)), (3, .c (row 1 intI observed)), (4, .c (.ptr 0 0 0)), (9, .c (int (observed.length : Int))), (10, .c (.own 1 0 c24.length)), (11, .c (int kv6)), (13, .c (bool again25)), (14, .c (int iv23)), (15, .c (int op26)), (17, .c (int v31))], [.one (.cells 4 [(tT t)]), mat (1, []) 1 intI c24]⟩) ?_ ?_
          ·obtain ⟨t33, hx34, hx32⟩ := bind_some hx32
           refine AWP.seqJ (⟨[(1, .c (row 1 f5 states)), (2, .c (row 1 intI goal)), (3, .c (row 1 intI observed)), (4, .c (.ptr 0 0 0)), (9, .c (int (observed.length : Int))), (10, .c (.own 1 0 c24.length)), (11, .c (int kv6)), (13, .c (bool again25)), (14, .c (int iv23)), (15, .c (int op26)), (16, .c (int a88)), (17, .c (int a94)), (118, .c (bool t33))], [.one (.cells 4 [(tT t)]), mat (1, []) 1 intI c24]⟩) ?_ ?_
           ·rcases bft (decide (kv6 < (observed.length : Int))) with hb35 | hb35
            ·replace hx34 := v8 hb35 hx34
             obtain ⟨a102, ha102, hx34⟩ := bind_some hx34
             rcases bft (decide (a102 = op26)) with hb36 | hb36
             ·replace hx34 := v8 hb36 hx34
              obtain ⟨a111, ha111, a114, ha114, hx34⟩ := b2 hx34
              refine AWP.u (.j Z Z (.j Z Z (.F Z Z Z (.j Z Z (.z Z Z Z hb35 (.j Z Z (.z Z Z Z hb35 (.j Z Z (.z Z Z Z hb35 (S.idx ha102 Z Z Z Z (.z Z Z Z hb35 (.ad Z Z Z Z (.z Z Z Z hb35 (.j Z Z (.z Z Z Z hb35 (.ab Z Z Z (.U Z hb35 Z Z (.j Z Z (.z Z Z Z hb36 (.j Z Z (.z Z Z Z hb36 (.j Z Z (.z Z Z Z hb36 (S.add Z Z Z (.z Z Z Z hb36 (S.idxH ha111 Z Z Z (by simp) Z Z (.z Z Z Z hb36 (S.loadM ha111 Z Z Z Z (.z Z Z Z hb36 (.j Z Z (.z Z Z Z hb36 (S.idxO ha114 Z Z (F6 Z ha111) Z Z (.z Z Z Z hb36 (S.loadO ha114 Z Z (F6 Z ha111) Z Z (.z Z Z Z hb36 (.j Z Z (.z Z Z Z hb36 (.F Z Z Z (.U Z hb36 Z Z (.nil ?_))))))))))))))))))))))))))))))))))))))))
              obtain rfl := oi hx34
              refine b6 (Sub.cut ⟨Z, Z, Z, Z, Z, Z, Z, Z, Z, Z, Z, Z, Z, Y⟩ Z ⟨.one Z, .mat Z, Y⟩ Z)
             ·replace hx34 := v7 hb36 hx34
              refine AWP.u (.j Z Z (.j Z Z (.F Z Z Z (.j Z Z (.z Z Z Z hb35 (.j Z Z (.z Z Z Z hb35 (.j Z Z (.z Z Z Z hb35 (S.idx ha102 Z Z Z Z (.z Z Z Z hb35 (.ad Z Z Z Z (.z Z Z Z hb35 (.j Z Z (.z Z Z Z hb35 (.ab Z Z Z (.U Z hb35 Z Z (.j Z Z (.B Z Z Z hb36 (.B Z Z Z hb36 (.B Z Z Z hb36 (.B Z Z Z hb36 (.B Z Z Z hb36 (.B Z Z Z hb36 (.B Z Z Z hb36 (.B Z Z Z hb36 (.B Z Z Z hb36 (.B Z Z Z hb36 (.aa Z hb36 Z Z (.nil ?_))))))))))))))))))))))))))))))
              obtain rfl := oi hx34
              refine b6 (Sub.cut ⟨Z, Z, Z, Z, Z, Z, Z, Z, Z, Z, Z, Z, Z, Y⟩ Z ⟨.one Z, .mat Z, Y⟩ Z)
            ·replace hx34 := v7 hb35 hx34
             refine AWP.u (.j Z Z (.j Z Z (.F Z Z Z (.j Z Z (.B Z Z Z hb35 (.B Z Z Z hb35 (.B Z Z Z hb35 (.B Z Z Z hb35 (.B Z Z Z hb35 (.B Z Z Z hb35 (.aa Z hb35 Z Z (.j Z Z (.B Z Z Z Z (.B Z Z Z Z (.B Z Z Z Z (.B Z Z Z Z (.B Z Z Z Z (.B Z Z Z Z (.B Z Z Z Z (.B Z Z Z Z (.B Z Z Z Z (.B Z Z Z Z (.aa Z Z Z Z (.nil ?_))))))))))))))))))))))))
             obtain rfl := oi hx34
             refine b6 (Sub.cut ⟨Z, Z, Z, Z, Z, Z, Z, Z, Z, Z, Z, Z, Z, Y⟩ Z ⟨.one Z, .mat Z, Y⟩ Z)
           ·refine AWP.ah Z hx32 (fun hc37 hx32 => ?_) (fun hc37 hx32 => ?_)
            ·obtain ⟨a122, ha122, a125, ha125, hx32⟩ := b2 hx32
             refine AWP.u (.j Z Z (.j Z Z (S.add Z Z Z (S.idxH ha122 Z Z Z (by simp) Z Z (S.loadM ha122 Z Z Z Z (.j Z Z (S.idxO ha125 Z Z (F6 Z ha122) Z Z (S.loadO ha125 Z Z (F6 Z ha122) Z Z (.v Z Z (.nil ?_))))))))))
             obtain rfl := oi hx32
             refine b6 (Sub.env ⟨Z, Z, Z, Z, Z, Z, Z, Z, Z, Z, Z, Y⟩)
            ·refine AWP.skip ?_
             obtain rfl := oi hx32
             refine b6 (Sub.env ⟨Z, Z, Z, Z, Z, Z, Z, Z, Z, Z, Z, Y⟩)
          ·obtain ⟨t38, hx39, hx29⟩ := bind_some hx29
           refine AWP.seqJ (⟨[(1, .c (row 1 f5 states)), (2, .c (row 1 intI goal)), (3, .c (row 1 intI observed)), (4, .c (.ptr 0 0 0)), (9, .c (int (observed.length : Int))), (10, .c (.own 1 0 c24.length)), (11, .c (int kv6)), (13, .c (bool again25)), (14, .c (int iv23)), (15, .c (int op26)), (17, .c (int v31)), (146, .c (bool t38))], [.one (.cells 4 [(tT t)]), mat (1, []) 1 intI c24]⟩) ?_ ?_
           ·rcases bft (decide (v31 < 1000000000)) with hb40 | hb40
            ·replace hx39 := v8 hb40 hx39
             obtain ⟨a134, ha134, a140, ha140, a143, ha143, hx39⟩ := b3 hx39
             refine AWP.drawI mixed Z ?_
             refine i4.consF Z (fun E => AOps.j Z Z .N) Z (.consF Z (fun E => AOps.F Z Z Z .N) Z (.consF Z (fun E => AOps.j Z Z .N) Z (.consF Z (fun E => AOps.z Z Z Z hb40 (.j Z Z .N)) Z (.consF Z (fun E => AOps.z Z Z Z hb40 (W.fieldAddr Z Z Z Z .N)) Z (.consF Z (fun E => AOps.z Z Z Z hb40 (.E Z Z Z Z Z Z .N)) Z (.consF Z (fun E => AOps.z Z Z Z hb40 (.j Z Z .N)) Z (.consF Z (fun E => AOps.z Z Z Z hb40 (S.idx ha134 Z Z Z Z .N)) Z (.consF Z (fun E => AOps.z Z Z Z hb40 (W.fieldAddrI Z Z Z Z .N)) Z (.consF Z (fun E => AOps.z Z Z Z hb40 (.ad Z Z Z Z .N)) Z (.consF Z (fun E => AOps.z Z Z Z hb40 (S.add Z Z Z .N)) Z (.consF Z (fun E => AOps.z Z Z Z hb40 (.j Z Z .N)) Z (.consF Z (fun E => AOps.z Z Z Z hb40 (.j Z Z .N)) Z (.consF Z (fun E => AOps.z Z Z Z hb40 (S.idxH ha140 Z Z Z (by simp) Z Z .N)) Z (.consF Z (fun E => AOps.z Z Z Z hb40 (S.loadM ha140 Z Z Z Z .N)) Z (.consF Z (fun E => AOps.z Z Z Z hb40 (.j Z Z .N)) Z (.consF Z (fun E => AOps.z Z Z Z hb40 (S.idxO ha143 Z Z (F6 Z ha140) Z Z .N)) Z (.consF Z (fun E => AOps.z Z Z Z hb40 (S.loadO ha143 Z Z (F6 Z ha140) Z Z .N)) Z (.consF Z (fun E => AOps.z Z Z Z hb40 (.F Z Z Z .N)) Z (.consF Z (fun E => AOps.U Z hb40 Z Z .N) Z ?_)))))))))))))))))))
             refine i4.done ?_
             dsimp only [k6]
             obtain rfl := oi hx39
             refine b6 (Sub.env ⟨Z, Z, Z, Z, Z, Z, Z, Z, Z, Z, Z, Z, Y⟩)
            ·replace hx39 := v7 hb40 hx39
             refine AWP.drawI mixed Z ?_
             refine i4.consF Z (fun E => AOps.j Z Z .N) Z (.consF Z (fun E => AOps.F Z Z Z .N) Z (.consF Z (fun E => AOps.j Z Z .N) Z (.consF Z (fun E => AOps.B Z Z Z hb40 .N) Z (.consF Z (fun E => AOps.B Z Z Z hb40 .N) Z (.consF Z (fun E => AOps.B Z Z Z hb40 .N) Z (.consF Z (fun E => AOps.B Z Z Z hb40 .N) Z (.consF Z (fun E => AOps.B Z Z Z hb40 .N) Z (.consF Z (fun E => AOps.B Z Z Z hb40 .N) Z (.consF Z (fun E => AOps.B Z Z Z hb40 .N) Z (.consF Z (fun E => AOps.B Z Z Z hb40 .N) Z (.consF Z (fun E => AOps.B Z Z Z hb40 .N) Z (.consF Z (fun E => AOps.B Z Z Z hb40 .N) Z (.consF Z (fun E => AOps.B Z Z Z hb40 .N) Z (.consF Z (fun E => AOps.B Z Z Z hb40 .N) Z (.consF Z (fun E => AOps.B Z Z Z hb40 .N) Z (.consF Z (fun E => AOps.B Z Z Z hb40 .N) Z (.consF Z (fun E => AOps.B Z Z Z hb40 .N) Z (.consF Z (fun E => AOps.B Z Z Z hb40 .N) Z (.consF Z (fun E => AOps.aa Z hb40 Z Z .N) Z ?_)))))))))))))))))))
             refine i4.done ?_
             dsimp only [k6]
             obtain rfl := oi hx39
             refine b6 (Sub.env ⟨Z, Z, Z, Z, Z, Z, Z, Z, Z, Z, Z, Z, Y⟩)
           ·refine AWP.ah Z hx29 (fun hc41 hx29 => ?_) (fun hc41 hx29 => ?_)
            ·refine AWP.q ?_
             obtain ⟨a149, ha149, a156, ha156, a160, ha160, hx29⟩ := b3 hx29
             refine AWP.drawEI [14] mixed Z Z Z ?_
             refine f8.consN Z Z (fun E => AOps.j Z Z .N) Z (.consN Z Z (fun E => AOps.j Z Z .N) Z (.consN Z Z (fun E => S.idxH ha149 Z Z Z (by simp) Z Z .N) Z (.consN Z Z (fun E => S.loadM ha149 Z Z Z Z .N) Z (.consN Z Z (fun E => AOps.j Z Z .N) Z (.consN Z Z (fun E => AOps.j Z Z .N) Z (.consN Z Z (fun E => W.fieldAddr Z Z Z Z .N) Z (.consN Z Z (fun E => AOps.E Z Z Z Z Z Z .N) Z (.consN Z Z (fun E => AOps.j Z Z .N) Z (.consN Z Z (fun E => S.idx ha156 Z Z Z Z .N) Z (.consN Z Z (fun E => W.fieldAddrI Z Z Z Z .N) Z (.consN Z Z (fun E => AOps.ad Z Z Z Z .N) Z (.consN Z Z (fun E => S.add Z Z Z .N) Z (.consN Z Z (fun E => S.idxO ha160 Z Z (F6 Z ha149) Z Z .N) Z ?_)))))))))))))
             apply f8.consE (v := .undef); exact Z; exact Z; intro E
             refine S.storeR1 (f := intI) (a' := w64 (v31 + a156.cost)) (K7 ha149).2 (ix_lt ha160) (fun _ => ⟨_, Z⟩) Z Z Z Z Z ?_
             exact AOps.nil ⟨Z, Z⟩
             exact Z
             exact Z
             refine f8.done Z ?_ ?_
             ·refine e7.cons Z Z ?_ ?_
              refine b8.go Z Z (fun E => AOps.j Z Z .N) ?_
              refine b8.skip Z (b8.nil)
              refine e7.cons Z Z ?_ ?_
              refine b8.go Z Z (fun E => AOps.j Z Z .N) ?_
              refine b8.skip Z (b8.nil)
              refine e7.cons Z Z ?_ ?_
              refine b8.go Z Z (fun E => S.idxH ha149 Z Z Z (by simp) Z Z .N) ?_
              refine b8.skip Z (b8.nil)
              refine e7.cons Z Z ?_ ?_
              refine b8.go Z Z (fun E => S.loadM ha149 Z Z Z Z .N) ?_
              refine b8.skip Z (b8.nil)
              refine e7.cons Z Z ?_ ?_
              refine b8.go Z Z (fun E => AOps.j Z Z .N) ?_
              refine b8.skip Z (b8.nil)
              refine e7.cons Z Z ?_ ?_
              refine b8.go Z Z (fun E => AOps.j Z Z .N) ?_
              refine b8.skip Z (b8.nil)
              refine e7.cons Z Z ?_ ?_
              refine b8.go Z Z (fun E => W.fieldAddr Z Z Z Z .N) ?_
              refine b8.skip Z (b8.nil)
              refine e7.cons Z Z ?_ ?_
              refine b8.go Z Z (fun E => AOps.E Z Z Z Z Z Z .N) ?_
              refine b8.skip Z (b8.nil)
              refine e7.cons Z Z ?_ ?_
              refine b8.go Z Z (fun E => AOps.j Z Z .N) ?_
              refine b8.skip Z (b8.nil)
              refine e7.cons Z Z ?_ ?_
              refine b8.go Z Z (fun E => S.idx ha156 Z Z Z Z .N) ?_
              refine b8.skip Z (b8.nil)
              refine e7.cons Z Z ?_ ?_
              refine b8.go Z Z (fun E => W.fieldAddrI Z Z Z Z .N) ?_
              refine b8.skip Z (b8.nil)
              refine e7.cons Z Z ?_ ?_
              refine b8.go Z Z (fun E => AOps.ad Z Z Z Z .N) ?_
              refine b8.skip Z (b8.nil)
              refine e7.cons Z Z ?_ ?_
              refine b8.go Z Z (fun E => S.add Z Z Z .N) ?_
              refine b8.skip Z (b8.nil)
              refine e7.cons Z Z ?_ ?_
              refine b8.go Z Z (fun E => S.idxO ha160 Z Z (F6 Z ha149) Z Z .N) ?_
              refine b8.skip Z (b8.nil)
              refine e7.skip Z (e7.nil)
             dsimp only [k6]
             refine b6 (.u (.v Z Z (.nil (e6 ?_))))
             obtain ⟨ej0, ej1⟩ := o2 hx29
             subst ej0 ej1
             refine b6 (Sub.env ⟨Z, Z, Z, Z, Z, (E0 (by first | rfl | simp only [List.length_set])), Z, Z, Z, Z, Y⟩)
            ·refine AWP.skip (e6 ?_)
             obtain ⟨ej0, ej1⟩ := o2 hx29
             subst ej0 ej1
             refine b6 (Sub.env ⟨Z, Z, Z, Z, Z, Z, Z, Z, Z, Z, Y⟩)
        ·try dsimp only at h
         refine AWP.u (.j Z Z (.add Z Z Z (by omega) (.v Z Z (.nil ?_))))
         obtain rfl := oi h
         refine b6 (Sub.env ⟨Z, Z, Z, Z, Z, Z, Z, Z, Z, Z, Y⟩)
       ·intro e s hq
        obtain ⟨rfl, hs⟩ := hq
        refine ⟨_, hs, ?_⟩
        refine h9 (e6 (b6 (.u (.j Z Z (.add Z Z Z (by omega) (.v Z Z (.nil ?_)))))))
        obtain rfl := oi h
        refine b6 (Sub.env ⟨Z, Z, Z, Z, Z, Z, Z, Z, Z, Y⟩)
      ·intro e s hq
       obtain ⟨rfl, hs⟩ := hq
       refine ⟨_, hs, ?_⟩
       refine h9 (e6 ?_)
       obtain rfl := oi h
       refine b6 ⟨_, Z, ?_⟩
       exact Sub.env ⟨Z, Z, Z, Z, Z, Z, Z, Z, Y⟩
     ·refine AWP.exit (e8 ?_)
      obtain rfl := oi h
      refine e8 ⟨_, Z, Z, ?_⟩
      exact Sub.env ⟨Z, Z, Z, Z, Z, Z, Z, Y⟩
    ·intro e s hq
     obtain ⟨rfl, hs⟩ := hq
     refine ⟨_, hs, ?_⟩
     refine h9 (e6 (b6 (.u (.j Z Z (S.sub Z Z Z (.v Z Z (.nil ?_)))))))
     obtain rfl := oi h
     refine b6 ⟨_, Z, ?_⟩
     exact Sub.env ⟨Z, Z, Z, Z, Z, Z, Z, Y⟩
  ·refine AWP.exit (e8 ?_)
   obtain rfl := oi h
   refine e8 ⟨_, Z, Z, ?_⟩
   exact Sub.env ⟨Z, Z, Z, Y⟩
 ·intro e s hq
  obtain ⟨rfl, hs⟩ := hq
  refine ⟨_, hs, ?_⟩
  refine h9 (b6 (.q ?_))
  obtain ⟨a162, ha162, a167, ha167, a168, ha168, h⟩ := b3 h
  refine AWP.drawI mixed Z ?_
  refine i4.consF Z (fun E => AOps.j Z Z .N) Z (.consF Z (fun E => S.idxH ha162 Z Z Z (by simp) Z Z .N) Z (.consF Z (fun E => S.loadM ha162 Z Z Z Z .N) Z (.consF Z (fun E => AOps.j Z Z .N) Z (.consF Z (fun E => W.fieldAddr Z Z Z Z .N) Z (.consF Z (fun E => AOps.E Z Z Z Z Z Z .N) Z (.consF Z (fun E => AOps.J Z Z Z Z (Y4 ha167) Z .N) Z (.consF Z (fun E => S.idxO ha168 Z Z (F6 Z ha162) Z Z .N) Z (.consF Z (fun E => S.loadO ha168 Z Z (F6 Z ha162) Z Z .N) Z (.consF Z (fun E => AOps.v Z Z .N) Z ?_)))))))))
  refine i4.done ?_
  dsimp only [k6]
  refine b6 (.ret ?_)
  obtain rfl := oi h
  exact Done.ret Z Z
theorem W4 {t : f7} {goals : List (List Int)} {observed : List Int} {r : Bool} (h : A8 t goals observed = some r) : f9 prog 3 [.agg (tT t), .c (row 1 f5 goals), .c (row 1 intI observed)] (.c (bool r)) := by
 unfold f9
 refine FnOk.enter (rs := [.t 6]) func3 Z ntmps3 results3 Z ⟨trivial, Y⟩ (by kernel_rfl) Z ?_
 unfold A8 at h
 refine AWP.q (.u (W.box Z Z Z Z Z Z (.v Z Z (.nil (b6 (.q ?_))))))
 obtain ⟨a25, ha25, h⟩ := bind_some h
 refine AWP.u (W.loadAgg Z Z Z Z Z Z Z (.j Z Z (.j Z Z (.J Z Z Z Z (P4 ha25) Z (.j Z Z (.ai Z Z Z (.ai Z Z Z (W.alloc Z Z Z Z (.v Z Z (W.storeAgg Z Z Z Z Z Z Z (.nil (b6 (.q ?_)))))))))))))
 obtain ⟨a32, ha32, h⟩ := bind_some h
 refine AWP.u (W.loadAgg Z Z Z Z Z Z Z (.j Z Z (.j Z Z (.J Z Z Z Z (Y8 ha32) Z (.j Z Z (.ai Z Z Z (.ai Z Z Z (W.alloc Z Z Z Z (.v Z Z (W.storeAgg Z Z Z Z Z Z Z (.nil (b6 (.q ?_)))))))))))))
 obtain ⟨a38, ha38, h⟩ := bind_some h
 refine AWP.u (W.loadAgg Z Z Z Z Z Z Z (.j Z Z (.j Z Z (.J Z Z Z Z (ae2 ha38) Z (W.alloc Z Z Z Z (W.storeAgg Z Z Z Z Z Z Z (.nil (b6 (.q (.q (.u (W.fieldAddr Z Z Z Z (.E Z Z Z Z Z Z (.neq Z Z Z (.nil (b6 (.iteN Z h (fun hc4 h => ?_) (fun hc4 h => ?_))))))))))))))))))
 ·obtain ⟨t5, hx6, h⟩ := bind_some h
  refine AWP.seqJ (⟨[(6, .c (bool t5))], []⟩) ?_ ?_
  ·rcases bft ((decide (a25.2.code = a38.code)) && (decide (a25.2.index = a38.index))) with hb7 | hb7
   ·replace hx6 := F2 hb7 hx6
    rcases bft ((decide (a32.2.code = a38.code)) && (decide (a32.2.index = a38.index))) with hb8 | hb8
    ·replace hx6 := F2 hb8 hx6
     rcases bft (decide (w64 ((a25.1.length : Int) + (a32.1.length : Int)) = 0)) with hb9 | hb9
     ·replace hx6 := v8 hb9 hx6
      obtain ⟨a59, ha59, hx6⟩ := bind_some hx6
      refine AWP.u (W.loadAgg Z Z Z Z Z Z Z (W.loadAgg Z Z Z Z Z Z Z (.eqlP Z Z Z Z Z Z Z (.j Z Z (.z Z Z Z hb7 (W.loadAgg Z Z Z Z Z Z Z (.z Z Z Z hb7 (W.loadAgg Z Z Z Z Z Z Z (.z Z Z Z hb7 (.eqlP Z Z Z Z Z Z Z (.U Z hb7 Z Z (.j Z Z (.z Z Z Z hb8 (.j Z Z ?_))))))))))))))
      refine AOps.z Z Z Z hb8 ?_; refine S.len Z Z (fun hl52 => ?_)
      refine AOps.z Z Z Z hb8 (.j Z Z ?_)
      refine AOps.z Z Z Z hb8 ?_; refine S.len Z Z (fun hl54 => ?_)
      refine AOps.z Z Z Z hb8 (S.add Z Z Z (.z Z Z Z hb8 (.ab Z Z Z (.U Z hb8 Z Z (.j Z Z (.z Z Z Z hb9 (.J Z Z Z Z (Q5 ha59) Z (.U Z hb9 Z Z (.v Z Z (.nil ?_))))))))))
      obtain rfl := oi hx6
      refine b6 (Sub.cut ⟨Z, Y⟩ Z trivial Z)
     ·replace hx6 := v7 hb9 hx6
      refine AWP.u (W.loadAgg Z Z Z Z Z Z Z (W.loadAgg Z Z Z Z Z Z Z (.eqlP Z Z Z Z Z Z Z (.j Z Z (.z Z Z Z hb7 (W.loadAgg Z Z Z Z Z Z Z (.z Z Z Z hb7 (W.loadAgg Z Z Z Z Z Z Z (.z Z Z Z hb7 (.eqlP Z Z Z Z Z Z Z (.U Z hb7 Z Z (.j Z Z (.z Z Z Z hb8 (.j Z Z ?_))))))))))))))
      refine AOps.z Z Z Z hb8 ?_; refine S.len Z Z (fun hl52 => ?_)
      refine AOps.z Z Z Z hb8 (.j Z Z ?_)
      refine AOps.z Z Z Z hb8 ?_; refine S.len Z Z (fun hl54 => ?_)
      refine AOps.z Z Z Z hb8 (S.add Z Z Z (.z Z Z Z hb8 (.ab Z Z Z (.U Z hb8 Z Z (.j Z Z (.B Z Z Z hb9 (.aa Z hb9 Z Z (.v Z Z (.nil ?_)))))))))
      obtain rfl := oi hx6
      refine b6 (Sub.cut ⟨Z, Y⟩ Z trivial Z)
    ·replace hx6 := F0 hb8 hx6
     refine AWP.u (W.loadAgg Z Z Z Z Z Z Z (W.loadAgg Z Z Z Z Z Z Z (.eqlP Z Z Z Z Z Z Z (.j Z Z (.z Z Z Z hb7 (W.loadAgg Z Z Z Z Z Z Z (.z Z Z Z hb7 (W.loadAgg Z Z Z Z Z Z Z (.z Z Z Z hb7 (.eqlP Z Z Z Z Z Z Z (.U Z hb7 Z Z (.j Z Z (.B Z Z Z hb8 (.B Z Z Z hb8 (.B Z Z Z hb8 (.B Z Z Z hb8 (.B Z Z Z hb8 (.B Z Z Z hb8 (.aa Z hb8 Z Z (.j Z Z (.B Z Z Z Z (.aa Z Z Z Z (.v Z Z (.nil ?_))))))))))))))))))))))))
     obtain rfl := oi hx6
     refine b6 (Sub.cut ⟨Z, Y⟩ Z trivial Z)
   ·replace hx6 := F0 hb7 hx6
    refine AWP.u (W.loadAgg Z Z Z Z Z Z Z (W.loadAgg Z Z Z Z Z Z Z (.eqlP Z Z Z Z Z Z Z (.j Z Z (.B Z Z Z hb7 (.B Z Z Z hb7 (.B Z Z Z hb7 (.aa Z hb7 Z Z (.j Z Z (.B Z Z Z Z (.B Z Z Z Z (.B Z Z Z Z (.B Z Z Z Z (.B Z Z Z Z (.B Z Z Z Z (.aa Z Z Z Z (.j Z Z (.B Z Z Z Z (.aa Z Z Z Z (.v Z Z (.nil ?_)))))))))))))))))))))
    obtain rfl := oi hx6
    refine b6 (Sub.cut ⟨Z, Y⟩ Z trivial Z)
  ·refine AWP.ret (e9 ?_)
   obtain rfl := oi h
   exact Done.ret Z Z
 ·refine AWP.skip (b6 (.q ?_))
  obtain ⟨a63, ha63, h⟩ := bind_some h
  refine AWP.u (W.loadAgg Z Z Z Z Z Z Z (.J Z Z Z Z (ref1_Reached_ok ha63) Z (.j Z Z (.ai Z Z Z (.ai Z Z Z (.v Z Z (.v Z Z (.nil (b6 (.q (.seqJ (⟨[(1, .c (row 1 f5 goals)), (2, .c (row 1 intI observed)), (3, .c (.ptr 0 0 0)), (7, .c (row 2 j8 a25.1)), (8, .c (.ptr 1 0 0)), (9, .c (row 1 intI a32.1)), (10, .c (.ptr 2 0 0)), (12, .c (row 1 f5 a63.1)), (72, .c (bool ((!a63.2) || (decide (60 < (a63.1.length : Int))))))], [.one (.cells 4 [(tT t)]), .one (.cells 2 [[int a25.2.code, int a25.2.index]]), .one (.cells 2 [[int a32.2.code, int a32.2.index]]), .one (.cells 2 [[int a38.code, int a38.index]])]⟩) ?_ ?_)))))))))))
  ·rcases bft (!a63.2) with hb1 | hb1
   ·refine AWP.u (.j Z Z (.ac Z Z (.j Z Z (.B Z Z Z hb1 (.B Z Z Z hb1 (.B Z Z Z hb1 (.U Z hb1 Z Z (.nil (b6 ?_)))))))))
    simp only [and_t hb1, or_t hb1, Bool.false_or, Bool.true_or, Bool.false_and, Bool.true_and]
    exact Sub.env ⟨Z, Z, Z, Z, Z, Z, Z, Z, Z, Y⟩
   ·refine AWP.u (.j Z Z (.ac Z Z (.j Z Z (.z Z Z Z hb1 (.j Z Z ?_)))))
    refine AOps.z Z Z Z hb1 ?_; refine S.len Z Z (fun hl70 => ?_)
    refine AOps.z Z Z Z hb1 (.gtr Z Z Z (.aa Z hb1 Z Z (.nil (b6 ?_))))
    simp only [and_f hb1, or_f hb1, Bool.false_or, Bool.true_or, Bool.false_and, Bool.true_and]
    exact Sub.env ⟨Z, Z, Z, Z, Z, Z, Z, Z, Z, Y⟩
  ·refine AWP.ah Z h (fun hc10 h => ?_) (fun hc10 h => ?_)
   ·refine AWP.q ?_
    obtain ⟨a73, ha73, h⟩ := bind_some h
    refine AWP.u (.J Z Z Z Z (Q5 ha73) Z (.v Z Z (.nil (b6 (.ret (e9 ?_))))))
    obtain rfl := oi h
    exact Done.ret Z Z
   ·refine AWP.skip (b6 (.q (.u (.v Z Z (.nil (b6 (.q (.u (.v Z Z (.nil (b6 (.q (.q (.u (.v Z Z (.nil (b6 (.O (.virtV 2 j8 14 Z Z Z ?_)))))))))))))))))))
    obtain ⟨⟨c11, least12⟩, ho1, h⟩ := bind_some h
    try dsimp only at h
    refine AWP.forS ho1 (fun iv13 (c11, least12) => ⟨[(1, .c (row 1 f5 goals)), (2, .c (row 1 intI observed)), (3, .c (.ptr 0 0 0)), (7, .c (row 2 j8 a25.1)), (8, .c (.ptr 1 0 0)), (9, .c (row 1 intI a32.1)), (10, .c (.ptr 2 0 0)), (12, .c (row 1 f5 a63.1)), (14, .c (.own 4 0 c11.length)), (15, .c (int least12)), (16, .c (int iv13))], [.one (.cells 4 [(tT t)]), .one (.cells 2 [[int a25.2.code, int a25.2.index]]), .one (.cells 2 [[int a32.2.code, int a32.2.index]]), .dead, .one (vec 2 j8 c11)]⟩) (fun (c11, least12) e st => e = .exit 0 ∧ Sub [] st ⟨[(7, .c (row 2 j8 a25.1)), (8, .c (.ptr 1 0 0)), (9, .c (row 1 intI a32.1)), (10, .c (.ptr 2 0 0)), (14, .c (.own 4 0 c11.length)), (15, .c (int least12))], [.one (.cells 4 [(tT t)]), .one (.cells 2 [[int a25.2.code, int a25.2.index]]), .one (.cells 2 [[int a32.2.code, int a32.2.index]]), .dead, .one (vec 2 j8 c11)]⟩) ?_ ?_ ?_ ?_
    ·try dsimp only
     exact Sub.cut ⟨Z, Z, Z, Z, Z, Z, Z, Z, (E0 (by first | rfl | simp only [List.length_set])), Z, Z, Y⟩ Z ⟨.one Z, .one Z, .one Z, .dead, .vec, Y⟩ Z
    ·intro iv13 s hloiv13 hltiv13 _
     obtain ⟨c11, least12⟩ := s
     try dsimp only
     refine AWP.q (.q (.u (.j Z Z (.j Z Z (S.len Z Z (fun hl76 => .F Z Z Z (.nil (b6 (.ae Z hltiv13 (.exit (e8 (e8 ⟨Z, ?_⟩))))))))))))
     exact Sub.env ⟨Z, Z, Z, Z, Z, Z, Y⟩
    ·intro iv13 s o hloiv13 hltiv13 h
     obtain ⟨c11, least12⟩ := s
     unfold v6 at h
     try dsimp only at h ⊢
     refine AWP.q (.q (.u (.j Z Z (.j Z Z (S.len Z Z (fun hl76 => .F Z Z Z (.nil (b6 (.af Z hltiv13 (.skip (b6 ?_)))))))))))
     obtain ⟨⟨c14, least15⟩, hx16, h⟩ := bind_some h
     refine AWP.seqJ (⟨[(1, .c (row 1 f5 goals)), (2, .c (row 1 intI observed)), (3, .c (.ptr 0 0 0)), (7, .c (row 2 j8 a25.1)), (8, .c (.ptr 1 0 0)), (9, .c (row 1 intI a32.1)), (10, .c (.ptr 2 0 0)), (12, .c (row 1 f5 a63.1)), (14, .c (.own 4 0 c14.length)), (15, .c (int least15)), (16, .c (int iv13))], [.one (.cells 4 [(tT t)]), .one (.cells 2 [[int a25.2.code, int a25.2.index]]), .one (.cells 2 [[int a32.2.code, int a32.2.index]]), .dead, .one (vec 2 j8 c14)]⟩) ?_ ?_
     ·refine AWP.O (.q ?_)
      obtain ⟨a84, ha84, a87, ha87, hx16⟩ := b2 hx16
      refine AWP.drawI mixed Z ?_
      refine i4.consF Z (fun E => W.loadAgg Z Z Z Z Z Z Z .N) Z (.consF Z (fun E => AOps.j Z Z .N) Z (.consF Z (fun E => AOps.j Z Z .N) Z (.consF Z (fun E => AOps.j Z Z .N) Z (.consF Z (fun E => S.idx ha84 Z Z Z Z .N) Z (.consF Z (fun E => AOps.ad Z Z Z Z .N) Z (.consF Z (fun E => AOps.j Z Z .N) Z (.consF Z (fun E => AOps.J Z Z Z Z (Y9 ha87) Z .N) Z (.consF Z (fun E => AOps.v Z Z .N) Z ?_))))))))
      refine i4.done ?_
      dsimp only [k6]
      refine b6 (.q ?_)
      obtain ⟨a92, ha92, a94, ha94, hx16⟩ := b2 hx16
      refine AWP.drawI mixed Z ?_
      refine i4.consF Z (fun E => W.loadAgg Z Z Z Z Z Z Z .N) Z (.consF Z (fun E => AOps.j Z Z .N) Z (.consF Z (fun E => AOps.j Z Z .N) Z (.consF Z (fun E => AOps.j Z Z .N) Z (.consF Z (fun E => S.idx ha92 Z Z Z Z .N) Z (.consF Z (fun E => AOps.ad Z Z Z Z .N) Z (.consF Z (fun E => AOps.J Z Z Z Z (f9.nil (by exact ⟨⟨(.inl Z), (.inl Z), (.inl Z), (.inl Z), Y⟩, (.inl Z), (.inl Z), (.inr ⟨Z, _, Z⟩), Y⟩) (Y9 ha94)) Z .N) Z (.consF Z (fun E => AOps.v Z Z .N) Z ?_)))))))
      refine i4.done ?_
      dsimp only [k6]
      refine b6 (.q ?_)
      obtain ⟨a100, ha100, hx16⟩ := bind_some hx16
      refine AWP.u (.j Z Z (.j Z Z (.j Z Z (.buildA Z Z Z Z (S.lit (f := j8) (l := [(a87, a94)]) (ess := [[int a87, int a94]]) Z Z Z Z Z Z Z ⟨⟨.inl Z, .inl Z, Y⟩, Y⟩ Z Z Z (S.append (f := j8) ha100 Z Z Z Z Z Z (.own Z Z) Z Z Z Z (.v Z Z (.nil (b6 (.seqJ (⟨[(1, .c (row 1 f5 goals)), (2, .c (row 1 intI observed)), (3, .c (.ptr 0 0 0)), (7, .c (row 2 j8 a25.1)), (8, .c (.ptr 1 0 0)), (9, .c (row 1 intI a32.1)), (10, .c (.ptr 2 0 0)), (12, .c (row 1 f5 a63.1)), (14, .c (.own 6 0 a100.length)), (15, .c (int least12)), (16, .c (int iv13)), (17, .c (int a87)), (18, .c (int a94)), (109, .c (bool ((decide (a87 < 1000000000)) && (decide (w64 (a87 - a94) < least12)))))], [.one (.cells 4 [(tT t)]), .one (.cells 2 [[int a25.2.code, int a25.2.index]]), .one (.cells 2 [[int a32.2.code, int a32.2.index]]), .dead, .dead, .one (vec 2 j8 [(a87, a94)]), .one (vec 2 j8 a100)]⟩) ?_ ?_))))))))))
      ·rcases bft (decide (a87 < 1000000000)) with hb1 | hb1
       ·refine AWP.u (.j Z Z (.F Z Z Z (.j Z Z (.z Z Z Z hb1 (.j Z Z (.z Z Z Z hb1 (.j Z Z (.z Z Z Z hb1 (S.sub Z Z Z (.z Z Z Z hb1 (.j Z Z (.z Z Z Z hb1 (.F Z Z Z (.U Z hb1 Z Z (.nil (b6 ?_))))))))))))))))
        simp only [and_t hb1, or_t hb1, Bool.false_or, Bool.true_or, Bool.false_and, Bool.true_and]
        exact Sub.env ⟨Z, Z, Z, Z, Z, Z, Z, Z, Z, Z, Z, Z, Z, Z, Y⟩
       ·refine AWP.u (.j Z Z (.F Z Z Z (.j Z Z (.B Z Z Z hb1 (.B Z Z Z hb1 (.B Z Z Z hb1 (.B Z Z Z hb1 (.B Z Z Z hb1 (.aa Z hb1 Z Z (.nil (b6 ?_)))))))))))
        simp only [and_f hb1, or_f hb1, Bool.false_or, Bool.true_or, Bool.false_and, Bool.true_and]
        exact Sub.env ⟨Z, Z, Z, Z, Z, Z, Z, Z, Z, Z, Z, Z, Z, Z, Y⟩
      ·refine AWP.j (env' := [(1, .c (row 1 f5 goals)), (2, .c (row 1 intI observed)), (3, .c (.ptr 0 0 0)), (7, .c (row 2 j8 a25.1)), (8, .c (.ptr 1 0 0)), (9, .c (row 1 intI a32.1)), (10, .c (.ptr 2 0 0)), (12, .c (row 1 f5 a63.1)), (14, .c (.own 4 0 a100.length)), (15, .c (int least12)), (16, .c (int iv13)), (17, .c (int a87)), (18, .c (int a94)), (109, .c (bool ((decide (a87 < 1000000000)) && (decide (w64 (a87 - a94) < least12)))))]) (σ' := [.one (.cells 4 [(tT t)]), .one (.cells 2 [[int a25.2.code, int a25.2.index]]), .one (.cells 2 [[int a32.2.code, int a32.2.index]]), .dead, .one (vec 2 j8 a100), .one (vec 2 j8 [(a87, a94)])]) 4 6 Z Z Z ⟨Z, Z, Z, Z, Z, Z, Z, Z, Z, Z, Z, Z, Z, Z, Y⟩ Z ⟨⟨Z, Z⟩, ⟨Z, Z⟩, ⟨Z, Z⟩, trivial, ⟨Blk.im_ok _ _ _, i8 Z⟩, ⟨Blk.im_ok _ _ _, i8 Z⟩, Y⟩ (.ah Z hx16 (fun hc17 hx16 => ?_) (fun hc17 hx16 => ?_))
       ·refine AWP.u (.j Z Z (.j Z Z (S.sub Z Z Z (.v Z Z (.nil (e6 ?_))))))
        obtain ⟨ej0, ej1⟩ := o2 hx16
        subst ej0 ej1
        refine b6 (Sub.cut ⟨Z, Z, Z, Z, Z, Z, Z, Z, Z, Z, Z, Y⟩ Z ⟨.one Z, .one Z, .one Z, .dead, .vec, Y⟩ Z)
       ·refine AWP.skip (e6 ?_)
        obtain ⟨ej0, ej1⟩ := o2 hx16
        subst ej0 ej1
        refine b6 (Sub.cut ⟨Z, Z, Z, Z, Z, Z, Z, Z, Z, Z, Z, Y⟩ Z ⟨.one Z, .one Z, .one Z, .dead, .vec, Y⟩ Z)
     ·try dsimp only at h
      refine AWP.u (.j Z Z (.add Z Z Z (by omega) (.v Z Z (.nil ?_))))
      obtain rfl := oi h
      refine b6 (Sub.env ⟨Z, Z, Z, Z, Z, Z, Z, Z, Z, Z, Z, Y⟩)
    ·intro e s hq
     obtain ⟨rfl, hs⟩ := hq
     refine ⟨_, hs, ?_⟩
     refine h9 (b6 (.q (.u (.v Z Z (.nil (b6 (.q (.q (.u (.v Z Z (.nil (b6 (.O (.virtV 1 intI 19 Z Z Z ?_))))))))))))))
     obtain ⟨c18, ho2, h⟩ := bind_some h
     refine AWP.forS ho2 (fun iv19 c18 => ⟨[(7, .c (row 2 j8 a25.1)), (8, .c (.ptr 1 0 0)), (9, .c (row 1 intI a32.1)), (10, .c (.ptr 2 0 0)), (14, .c (.own 4 0 c11.length)), (15, .c (int least12)), (19, .c (.own 5 0 c18.length)), (20, .c (int iv19))], [.dead, .one (.cells 2 [[int a25.2.code, int a25.2.index]]), .one (.cells 2 [[int a32.2.code, int a32.2.index]]), .dead, .one (vec 2 j8 c11), .one (vec 1 intI c18)]⟩) (fun c18 e st => e = .exit 2 ∧ Sub [] st ⟨[(7, .c (row 2 j8 a25.1)), (8, .c (.ptr 1 0 0)), (9, .c (row 1 intI a32.1)), (10, .c (.ptr 2 0 0)), (14, .c (.own 4 0 c11.length)), (19, .c (.own 5 0 c18.length))], [.dead, .one (.cells 2 [[int a25.2.code, int a25.2.index]]), .one (.cells 2 [[int a32.2.code, int a32.2.index]]), .dead, .one (vec 2 j8 c11), .one (vec 1 intI c18)]⟩) ?_ ?_ ?_ ?_
     ·try dsimp only
      exact Sub.cut ⟨Z, Z, Z, Z, Z, Z, (E0 (by first | rfl | simp only [List.length_set])), Z, Y⟩ Z ⟨.dead, .one Z, .one Z, .dead, .vec, .vec, Y⟩ Z
     ·intro iv19 c18 hloiv19 hltiv19 _
      try dsimp only
      refine AWP.q (.q (.u (.j Z Z (.j Z Z (S.lenO Z Z Z (fun hl115 => .F Z Z Z (.nil (b6 (.ae Z hltiv19 (.exit (e8 (e8 ⟨Z, ?_⟩))))))))))))
      exact Sub.env ⟨Z, Z, Z, Z, Z, Z, Y⟩
     ·intro iv19 c18 o hloiv19 hltiv19 h
      unfold u9 at h
      try dsimp only at h ⊢
      refine AWP.q (.q (.u (.j Z Z (.j Z Z (S.lenO Z Z Z (fun hl115 => .F Z Z Z (.nil (b6 (.af Z hltiv19 (.skip (b6 ?_)))))))))))
      obtain ⟨c20, hx21, h⟩ := bind_some h
      refine AWP.seqJ (⟨[(7, .c (row 2 j8 a25.1)), (8, .c (.ptr 1 0 0)), (9, .c (row 1 intI a32.1)), (10, .c (.ptr 2 0 0)), (14, .c (.own 4 0 c11.length)), (15, .c (int least12)), (19, .c (.own 7 0 c20.length)), (20, .c (int iv19))], [.dead, .one (.cells 2 [[int a25.2.code, int a25.2.index]]), .one (.cells 2 [[int a32.2.code, int a32.2.index]]), .dead, .one (vec 2 j8 c11), .dead, .dead, .one (vec 1 intI c20)]⟩) ?_ ?_
      ·refine AWP.O ?_
       obtain ⟨t22, hx23, hx21⟩ := bind_some hx21
       refine AWP.seqJ (⟨[(7, .c (row 2 j8 a25.1)), (8, .c (.ptr 1 0 0)), (9, .c (row 1 intI a32.1)), (10, .c (.ptr 2 0 0)), (14, .c (.own 4 0 c11.length)), (15, .c (int least12)), (19, .c (.own 5 0 c18.length)), (20, .c (int iv19)), (139, .c (bool t22))], [.dead, .one (.cells 2 [[int a25.2.code, int a25.2.index]]), .one (.cells 2 [[int a32.2.code, int a32.2.index]]), .dead, .one (vec 2 j8 c11), .one (vec 1 intI c18)]⟩) ?_ ?_
       ·obtain ⟨a121, ha121, hx23⟩ := bind_some hx23
        rcases bft (decide (a121.1 < 1000000000)) with hb24 | hb24
        ·replace hx23 := v8 hb24 hx23
         obtain ⟨a128, ha128, a133, ha133, hx23⟩ := b2 hx23
         refine AWP.drawI mixed Z ?_
         refine i4.consF Z (fun E => AOps.j Z Z .N) Z (.consF Z (fun E => AOps.j Z Z .N) Z (.consF Z (fun E => S.idxO ha121 Z Z Z Z Z .N) Z (.consF Z (fun E => W.idxArr Z Z Z Z (Nat.le_of_ble_eq_true Z) Z .N) Z (.consF Z (fun E => S.loadO ha121 Z Z Z Z Z .N) Z (.consF Z (fun E => AOps.F Z Z Z .N) Z (.consF Z (fun E => AOps.j Z Z .N) Z (.consF Z (fun E => AOps.z Z Z Z hb24 (.j Z Z .N)) Z (.consF Z (fun E => AOps.z Z Z Z hb24 (.j Z Z .N)) Z (.consF Z (fun E => AOps.z Z Z Z hb24 (S.idxO ha128 Z Z Z Z Z .N)) Z (.consF Z (fun E => AOps.z Z Z Z hb24 (W.idxArr Z Z Z Z (Nat.le_of_ble_eq_true Z) Z .N)) Z (.consF Z (fun E => AOps.z Z Z Z hb24 (S.loadO ha128 Z Z Z Z Z .N)) Z (.consF Z (fun E => AOps.z Z Z Z hb24 (.j Z Z .N)) Z (.consF Z (fun E => AOps.z Z Z Z hb24 (.j Z Z .N)) Z (.consF Z (fun E => AOps.z Z Z Z hb24 (S.idxO ha133 Z Z Z Z Z .N)) Z (.consF Z (fun E => AOps.z Z Z Z hb24 (W.idxArr Z Z Z Z (Nat.le_of_ble_eq_true Z) Z .N)) Z (.consF Z (fun E => AOps.z Z Z Z hb24 (S.loadO ha133 Z Z Z Z Z .N)) Z (.consF Z (fun E => AOps.z Z Z Z hb24 (S.sub Z Z Z .N)) Z (.consF Z (fun E => AOps.z Z Z Z hb24 (.j Z Z .N)) Z (.consF Z (fun E => AOps.z Z Z Z hb24 (.ab Z Z Z .N)) Z (.consF Z (fun E => AOps.U Z hb24 Z Z .N) Z ?_))))))))))))))))))))
         refine i4.done ?_
         dsimp only [k6]
         obtain rfl := oi hx23
         refine b6 (Sub.env ⟨Z, Z, Z, Z, Z, Z, Z, Z, Z, Y⟩)
        ·replace hx23 := v7 hb24 hx23
         refine AWP.drawI mixed Z ?_
         refine i4.consF Z (fun E => AOps.j Z Z .N) Z (.consF Z (fun E => AOps.j Z Z .N) Z (.consF Z (fun E => S.idxO ha121 Z Z Z Z Z .N) Z (.consF Z (fun E => W.idxArr Z Z Z Z (Nat.le_of_ble_eq_true Z) Z .N) Z (.consF Z (fun E => S.loadO ha121 Z Z Z Z Z .N) Z (.consF Z (fun E => AOps.F Z Z Z .N) Z (.consF Z (fun E => AOps.j Z Z .N) Z (.consF Z (fun E => AOps.B Z Z Z hb24 .N) Z (.consF Z (fun E => AOps.B Z Z Z hb24 .N) Z (.consF Z (fun E => AOps.B Z Z Z hb24 .N) Z (.consF Z (fun E => AOps.B Z Z Z hb24 .N) Z (.consF Z (fun E => AOps.B Z Z Z hb24 .N) Z (.consF Z (fun E => AOps.B Z Z Z hb24 .N) Z (.consF Z (fun E => AOps.B Z Z Z hb24 .N) Z (.consF Z (fun E => AOps.B Z Z Z hb24 .N) Z (.consF Z (fun E => AOps.B Z Z Z hb24 .N) Z (.consF Z (fun E => AOps.B Z Z Z hb24 .N) Z (.consF Z (fun E => AOps.B Z Z Z hb24 .N) Z (.consF Z (fun E => AOps.B Z Z Z hb24 .N) Z (.consF Z (fun E => AOps.B Z Z Z hb24 .N) Z (.consF Z (fun E => AOps.aa Z hb24 Z Z .N) Z ?_))))))))))))))))))))
         refine i4.done ?_
         dsimp only [k6]
         obtain rfl := oi hx23
         refine b6 (Sub.env ⟨Z, Z, Z, Z, Z, Z, Z, Z, Z, Y⟩)
       ·refine AWP.ah Z hx21 (fun hc25 hx21 => ?_) (fun hc25 hx21 => ?_)
        ·obtain ⟨a143, ha143, hx21⟩ := bind_some hx21
         refine AWP.u (.j Z Z (.j Z Z (S.lit (f := intI) (l := [iv19]) (ess := [[int iv19]]) Z Z Z Z Z Z Z ⟨⟨.inl Z, Y⟩, Y⟩ Z Z Z (S.append (f := intI) ha143 Z Z Z Z Z Z (.own Z Z) Z Z Z Z (.v Z Z (.nil (e6 ?_)))))))
         obtain rfl := oi hx21
         refine b6 (Sub.cut ⟨Z, Z, Z, Z, Z, Z, Z, Z, Y⟩ Z ⟨.dead, .one Z, .one Z, .dead, .vec, .dead, .dead, .vec, Y⟩ Z)
        ·refine AWP.skip (e6 ?_)
         obtain rfl := oi hx21
         refine b6 ((Sub.move (env' := [(7, .c (row 2 j8 a25.1)), (8, .c (.ptr 1 0 0)), (9, .c (row 1 intI a32.1)), (10, .c (.ptr 2 0 0)), (14, .c (.own 4 0 c11.length)), (15, .c (int least12)), (19, .c (.own 7 0 c18.length)), (20, .c (int iv19))]) (σ' := [.dead, .one (.cells 2 [[int a25.2.code, int a25.2.index]]), .one (.cells 2 [[int a32.2.code, int a32.2.index]]), .dead, .one (vec 2 j8 c11), .dead, .dead, .one (vec 1 intI c18)]) 7 5 Z Z Z ⟨Z, Z, Z, Z, Z, Z, Z, Z, Y⟩ Z ⟨trivial, ⟨Z, Z⟩, ⟨Z, Z⟩, trivial, ⟨Blk.im_ok _ _ _, i8 Z⟩, trivial, trivial, ⟨Blk.im_ok _ _ _, i8 Z⟩, Y⟩).trans (Sub.env ⟨Z, Z, Z, Z, Z, Z, Z, Z, Y⟩))
      ·refine AWP.u (.j Z Z (.add Z Z Z (by omega) (.v Z Z (.nil ?_))))
       obtain rfl := oi h
       refine b6 ((Sub.move (env' := [(7, .c (row 2 j8 a25.1)), (8, .c (.ptr 1 0 0)), (9, .c (row 1 intI a32.1)), (10, .c (.ptr 2 0 0)), (14, .c (.own 4 0 c11.length)), (15, .c (int least12)), (19, .c (.own 5 0 c20.length)), (20, .c (int (iv19 + 1)))]) (σ' := [.dead, .one (.cells 2 [[int a25.2.code, int a25.2.index]]), .one (.cells 2 [[int a32.2.code, int a32.2.index]]), .dead, .one (vec 2 j8 c11), .one (vec 1 intI c20), .dead]) 5 7 Z Z Z ⟨Z, Z, Z, Z, Z, Z, Z, Z, Y⟩ Z ⟨trivial, ⟨Z, Z⟩, ⟨Z, Z⟩, trivial, ⟨Blk.im_ok _ _ _, i8 Z⟩, ⟨Blk.im_ok _ _ _, i8 Z⟩, trivial, Y⟩).trans (Sub.cut ⟨Z, Z, Z, Z, Z, Z, Z, Z, Y⟩ Z ⟨.dead, .one Z, .one Z, .dead, .vec, .vec, Y⟩ Z))
     ·intro e s hq
      obtain ⟨rfl, hs⟩ := hq
      refine ⟨_, hs, ?_⟩
      refine h9 (b6 ?_)
      obtain ⟨t26, hx27, h⟩ := bind_some h
      refine AWP.seqJ (⟨[(6, .c (bool t26))], []⟩) ?_ ?_
      ·rcases bft (decide (a25.2.code = 0)) with hb28 | hb28
       ·replace hx27 := v8 hb28 hx27
        rcases bft (decide (a32.2.code = 0)) with hb29 | hb29
        ·replace hx27 := v8 hb29 hx27
         obtain ⟨a155, ha155, hx27⟩ := bind_some hx27
         rcases bft (a155) with hb30 | hb30
         ·replace hx27 := F2 hb30 hx27
          obtain ⟨a160, ha160, hx27⟩ := bind_some hx27
          rcases bft (a160) with hb31 | hb31
          ·replace hx27 := F2 hb31 hx27
           obtain ⟨a163, ha163, hx27⟩ := bind_some hx27
           refine AWP.u (W.fieldAddr Z Z Z Z (.E Z Z Z Z Z Z (.ab Z Z Z (.j Z Z (.z Z Z Z hb28 (W.fieldAddr Z Z Z Z (.z Z Z Z hb28 (.E Z Z Z Z Z Z (.z Z Z Z hb28 (.ab Z Z Z (.U Z hb28 Z Z (.j Z Z (.z Z Z Z hb29 (.j Z Z (.z Z Z Z hb29 (.j Z Z (.z Z Z Z hb29 (.aj Z Z (.cons (.c .imm) (.cons (.c (.own Z Z)) .nil)) Z (G0 ha155) Z (.U Z hb29 Z Z (.j Z Z (.z Z Z Z hb30 (.j Z Z (.z Z Z Z hb30 (.j Z Z (.z Z Z Z hb30 (.aj Z Z (.cons (.c .imm) (.cons (.c (.own Z Z)) .nil)) Z (S0 ha160) Z (.U Z hb30 Z Z (.j Z Z (.z Z Z Z hb31 (.J Z Z Z Z (Q5 ha163) Z (.U Z hb31 Z Z (.v Z Z (.nil ?_)))))))))))))))))))))))))))))))))
           obtain rfl := oi hx27
           refine b6 (Sub.cut ⟨Z, Y⟩ Z trivial Z)
          ·replace hx27 := F0 hb31 hx27
           refine AWP.u (W.fieldAddr Z Z Z Z (.E Z Z Z Z Z Z (.ab Z Z Z (.j Z Z (.z Z Z Z hb28 (W.fieldAddr Z Z Z Z (.z Z Z Z hb28 (.E Z Z Z Z Z Z (.z Z Z Z hb28 (.ab Z Z Z (.U Z hb28 Z Z (.j Z Z (.z Z Z Z hb29 (.j Z Z (.z Z Z Z hb29 (.j Z Z (.z Z Z Z hb29 (.aj Z Z (.cons (.c .imm) (.cons (.c (.own Z Z)) .nil)) Z (G0 ha155) Z (.U Z hb29 Z Z (.j Z Z (.z Z Z Z hb30 (.j Z Z (.z Z Z Z hb30 (.j Z Z (.z Z Z Z hb30 (.aj Z Z (.cons (.c .imm) (.cons (.c (.own Z Z)) .nil)) Z (S0 ha160) Z (.U Z hb30 Z Z (.j Z Z (.B Z Z Z hb31 (.aa Z hb31 Z Z (.v Z Z (.nil ?_))))))))))))))))))))))))))))))))
           obtain rfl := oi hx27
           refine b6 (Sub.cut ⟨Z, Y⟩ Z trivial Z)
         ·replace hx27 := F0 hb30 hx27
          refine AWP.u (W.fieldAddr Z Z Z Z (.E Z Z Z Z Z Z (.ab Z Z Z (.j Z Z (.z Z Z Z hb28 (W.fieldAddr Z Z Z Z (.z Z Z Z hb28 (.E Z Z Z Z Z Z (.z Z Z Z hb28 (.ab Z Z Z (.U Z hb28 Z Z (.j Z Z (.z Z Z Z hb29 (.j Z Z (.z Z Z Z hb29 (.j Z Z (.z Z Z Z hb29 (.aj Z Z (.cons (.c .imm) (.cons (.c (.own Z Z)) .nil)) Z (G0 ha155) Z (.U Z hb29 Z Z (.j Z Z (.B Z Z Z hb30 (.B Z Z Z hb30 (.B Z Z Z hb30 (.aa Z hb30 Z Z (.j Z Z (.B Z Z Z Z (.aa Z Z Z Z (.v Z Z (.nil ?_)))))))))))))))))))))))))))))
          obtain rfl := oi hx27
          refine b6 (Sub.cut ⟨Z, Y⟩ Z trivial Z)
        ·replace hx27 := v7 hb29 hx27
         refine AWP.u (W.fieldAddr Z Z Z Z (.E Z Z Z Z Z Z (.ab Z Z Z (.j Z Z (.z Z Z Z hb28 (W.fieldAddr Z Z Z Z (.z Z Z Z hb28 (.E Z Z Z Z Z Z (.z Z Z Z hb28 (.ab Z Z Z (.U Z hb28 Z Z (.j Z Z (.B Z Z Z hb29 (.B Z Z Z hb29 (.B Z Z Z hb29 (.aa Z hb29 Z Z (.j Z Z (.B Z Z Z Z (.B Z Z Z Z (.B Z Z Z Z (.aa Z Z Z Z (.j Z Z (.B Z Z Z Z (.aa Z Z Z Z (.v Z Z (.nil ?_))))))))))))))))))))))))))
         obtain rfl := oi hx27
         refine b6 (Sub.cut ⟨Z, Y⟩ Z trivial Z)
       ·replace hx27 := v7 hb28 hx27
        refine AWP.u (W.fieldAddr Z Z Z Z (.E Z Z Z Z Z Z (.ab Z Z Z (.j Z Z (.B Z Z Z hb28 (.B Z Z Z hb28 (.B Z Z Z hb28 (.aa Z hb28 Z Z (.j Z Z (.B Z Z Z Z (.B Z Z Z Z (.B Z Z Z Z (.aa Z Z Z Z (.j Z Z (.B Z Z Z Z (.B Z Z Z Z (.B Z Z Z Z (.aa Z Z Z Z (.j Z Z (.B Z Z Z Z (.aa Z Z Z Z (.v Z Z (.nil ?_)))))))))))))))))))))))
        obtain rfl := oi hx27
        refine b6 (Sub.cut ⟨Z, Y⟩ Z trivial Z)
      ·refine AWP.ret ?_
       obtain rfl := oi h
       exact Done.ret Z Z
end Ab
end
section
namespace Ab
open Go Go.Proofs
set_option maxHeartbeats 4000000
set_option linter.all false
attribute [local irreducible] AWP AOps thn inB Done f9 m7 Sub
end Ab
end
section
namespace Ab
open Go Go.Proofs
set_option maxHeartbeats 4000000
set_option linter.all false
attribute [local irreducible] AWP AOps thn inB Done f9 m7 Sub
end Ab
end
section
namespace Ab
open Go
theorem I6 {α : Type} {l : List α} {k : Nat} : ix l (k : Int) = l[k]? := by simp [ix]
theorem j7 {α : Type} {l : List α} {i : Int} (h0 : 0 ≤ i) (h1 : i < l.length) : ∃ a, ix l i = some a ∧ l[i.toNat]? = some a := by
 have h : i.toNat < l.length := by omega
 exact ⟨l[i.toNat], by simp [ix, h0, h], by simp [h]⟩
theorem l7 {α : Type} {l : List α} {i : Int} {a : α} (h : ix l i = some a) : 0 ≤ i ∧ i < l.length ∧ l[i.toNat]? = some a := by
 unfold ix at h
 split at h
 ·have := (List.getElem?_eq_some_iff.1 h).1
  exact ⟨by assumption, by omega, h⟩
 ·cases h
theorem m6 {n : Int} (h1 : -9223372036854775808 ≤ n) (h2 : n ≤ 9223372036854775807) : w64 n = n := w64_eq ⟨h1, h2⟩
theorem forN_inv {S : Type} {body : Int → S → Option S} (P : Int → S → Prop) : ∀ (k : Nat) (i : Int) (s : S), P i s →
  (∀ j s, i ≤ j → j < i + k → P j s → ∃ s', body j s = some s' ∧ P (j + 1) s') → ∃ s', forN body k i s = some s' ∧ P (i + k) s'
 | 0, i, s, h, _ => ⟨s, rfl, by simpa using h⟩
 | k + 1, i, s, h, hb => by
  obtain ⟨s1, h1, h2⟩ := hb i s (Int.le_refl _) (by omega) h
  obtain ⟨s2, h3, h4⟩ := forN_inv P k (i + 1) s1 h2 (fun j s g1 g2 => hb j s (by omega) (by omega))
  exact ⟨s2, by simp only [forN, h1]; exact h3, by rw [show i + ((k + 1 : Nat) : Int) = i + 1 + k by omega]; exact h4⟩
theorem E3 {S : Type} {body : Int → S → Option S} {n : Int} (P : Int → S → Prop) {s : S} (hn : 0 ≤ n) (h0 : P 0 s)
  (hb : ∀ j s, 0 ≤ j → j < n → P j s → ∃ s', body j s = some s' ∧ P (j + 1) s') : ∃ s', forR 0 n body s = some s' ∧ P n s' := by
 obtain ⟨s', h1, h2⟩ := forN_inv P (n - 0).toNat 0 s h0 (fun j s g1 g2 => hb j s g1 (by omega))
 exact ⟨s', h1, by rwa [show (0 : Int) + ((n - 0).toNat : Int) = n by omega] at h2⟩
theorem rngN_inv {S O : Type} {body : Int → S → Option (S ⊕ O)} (P : Int → S → Prop) (Q : O → Prop) : ∀ (k : Nat) (i : Int) (s : S), P i s →
  (∀ j s, i ≤ j → j < i + k → P j s → (∃ s', body j s = some (.inl s') ∧ P (j + 1) s') ∨ ∃ o, body j s = some (.inr o) ∧ Q o) →
  (∃ s', rngN body k i s = some (.inl s') ∧ P (i + k) s') ∨ ∃ o, rngN body k i s = some (.inr o) ∧ Q o
 | 0, i, s, h, _ => .inl ⟨s, rfl, by simpa using h⟩
 | k + 1, i, s, h, hb => by
  rcases hb i s (Int.le_refl _) (by omega) h with ⟨s1, h1, h2⟩ | ⟨o, h1, h2⟩
  ·rcases rngN_inv P Q k (i + 1) s1 h2 (fun j s g1 g2 => hb j s (by omega) (by omega)) with ⟨s2, h3, h4⟩ | ⟨o, h3, h4⟩
   ·exact .inl ⟨s2, by simp only [rngN, h1]; exact h3, by rw [show i + ((k + 1 : Nat) : Int) = i + 1 + k by omega]; exact h4⟩
   ·exact .inr ⟨o, by simp only [rngN, h1]; exact h3, h4⟩
  ·exact .inr ⟨o, by simp only [rngN, h1], h2⟩
theorem ac2 {S O : Type} {body : Int → S → Option (S ⊕ O)} {n : Int} (P : Int → S → Prop) (Q : O → Prop) {s : S} (hn : 0 ≤ n) (h0 : P 0 s)
  (hb : ∀ j s, 0 ≤ j → j < n → P j s → (∃ s', body j s = some (.inl s') ∧ P (j + 1) s') ∨ ∃ o, body j s = some (.inr o) ∧ Q o) :
  (∃ s', rngX 0 n body s = some (.inl s') ∧ P n s') ∨ ∃ o, rngX 0 n body s = some (.inr o) ∧ Q o := by
 rcases rngN_inv P Q (n - 0).toNat 0 s h0 (fun j s g1 g2 => hb j s g1 (by omega)) with ⟨s', h1, h2⟩ | h
 ·exact .inl ⟨s', h1, by rwa [show (0 : Int) + ((n - 0).toNat : Int) = n by omega] at h2⟩
 ·exact .inr h
theorem LoopN_inv {S O : Type} {body : S → Option (S ⊕ O)} (P : S → Prop) (Q : O → Prop) (μ : S → Nat) (hb : ∀ s, P s → (∃ s', body s = some (.inl s') ∧ P s' ∧ μ s' < μ s) ∨ ∃ o, body s = some (.inr o) ∧ Q o) :
  ∀ (k : Nat) (s : S), μ s < k → P s → ∃ o, N8 body k s = some o ∧ Q o
 | 0, s, h, _ => by omega
 | k + 1, s, h, hs => by
  rcases hb s hs with ⟨s', h1, h2, h3⟩ | ⟨o, h1, h2⟩
  ·obtain ⟨o, g1, g2⟩ := LoopN_inv P Q μ hb k s' (by omega) h2
   exact ⟨o, by simp only [N8, h1]; exact g1, g2⟩
  ·exact ⟨o, by simp only [N8, h1], h2⟩
theorem M1 {S O : Type} {body : S → Option (S ⊕ O)} (P : S → Prop) (Q : O → Prop) (μ : S → Nat) {s : S} (hs : P s)
  (hb : ∀ s, P s → (∃ s', body s = some (.inl s') ∧ P s' ∧ μ s' < μ s) ∨ ∃ o, body s = some (.inr o) ∧ Q o) : ∃ o, Loop body s = some o ∧ Q o := by
 obtain ⟨o, h1, h2⟩ := LoopN_inv P Q μ hb (μ s + 1) s (by omega) hs
 exact ⟨o, Loop_iff.2 ⟨_, h1⟩, h2⟩
/-! ### Two loops that do the same -/
theorem rngN_eq {S O : Type} {b1 b2 : Int → S → Option (S ⊕ O)} (P : Int → S → Prop) : ∀ (k : Nat) (i : Int) (s : S), P i s →
  (∀ j s, i ≤ j → j < i + k → P j s → b1 j s = b2 j s ∧ b1 j s ≠ none ∧ ∀ s', b1 j s = some (.inl s') → P (j + 1) s') →
  rngN b1 k i s = rngN b2 k i s ∧ rngN b1 k i s ≠ none ∧ ∀ s', rngN b1 k i s = some (.inl s') → P (i + k) s'
 | 0, i, s, h, _ => ⟨rfl, by simp [rngN], fun s' hs => by simp only [rngN, Option.some.injEq, Sum.inl.injEq] at hs; subst hs; simpa using h⟩
 | k + 1, i, s, h, hb => by
  obtain ⟨h1, h2, h3⟩ := hb i s (Int.le_refl _) (by omega) h
  simp only [rngN]
  rw [← h1]
  cases hc : b1 i s with
  | none => exact absurd hc h2
  | some x =>
   cases x with
   | inr o => exact ⟨rfl, by simp, fun s' hs => by simp at hs⟩
   | inl s1 =>
    dsimp only
    have := rngN_eq (b1 := b1) (b2 := b2) P k (i + 1) s1 (h3 s1 hc) (fun j s g1 g2 => hb j s (by omega) (by omega))
    rwa [show i + 1 + (k : Int) = i + ((k + 1 : Nat) : Int) by omega] at this
theorem rngX_eq {S O : Type} {b1 b2 : Int → S → Option (S ⊕ O)} {n : Int} (P : Int → S → Prop) {s : S} (hn : 0 ≤ n) (h0 : P 0 s)
  (hb : ∀ j s, 0 ≤ j → j < n → P j s → b1 j s = b2 j s ∧ b1 j s ≠ none ∧ ∀ s', b1 j s = some (.inl s') → P (j + 1) s') :
  rngX 0 n b1 s = rngX 0 n b2 s ∧ rngX 0 n b1 s ≠ none ∧ ∀ s', rngX 0 n b1 s = some (.inl s') → P n s' := by
 have := rngN_eq P (n - 0).toNat 0 s h0 (fun j s g1 g2 => hb j s g1 (by omega))
 rwa [show (0 : Int) + ((n - 0).toNat : Int) = n by omega] at this
end Ab
end
section
namespace Ab
open Go
noncomputable def dec (p : Prop) : Bool := @decide p (Classical.propDecidable p)
@[simp] theorem i9 {p : Prop} : dec p = true ↔ p := by simp [dec]
@[simp] theorem dec_false {p : Prop} : dec p = false ↔ ¬ p := by simp [dec]
@[simp] theorem B8 {p : Prop} : (!dec p) = dec (¬ p) := by by_cases h : p <;> simp [dec, h]
theorem ag6 {p : Prop} [Decidable p] : decide p = dec p := by by_cases h : p <;> simp [dec, h]
theorem j9 {p : Prop} (h : p) : dec p = true := i9.2 h
theorem n4 {p : Prop} (h : ¬ p) : dec p = false := dec_false.2 h
theorem L5 {p q : Prop} (h : p ↔ q) : dec p = dec q := by rw [propext h]
theorem dec_and {p q : Prop} : (dec p && dec q) = dec (p ∧ q) := by by_cases h : p <;> by_cases g : q <;> simp [dec, h, g]
theorem dec_or {p q : Prop} : (dec p || dec q) = dec (p ∨ q) := by by_cases h : p <;> by_cases g : q <;> simp [dec, h, g]
theorem ifP {α : Type} {p : Prop} {a b : α} (h : p) : (if dec p = true then a else b) = a := if_pos (j9 h)
theorem ifN {α : Type} {p : Prop} {a b : α} (h : ¬ p) : (if dec p = true then a else b) = b := if_neg fun g => h (i9.1 g)
theorem ifNN {α : Type} {p : Prop} {a b : α} (h : p) : (if dec (¬ p) = true then a else b) = b := ifN (not_not_intro h)
theorem ix_ltN {α : Type} {l : List α} {k : Nat} (h : k < l.length) : ix l (k : Int) = some l[k] := by rw [I6]; simp [h]
theorem o9 {α : Type} {l : List α} {i : Int} {a : α} (h : ix l i = some a) : a ∈ l := List.mem_of_getElem? (l7 h).2.2
theorem E8 {α : Type} {l : List α} {a : α} (h : a ∈ l) : ∃ i : Int, 0 ≤ i ∧ i < l.length ∧ ix l i = some a := by
 obtain ⟨k, hk⟩ := List.getElem?_of_mem h
 exact ⟨k, by omega, by have := (List.getElem?_eq_some_iff.1 hk).1; omega, by rw [I6, hk]⟩
theorem X8 {α : Type} {l : List α} {i j : Int} {x : α} (h0 : 0 ≤ i) (h1 : i < l.length) (hj : 0 ≤ j) : ix (l.set i.toNat x) j = if j = i then some x else ix l j := by
 simp only [ix, hj, if_true, List.getElem?_set]
 by_cases h : j = i
 ·subst h; rw [if_pos rfl, if_pos rfl, if_pos (by omega)]
 ·rw [if_neg h, if_neg (by omega)]
theorem D5 {O : Type} {body : Int → Unit → Option (Unit ⊕ O)} {n : Int} (g : Int → Option O) (hn : 0 ≤ n)
  (hb : ∀ j, 0 ≤ j → j < n → (∀ i, 0 ≤ i → i < j → g i = none) → body j () = some (match g j with | none => .inl () | some o => .inr o)) :
  (rngX 0 n body () = some (.inl ()) ∧ ∀ j, 0 ≤ j → j < n → g j = none) ∨ ∃ j o, 0 ≤ j ∧ j < n ∧ g j = some o ∧ (∀ i, 0 ≤ i → i < j → g i = none) ∧ rngX 0 n body () = some (.inr o) := by
 rcases ac2 (body := body) (n := n) (fun j _ => ∀ i, 0 ≤ i → i < j → g i = none) (fun o => ∃ j, 0 ≤ j ∧ j < n ∧ g j = some o ∧ ∀ i, 0 ≤ i → i < j → g i = none) (s := ()) hn (fun i h1 h2 => by omega) (fun j s h0 h1 hP => by
  have := hb j h0 h1 hP
  cases hg : g j with
  | none => rw [hg] at this; exact .inl ⟨(), this, fun i h2 h3 => by
    rcases Int.lt_or_eq_of_le (Int.le_of_lt_add_one h3) with h | h
    ·exact hP i h2 h
    ·rw [h, hg]⟩
  | some o => rw [hg] at this; exact .inr ⟨o, this, j, h0, h1, hg, hP⟩) with ⟨s', h1, h2⟩ | ⟨o, h1, j, h2, h3, h4, h5⟩
 ·exact .inl ⟨h1, h2⟩
 ·exact .inr ⟨j, o, h2, h3, h4, h5, h1⟩
theorem ag0 {α O : Type} {l : List α} {body : Int → Unit → Option (Unit ⊕ O)} (q : α → Prop) (b : O)
  (hb : ∀ j a, ix l j = some a → (q a ∧ body j () = some (.inl ())) ∨ (¬ q a ∧ body j () = some (.inr b))) :
  rngX 0 (l.length : Int) body () = some (if dec (∀ a ∈ l, q a) = true then .inl () else .inr b) := by
 rcases D5 (body := body) (n := (l.length : Int)) (fun j => match ix l j with | some a => if dec (q a) = true then none else some b | none => none) (by omega) (fun j h0 h1 _ => by
  obtain ⟨a, h2, _⟩ := j7 h0 h1
  rw [h2]
  rcases hb j a h2 with ⟨h3, h4⟩ | ⟨h3, h4⟩
  ·rw [h4]; simp [h3]
  ·rw [h4]; simp [h3]) with ⟨h1, h2⟩ | ⟨j, o, h0, h1, h2, _, h4⟩
 ·rw [h1, if_pos]
  rw [i9]
  intro a ha
  obtain ⟨i, g1, g2, g3⟩ := E8 ha
  have := h2 i g1 g2
  rw [g3] at this
  simpa using this
 ·rw [h4]
  obtain ⟨a, g1, _⟩ := j7 h0 h1
  rw [g1] at h2
  simp only [i9] at h2
  split at h2
  ·cases h2
  ·rename_i hq
   cases h2
   rw [if_neg]
   rw [i9]
   exact fun h => hq (j9 (h a (o9 g1)))
abbrev Inc (l : List Int) : Prop := l.Pairwise (· < ·)
theorem inc_of_adj : ∀ {l : List Int}, (∀ (k : Nat) a b, l[k]? = some a → l[k + 1]? = some b → a < b) → Inc l
 | [], _ => .nil
 | [_], _ => by simp
 | a :: b :: l, h => by
  have ih : Inc (b :: l) := inc_of_adj fun k x y h1 h2 => h (k + 1) x y (by simpa using h1) (by simpa using h2)
  have hab : a < b := h 0 a b rfl rfl
  refine List.pairwise_cons.2 ⟨fun c hc => ?_, ih⟩
  rcases List.mem_cons.1 hc with rfl | hc
  ·exact hab
  ·exact Int.lt_trans hab ((List.pairwise_cons.1 ih).1 c hc)
theorem Inc.get {l : List Int} (h : Inc l) {i j : Nat} {a b : Int} (hi : l[i]? = some a) (hj : l[j]? = some b) (hij : i < j) : a < b := by
 obtain ⟨h1, rfl⟩ := List.getElem?_eq_some_iff.1 hi
 obtain ⟨h2, rfl⟩ := List.getElem?_eq_some_iff.1 hj
 exact List.pairwise_iff_getElem.1 h i j h1 h2 hij
theorem Inc.ext : ∀ {l m : List Int}, Inc l → Inc m → (∀ x, x ∈ l ↔ x ∈ m) → l = m
 | [], [], _, _, _ => rfl
 | [], b :: m, _, _, h => absurd ((h b).2 (by simp)) (by simp)
 | a :: l, [], _, _, h => absurd ((h a).1 (by simp)) (by simp)
 | a :: l, b :: m, hl, hm, h => by
  obtain ⟨l1, l2⟩ := List.pairwise_cons.1 hl
  obtain ⟨m1, m2⟩ := List.pairwise_cons.1 hm
  have hab : a = b := by
   rcases List.mem_cons.1 ((h a).1 (by simp)) with e | e
   ·exact e
   ·rcases List.mem_cons.1 ((h b).2 (by simp)) with e' | e'
    ·exact e'.symm
    ·have := l1 b e'; have := m1 a e; omega
  subst hab
  rw [Inc.ext l2 m2 fun x => ⟨fun hx => ?_, fun hx => ?_⟩]
  ·rcases List.mem_cons.1 ((h x).1 (by simp [hx])) with e | e
   ·have := l1 x hx; omega
   ·exact e
  ·rcases List.mem_cons.1 ((h x).2 (by simp [hx])) with e | e
   ·have := m1 x hx; omega
   ·exact e
theorem Inc.filter {l : List Int} (h : Inc l) (p : Int → Bool) : Inc (l.filter p) := List.Pairwise.filter p h
def nums (lo : Int) : Nat → List Int
 | 0 => []
 | k + 1 => lo :: nums (lo + 1) k
theorem af3 {x : Int} : ∀ {k : Nat} {lo : Int}, x ∈ nums lo k ↔ lo ≤ x ∧ x < lo + k
 | 0, lo => by simp [nums]
 | k + 1, lo => by
  rw [nums, List.mem_cons, af3 (k := k)]
  omega
theorem inc_nums : ∀ (k : Nat) (lo : Int), Inc (nums lo k)
 | 0, _ => .nil
 | k + 1, lo => List.pairwise_cons.2 ⟨fun x hx => by have := af3.1 hx; omega, inc_nums k (lo + 1)⟩
theorem len_nums : ∀ (k : Nat) (lo : Int), (nums lo k).length = k
 | 0, _ => rfl
 | k + 1, lo => by simp [nums, len_nums k]
noncomputable def C4 (p : Int → Prop) (n : Int) : List Int := (nums 0 n.toNat).filter fun x => dec (p x)
theorem K9 {p : Int → Prop} {n x : Int} : x ∈ C4 p n ↔ 0 ≤ x ∧ x < n ∧ p x := by
 rw [C4, List.mem_filter, af3, i9]
 constructor
 ·rintro ⟨⟨h1, h2⟩, h3⟩; exact ⟨h1, by omega, h3⟩
 ·rintro ⟨h1, h2, h3⟩; exact ⟨⟨h1, by omega⟩, h3⟩
theorem ad4 (p : Int → Prop) (n : Int) : Inc (C4 p n) := (inc_nums _ _).filter _
theorem setOf_congr {p q : Int → Prop} {n : Int} (h : ∀ x, 0 ≤ x → x < n → (p x ↔ q x)) : C4 p n = C4 q n := by
 refine List.filter_congr fun x hx => L5 ?_
 have := af3.1 hx
 exact h x (by omega) (by omega)
def SetN (l : List Int) (n : Int) : Prop := Inc l ∧ ∀ x ∈ l, 0 ≤ x ∧ x < n
theorem ag4 (p : Int → Prop) (n : Int) : SetN (C4 p n) n := ⟨ad4 p n, fun x hx => by have := K9.1 hx; exact ⟨this.1, this.2.1⟩⟩
theorem SetN.eq {l : List Int} {n : Int} (h : SetN l n) : l = C4 (· ∈ l) n :=
 h.1.ext (ad4 _ _) fun x => ⟨fun hx => K9.2 ⟨(h.2 x hx).1, (h.2 x hx).2, hx⟩, fun hx => (K9.1 hx).2.2⟩
theorem SetN.eq_of {l : List Int} {n : Int} (h : SetN l n) {p : Int → Prop} (hp : ∀ x, 0 ≤ x → x < n → (x ∈ l ↔ p x)) : l = C4 p n :=
 h.eq.trans (setOf_congr hp)
theorem SetN.len {l : List Int} {n : Int} (h : SetN l n) : l.length ≤ n.toNat := by
 rw [h.eq, C4]
 exact Nat.le_trans (List.length_filter_le _ _) (Nat.le_of_eq (len_nums _ _))
theorem setN_nil (n : Int) : SetN [] n := ⟨.nil, by simp⟩
theorem forR_filter {α : Type} {l : List α} {b : Nat} {body : Int → List α → Option (List α)} (q : α → Prop)
  (hb : ∀ j a c, ix l j = some a → (q a → body j c = app b c [a]) ∧ (¬ q a → body j c = some c)) (c0 : List α) (hl : (c0.length + l.length) * b ≤ 140737488355328) :
  forR 0 (l.length : Int) body c0 = some (c0 ++ l.filter fun a => dec (q a)) := by
 obtain ⟨s', h1, h2⟩ := E3 (body := body) (n := (l.length : Int)) (s := c0) (fun j c => c = c0 ++ (l.take j.toNat).filter fun a => dec (q a)) (by omega) (by simp) (fun j c h0 h1 hP => by
  obtain ⟨a, g1, g2⟩ := j7 h0 h1
  have e : (j + 1).toNat = j.toNat + 1 := by omega
  have ht : l.take (j + 1).toNat = l.take j.toNat ++ [a] := by rw [e, List.take_add_one, g2]; rfl
  by_cases hq : q a
  ·have happ : app b c [a] = some (c ++ [a]) := by
    rw [app, if_pos]
    have h3 : ((l.take j.toNat).filter fun a => dec (q a)).length ≤ (l.take j.toNat).length := List.length_filter_le _ _
    rw [List.length_take] at h3
    have h5 : c.length + 1 ≤ c0.length + l.length := by rw [hP, List.length_append]; omega
    refine Nat.le_trans (Nat.mul_le_mul_right b ?_) hl
    simpa using h5
   refine ⟨c ++ [a], by rw [(hb j a c g1).1 hq, happ], ?_⟩
   rw [ht, List.filter_append, hP]
   simp [hq]
  ·refine ⟨c, (hb j a c g1).2 hq, ?_⟩
   rw [ht, List.filter_append, hP]
   simp [hq])
 rw [h1, h2]
 simp
theorem ag5 {b : Nat} {n : Int} {body : Int → List Int → Option (List Int)} (q : Int → Prop) (hn : 0 ≤ n) (hl : n.toNat * b ≤ 140737488355328)
  (hb : ∀ j c, 0 ≤ j → j < n → (q j → body j c = app b c [j]) ∧ (¬ q j → body j c = some c)) : forR 0 n body [] = some (C4 q n) := by
 obtain ⟨s', h1, h2⟩ := E3 (body := body) (n := n) (s := []) (fun j c => c = C4 q j) hn (by simp [C4, nums]) (fun j c h0 h1 hP => by
  have hs : C4 q (j + 1) = C4 q j ++ if dec (q j) = true then [j] else [] := by
   refine (ad4 q (j + 1)).ext ?_ fun x => ?_
   ·refine List.pairwise_append.2 ⟨ad4 _ _, by split <;> simp, fun a ha b hb => ?_⟩
    have := K9.1 ha
    split at hb
    ·simp at hb; omega
    ·cases hb
   ·rw [List.mem_append, K9, K9]
    by_cases hq : q j
    ·rw [if_pos (j9 hq)]
     simp only [List.mem_singleton]
     refine ⟨fun h => ?_, fun h => ?_⟩
     ·by_cases e : x = j
      ·exact .inr e
      ·exact .inl ⟨h.1, by omega, h.2.2⟩
     ·rcases h with h | rfl
      ·exact ⟨h.1, by omega, h.2.2⟩
      ·exact ⟨h0, by omega, hq⟩
    ·rw [if_neg (by simpa using hq)]
     simp only [List.not_mem_nil, or_false]
     refine ⟨fun h => ⟨h.1, ?_, h.2.2⟩, fun h => ⟨h.1, by omega, h.2.2⟩⟩
     rcases Int.lt_or_eq_of_le (Int.le_of_lt_add_one h.2.1) with e | e
     ·exact e
     ·rw [e] at h; exact absurd h.2.2 hq
  by_cases hq : q j
  ·refine ⟨c ++ [j], ?_, by rw [hs, hP, if_pos (j9 hq)]⟩
   rw [(hb j c h0 h1).1 hq, app, if_pos]
   have h3 : c.length ≤ j.toNat := by rw [hP]; exact (ag4 q j).len
   refine Nat.le_trans (Nat.mul_le_mul_right b ?_) hl
   simp; omega
  ·refine ⟨c, (hb j c h0 h1).2 hq, ?_⟩
   rw [hs, hP, if_neg (by simpa using hq), List.append_nil])
 rw [h1, h2]
end Ab
end
section
namespace Ab
open Go
theorem has_eq (l : List Int) (n : Int) : J3 l n = some (dec (n ∈ l)) := by
 unfold J3
 rw [ag0 (l := l) (fun a => a ≠ n) true (fun j a h => by
  unfold ae1
  rw [h]
  by_cases e : a = n <;> simp [e])]
 by_cases h : n ∈ l
 ·rw [if_neg (by simp only [i9]; exact fun g => g n h rfl)]
  simp [h]
 ·rw [if_pos (by simp only [i9]; exact fun a ha e => h (e ▸ ha))]
  simp [h]
theorem subset_eq (part l : List Int) : N3 part l = some (dec (∀ x ∈ part, x ∈ l)) := by
 unfold N3
 rw [ag0 (l := part) (fun a => a ∈ l) false (fun j a h => by
  unfold V0
  rw [h]
  by_cases e : a ∈ l <;> simp [e, has_eq])]
 by_cases h : ∀ x ∈ part, x ∈ l
 ·rw [if_pos (j9 h), j9 h]; rfl
 ·rw [if_neg (by rw [n4 h]; simp), n4 h]; rfl
theorem disjoint_eq (a b : List Int) : M7 a b = some (dec (∀ x ∈ a, x ∉ b)) := by
 unfold M7
 rw [ag0 (l := a) (fun x => x ∉ b) false (fun j x h => by
  unfold S5
  rw [h]
  by_cases e : x ∈ b <;> simp [e, has_eq])]
 by_cases h : ∀ x ∈ a, x ∉ b
 ·rw [if_pos (j9 h), j9 h]; rfl
 ·rw [if_neg (by rw [n4 h]; simp), n4 h]; rfl
theorem in_eq (n lo hi : Int) : Q1 n lo hi = some (dec (lo ≤ n ∧ n ≤ hi)) := by
 unfold Q1; rw [ag6, ag6, dec_and]
theorem at_eq (c i : Int) : C7 c i = some ⟨c, i⟩ := rfl
def stepOk (l : List Int) (n j : Int) : Prop := ∀ a, ix l j = some a → (0 ≤ a ∧ a < n) ∧ ∀ b, 0 < j → ix l (j - 1) = some b → b < a
theorem aa8 {l : List Int} {n : Int} : (∀ j : Int, 0 ≤ j → j < l.length → stepOk l n j) ↔ SetN l n := by
 constructor
 ·intro h
  refine ⟨inc_of_adj fun k a b h1 h2 => ?_, fun x hx => ?_⟩
  ·have hk := (List.getElem?_eq_some_iff.1 h2).1
   have := (h ((k + 1 : Nat) : Int) (by omega) (by omega) b (by rw [I6]; exact h2)).2 a (by omega)
   rw [show ((k + 1 : Nat) : Int) - 1 = (k : Nat) by omega] at this
   exact this (by rw [I6]; exact h1)
  ·obtain ⟨i, h1, h2, h3⟩ := E8 hx
   exact (h i h1 h2 x h3).1
 ·intro h j h0 h1 a ha
  refine ⟨h.2 a (o9 ha), fun b hj hb => ?_⟩
  obtain ⟨_, _, ga⟩ := l7 ha
  obtain ⟨_, _, gb⟩ := l7 hb
  exact h.1.get gb ga (by omega)
theorem ag1 (l : List Int) (n : Int) : x8 l n = some (dec (SetN l n)) := by
 unfold x8
 rcases D5 (body := O3 l n) (n := (l.length : Int)) (fun j => if dec (stepOk l n j) = true then none else some false) (by omega) (fun j h0 h1 _ => by
  obtain ⟨a, ha, _⟩ := j7 (l := l) h0 h1
  unfold O3
  rw [ha]
  simp only [oB]
  by_cases c1 : a < 0
  ·rw [if_pos c1, if_neg]
   ·rfl
   ·rw [i9]; intro h; have := (h a ha).1; omega
  ·rw [if_neg c1]
   by_cases c2 : n ≤ a
   ·rw [if_pos c2, if_neg]
    ·rfl
    ·rw [i9]; intro h; have := (h a ha).1; omega
   ·rw [if_neg c2]
    by_cases c3 : 0 < j
    ·obtain ⟨b, hb, _⟩ := j7 (l := l) (i := j - 1) (by omega) (by omega)
     rw [if_pos c3, hb]
     simp only [oB]
     by_cases c4 : a ≤ b
     ·rw [if_pos (by simpa using c4), if_neg]
      rw [i9]; intro h; have := (h a ha).2 b c3 hb; omega
     ·rw [if_neg (by simpa using c4), if_pos]
      rw [i9]; intro x hx
      rw [ha] at hx; cases hx
      exact ⟨by omega, fun y _ hy => by rw [hb] at hy; cases hy; omega⟩
    ·rw [if_neg c3]
     simp only [oB]
     rw [if_neg (by simp), if_pos]
     rw [i9]; intro x hx
     rw [ha] at hx; cases hx
     exact ⟨by omega, fun y hy => absurd hy c3⟩) with ⟨h1, h2⟩ | ⟨j, o, h0, h1, h2, _, h4⟩
 ·rw [h1, j9]
  ·rfl
  ·exact aa8.1 fun j g1 g2 => by have := h2 j g1 g2; simpa using this
 ·rw [h4]
  split at h2
  ·cases h2
  ·rename_i hs
   cases h2
   rw [n4]
   ·rfl
   ·exact fun h => hs (j9 (aa8.2 h j h0 h1))
theorem rIsSet_eq (l : List Int) {n : Int} (hn : -9223372036854775808 < n) (hn' : n ≤ 9223372036854775807) : D2 l n = some (dec (SetN l n)) := by
 unfold D2
 rcases D5 (body := R3 l n) (n := (l.length : Int)) (fun j => if dec (stepOk l n j) = true then none else some false) (by omega) (fun j h0 h1 _ => by
  obtain ⟨a, ha, _⟩ := j7 (l := l) h0 h1
  unfold R3
  rw [ha]
  simp only [oB, in_eq, m6 (n := n - 1) (by omega) (by omega), B8]
  by_cases c1 : 0 ≤ a ∧ a ≤ n - 1
  ·rw [if_neg (by simpa using c1)]
   by_cases c3 : 0 < j
   ·obtain ⟨b, hb, _⟩ := j7 (l := l) (i := j - 1) (by omega) (by omega)
    rw [if_pos c3, hb]
    simp only [oB]
    by_cases c4 : a ≤ b
    ·rw [if_pos (by simpa using c4), if_neg]
     rw [i9]; intro h; have := (h a ha).2 b c3 hb; omega
    ·rw [if_neg (by simpa using c4), if_pos]
     rw [i9]; intro x hx
     rw [ha] at hx; cases hx
     exact ⟨by omega, fun y _ hy => by rw [hb] at hy; cases hy; omega⟩
   ·rw [if_neg c3]
    simp only [oB]
    rw [if_neg (by simp), if_pos]
    rw [i9]; intro x hx
    rw [ha] at hx; cases hx
    exact ⟨by omega, fun y hy => absurd hy c3⟩
  ·rw [if_pos (by simpa using c1), if_neg]
   ·rfl
   ·rw [i9]; intro h; have := (h a ha).1; omega) with ⟨h1, h2⟩ | ⟨j, o, h0, h1, h2, _, h4⟩
 ·rw [h1, j9]
  ·rfl
  ·exact aa8.1 fun j g1 g2 => by have := h2 j g1 g2; simpa using this
 ·rw [h4]
  split at h2
  ·cases h2
  ·rename_i hs
   cases h2
   rw [n4]
   ·rfl
   ·exact fun h => hs (j9 (aa8.2 h j h0 h1))
theorem containsLoop {s : List Int} (hs : Inc s) (hl : s.length ≤ 1000000) (x : Int) {i : Int} (h0 : 0 ≤ i) (h1 : i ≤ s.length) (hlt : ∀ k a, 0 ≤ k → k < i → ix s k = some a → a < x) :
  ∃ i', Loop (D3 s x) i = some i' ∧ i ≤ i' ∧ i' ≤ s.length ∧ (∀ k a, 0 ≤ k → k < i' → ix s k = some a → a < x) ∧ (∀ a, ix s i' = some a → x ≤ a) := by
 obtain ⟨o, h2, h3⟩ := M1 (body := D3 s x) (fun j => i ≤ j ∧ j ≤ s.length ∧ ∀ k a, 0 ≤ k → k < j → ix s k = some a → a < x) (fun i' => i ≤ i' ∧ i' ≤ s.length ∧ (∀ k a, 0 ≤ k → k < i' → ix s k = some a → a < x) ∧ (∀ a, ix s i' = some a → x ≤ a)) (fun j => (s.length - j).toNat) (s := i) ⟨Int.le_refl _, h1, hlt⟩ (fun j ⟨g1, g2, g3⟩ => by
  unfold D3
  by_cases c : j < s.length
  ·obtain ⟨a, ha, _⟩ := j7 (l := s) (i := j) (by omega) c
   rw [if_pos c, ha]
   simp only [oB, decide_eq_true_eq]
   by_cases c2 : a < x
   ·rw [if_pos c2]
    rw [m6 (by omega) (by omega)]
    refine .inl ⟨j + 1, rfl, ⟨by omega, by omega, fun k b k0 k1 hb => ?_⟩, by omega⟩
    by_cases e : k = j
    ·subst e; rw [ha] at hb; cases hb; exact c2
    ·exact g3 k b k0 (by omega) hb
   ·rw [if_neg c2]
    exact .inr ⟨j, rfl, g1, g2, g3, fun b hb => by rw [ha] at hb; cases hb; omega⟩
  ·rw [if_neg c]
   exact .inr ⟨j, rfl, g1, g2, g3, fun b hb => by have := (l7 hb).2.1; omega⟩)
 exact ⟨o, h2, h3⟩
theorem ad7 {s part : List Int} (hs : Inc s) (hp : Inc part) (hl : s.length ≤ 1000000) : B3 s part = some (dec (∀ x ∈ part, x ∈ s)) := by
 unfold B3
 rcases ac2 (body := H4 s part) (n := (part.length : Int)) (fun j i => (0 ≤ i ∧ i ≤ s.length ∧ ∀ k a, 0 ≤ k → k < i → ix s k = some a → ∀ m x, j ≤ m → ix part m = some x → a < x) ∧ ∀ m x, 0 ≤ m → m < j → ix part m = some x → x ∈ s) (fun o => o = false ∧ ¬ ∀ x ∈ part, x ∈ s) (s := 0) (by omega) ⟨⟨by omega, by omega, fun k a h1 h2 => by omega⟩, fun m x h1 h2 => by omega⟩ (fun j i h0 h1 ⟨⟨g1, g2, g3⟩, g4⟩ => by
  obtain ⟨x, hx, gx⟩ := j7 (l := part) h0 h1
  unfold H4
  obtain ⟨i', e1, e2, e3, e4, e5⟩ := containsLoop hs hl x g1 g2 (fun k a k0 k1 ha => g3 k a k0 k1 ha j x (Int.le_refl _) hx)
  rw [hx]
  simp only [oB, e1]
  have nin : (∀ a, ix s i' = some a → x < a) → x ∉ s := fun hgt hin => by
   obtain ⟨k, k0, k1, hk⟩ := E8 hin
   rcases Int.lt_trichotomy k i' with c | c | c
   ·have := e4 k x k0 c hk; omega
   ·subst c; have := hgt x hk; omega
   ·obtain ⟨b, hb, gb⟩ := j7 (l := s) (i := i') (by omega) (by omega)
    obtain ⟨_, _, gk⟩ := l7 hk
    have := hs.get gb gk (by omega)
    have := e5 b hb
    omega
  by_cases c : i' = s.length
  ·rw [if_pos c]
   refine .inr ⟨false, rfl, rfl, fun h => ?_⟩
   exact nin (fun a ha => by have := (l7 ha).2.1; omega) (h x (o9 hx))
  ·rw [if_neg c]
   obtain ⟨b, hb, gb⟩ := j7 (l := s) (i := i') (by omega) (by omega)
   rw [hb]
   simp only [oB]
   have hxb := e5 b hb
   by_cases c2 : b = x
   ·subst c2
    rw [if_neg (by simp)]
    refine .inl ⟨i', rfl, ⟨by omega, e3, fun k a k0 k1 ha m y hm hy => ?_⟩, fun m y m0 m1 hy => ?_⟩
    ·obtain ⟨_, _, gy⟩ := l7 hy
     have := hp.get gx gy (by omega)
     have := e4 k a k0 k1 ha
     omega
    ·by_cases e : m = j
     ·subst e; rw [hx] at hy; cases hy; exact o9 hb
     ·exact g4 m y m0 (by omega) hy
   ·rw [if_pos (by simpa using c2)]
    refine .inr ⟨false, rfl, rfl, fun h => ?_⟩
    exact nin (fun a ha => by rw [hb] at ha; cases ha; omega) (h x (o9 hx))) with ⟨s', h1, _, h2⟩ | ⟨o, h1, rfl, h2⟩
 ·rw [h1, j9]
  ·rfl
  ·intro x hx
   obtain ⟨m, m0, m1, hm⟩ := E8 hx
   exact h2 m x m0 m1 hm
 ·rw [h1, n4 h2]; rfl
end Ab
end
section
namespace Ab
open Go
theorem half_eq {i j : Int} (h0 : 0 ≤ i) (h1 : i ≤ j) (h2 : j ≤ 1000000) : w64 (shrW .u64 ((IntKind.u64).wrap (w64 (i + j))) 1) = (i + j) / 2 := by
 rw [m6 (n := i + j) (by omega) (by omega), IntKind.wrap_u64, Int.emod_eq_of_lt (by omega) (by omega)]
 have : shrW .u64 (i + j) 1 = (i + j) / 2 := by
  simp only [shrW, IntKind.bits]
  rw [show min (1 : Int).toNat 64 = 1 by rfl, Int.fdiv_eq_ediv_of_nonneg _ (by decide)]
  rfl
 rw [this]
 exact m6 (by omega) (by omega)
theorem less_eq (a b : Int) : P6 a b = some (decide (a < b)) := by simp [P6, B9]
theorem bsearch_eq {xs : List Int} (hs : Inc xs) (hl : xs.length ≤ 500000) (t : Int) : ∃ i, m4 xs t = some (i, dec (t ∈ xs)) ∧ 0 ≤ i ∧ i ≤ xs.length ∧ (∀ k a, 0 ≤ k → k < i → ix xs k = some a → a < t) ∧ (∀ k a, i ≤ k → ix xs k = some a → t ≤ a) := by
 unfold m4
 obtain ⟨i, h1, h2, h3, h4, h5⟩ := M1 (body := s5 xs t) (fun p => (0 ≤ p.1 ∧ p.1 ≤ p.2 ∧ p.2 ≤ xs.length) ∧ (∀ k a, 0 ≤ k → k < p.1 → ix xs k = some a → a < t) ∧ (∀ k a, p.2 ≤ k → ix xs k = some a → t ≤ a))
  (fun i => 0 ≤ i ∧ i ≤ xs.length ∧ (∀ k a, 0 ≤ k → k < i → ix xs k = some a → a < t) ∧ (∀ k a, i ≤ k → ix xs k = some a → t ≤ a)) (fun p => (p.2 - p.1).toNat) (s := (0, (xs.length : Int)))
  ⟨⟨by simp, by simp, by simp⟩, fun k a h1 h2 => by simp at h2; omega, fun k a h1 h2 => by have := (l7 h2).2.1; simp at h1; omega⟩ (fun ⟨i, j⟩ ⟨⟨g1, g2, g3⟩, g4, g5⟩ => by
  dsimp only at g1 g2 g3 g4 g5 ⊢
  unfold s5
  dsimp only
  by_cases c : i < j
  ·rw [if_pos c, half_eq g1 g2 (by omega)]
   obtain ⟨a, ha, ga⟩ := j7 (l := xs) (i := (i + j) / 2) (by omega) (by omega)
   rw [ha]
   simp only [oB, less_eq, decide_eq_true_eq]
   by_cases c2 : a < t
   ·rw [if_pos c2, m6 (by omega) (by omega)]
    refine .inl ⟨_, rfl, ⟨⟨by dsimp only; omega, by dsimp only; omega, g3⟩, fun k b k0 k1 hb => ?_, g5⟩, by dsimp only; omega⟩
    dsimp only at k1
    obtain ⟨_, _, gb⟩ := l7 hb
    by_cases e : k = (i + j) / 2
    ·subst e; rw [ha] at hb; cases hb; exact c2
    ·have := hs.get gb ga (by omega); omega
   ·rw [if_neg c2]
    refine .inl ⟨_, rfl, ⟨⟨g1, by dsimp only; omega, by dsimp only; omega⟩, g4, fun k b k0 hb => ?_⟩, by dsimp only; omega⟩
    dsimp only at k0
    obtain ⟨_, _, gb⟩ := l7 hb
    by_cases e : k = (i + j) / 2
    ·subst e; rw [ha] at hb; cases hb; omega
    ·have := hs.get ga gb (by omega); omega
  ·rw [if_neg c]
   have : i = j := by omega
   subst this
   exact .inr ⟨i, rfl, g1, g3, g4, g5⟩)
 rw [h1]
 simp only [oB]
 refine ⟨i, ?_, h2, h3, h4, h5⟩
 have nin : (∀ a, ix xs i = some a → a ≠ t) → t ∉ xs := fun hne hin => by
  obtain ⟨k, k0, k1, hk⟩ := E8 hin
  rcases Int.lt_trichotomy k i with c | c | c
  ·have := h4 k t k0 c hk; omega
  ·subst c; exact hne t hk rfl
  ·obtain ⟨b, hb, gb⟩ := j7 (l := xs) (i := i) (by omega) (by omega)
   obtain ⟨_, _, gk⟩ := l7 hk
   have := hs.get gb gk (by omega)
   have := h5 i b (Int.le_refl _) hb
   omega
 by_cases c : i < xs.length
 ·obtain ⟨a, ha, ga⟩ := j7 (l := xs) (i := i) (by omega) c
  rw [if_pos c, ha]
  simp only [oB]
  by_cases c2 : a = t
  ·subst c2
   rw [if_pos rfl, j9 (o9 ha)]
   rfl
  ·rw [if_neg c2]
   simp only [G2, decide_true, Bool.not_true, Bool.false_eq_true, if_false, oB]
   rw [n4 (nin fun b hb => by rw [ha] at hb; cases hb; exact c2)]
 ·rw [if_neg c]
  simp only [oB]
  rw [n4 (nin fun b hb => by have := (l7 hb).2.1; omega)]
theorem bsearch2 {xs : List Int} (hs : Inc xs) (hl : xs.length ≤ 500000) (t : Int) : ∃ i, m4 xs t = some (i, dec (t ∈ xs)) :=
 let ⟨i, h, _⟩ := bsearch_eq hs hl t
 ⟨i, h⟩
theorem containsFunc_eq {l : List Int} {f : Int → Option Bool} (p : Int → Prop) (hf : ∀ x ∈ l, f x = some (dec (p x))) : p8 l f = some (dec (∃ x ∈ l, p x)) := by
 unfold p8 B2
 rcases D5 (body := x5 l f) (n := (l.length : Int)) (fun j => if dec (∀ a, ix l j = some a → ¬ p a) = true then none else some j) (by omega) (fun j h0 h1 _ => by
  obtain ⟨a, ha, _⟩ := j7 (l := l) h0 h1
  unfold x5
  rw [ha]
  simp only [oB, hf a (o9 ha)]
  by_cases c : p a
  ·rw [if_pos (j9 c), if_neg (by rw [i9]; exact fun h => h a rfl c)]
  ·rw [if_neg (by rw [n4 c]; simp), if_pos (j9 fun b hb => by cases hb; exact c)]) with ⟨h1, h2⟩ | ⟨j, o, h0, h1, h2, _, h4⟩
 ·rw [h1]
  simp only [oB]
  rw [n4]
  ·rfl
  ·rintro ⟨x, hx, hp⟩
   obtain ⟨i, g1, g2, g3⟩ := E8 hx
   have := h2 i g1 g2
   split at this
   ·rename_i h; exact i9.1 h x g3 hp
   ·cases this
 ·rw [h4]
  split at h2
  ·cases h2
  ·rename_i h
   cases h2
   simp only [oB]
   rw [j9]
   ·simp [h0]
   ·simp only [i9] at h
    obtain ⟨a, g1, _⟩ := j7 (l := l) h0 h1
    refine ⟨a, o9 g1, ?_⟩
    rcases Classical.em (p a) with c | c
    ·exact c
    ·exact absurd (fun b hb => by rw [g1] at hb; cases hb; exact c) h
theorem meets_eq {a b : List Int} (hb : Inc b) (hl : b.length ≤ 500000) : O5 a b = some (dec (∃ x ∈ a, x ∈ b)) := by
 unfold O5
 rw [containsFunc_eq (fun x => x ∈ b) (fun x _ => by
  unfold Q0
  obtain ⟨i, h⟩ := bsearch2 hb hl x
  rw [h]; rfl)]
 rfl
/-! ### Sorted, and equal neighbours made one -/
theorem compact_spec {l : List Int} (hs : l.Pairwise (· ≤ ·)) : Inc (R7 l) ∧ ∀ x, x ∈ R7 l ↔ x ∈ l := by
 have key : ∀ m, m ≤ l.length → Inc (Go.Lib.compactUpTo l.toArray m) ∧ (∀ x, x ∈ Go.Lib.compactUpTo l.toArray m ↔ x ∈ l.take m) := by
  intro m
  induction m with
  | zero => intro _; simp [Go.Lib.compactUpTo]
  | succ m ih =>
   intro hm
   obtain ⟨h1, h2⟩ := ih (by omega)
   have hlt : m < l.length := by omega
   have hd : l.toArray[m]! = l[m] := by simp [hlt]
   have ht : l.take (m + 1) = l.take m ++ [l[m]] := by rw [List.take_add_one]; simp [hlt]
   rw [Go.Lib.compactUpTo_succ, ht]
   by_cases hk : Go.Lib.keeps l.toArray m = true
   ·rw [if_pos hk, hd]
    refine ⟨List.pairwise_append.2 ⟨h1, by simp, fun a ha b hb => ?_⟩, fun x => by rw [List.mem_append, List.mem_append, h2]⟩
    simp only [List.mem_singleton] at hb
    subst hb
    have ha' := (h2 a).1 ha
    obtain ⟨i, hi, rfl⟩ := List.mem_iff_getElem.1 ha'
    rw [List.length_take] at hi
    rw [List.getElem_take]
    simp only [Go.Lib.keeps, decide_eq_true_eq] at hk
    rcases hk with hk | hk
    ·omega
    ·have hm1 : l.toArray[m - 1]! = l[m - 1] := by simp [show m - 1 < l.length by omega]
     rw [hd, hm1] at hk
     have e1 : l[m - 1] ≤ l[m] := List.pairwise_iff_getElem.1 hs (m - 1) m (by omega) hlt (by omega)
     have e2 : l[i] ≤ l[m - 1] := by
      rcases Nat.lt_or_ge i (m - 1) with c | c
      ·exact List.pairwise_iff_getElem.1 hs i (m - 1) (by omega) (by omega) c
      ·have : i = m - 1 := by omega
       subst this; exact Int.le_refl _
     omega
   ·rw [if_neg hk, List.append_nil]
    refine ⟨h1, fun x => ?_⟩
    rw [h2, List.mem_append]
    refine ⟨.inl, fun h => ?_⟩
    rcases h with h | h
    ·exact h
    ·simp only [List.mem_singleton] at h
     subst h
     have hm0 : m ≠ 0 := fun e => hk (by simp [Go.Lib.keeps, e])
     have hm1 : l.toArray[m - 1]! = l[m - 1] := by simp [show m - 1 < l.length by omega]
     have he : l[m] = l[m - 1] := by
      simp only [Go.Lib.keeps, decide_eq_true_eq, not_or] at hk
      have h3 : l.toArray[m]! = l.toArray[m - 1]! := Classical.not_not.1 (fun h => hk.2 h)
      rw [hd, hm1] at h3; exact h3
     rw [he, List.mem_take_iff_getElem]
     exact ⟨m - 1, by omega, rfl⟩
 obtain ⟨h1, h2⟩ := key l.length (Nat.le_refl _)
 refine ⟨?_, fun x => ?_⟩
 ·simpa [R7, Go.Lib.compact] using h1
 ·have := h2 x
  rw [List.take_length] at this
  simpa [R7, Go.Lib.compact] using this
theorem srt_spec (l : List Int) : (srt l).Pairwise (· ≤ ·) ∧ ∀ x, x ∈ srt l ↔ x ∈ l := by
 refine ⟨?_, fun x => by simp [srt]⟩
 have := List.pairwise_mergeSort (le := fun x y : Int => decide (x ≤ y)) (fun a b c h1 h2 => by simp at h1 h2 ⊢; omega) (fun a b => by simp; omega) l
 refine this.imp fun h => by simpa using h
theorem sortL_eq {l : List Int} (h : l.length < 4611686018427387904) : sortL l = some (srt l) := by rw [sortL, if_pos h]
theorem update_inc {s add del : List Int} (hd : Inc del) (hl : del.length ≤ 500000) (h1 : s.length ≤ 500000) (h2 : add.length ≤ 500000) :
  ∃ r, H1 s add del = some r ∧ Inc r ∧ ∀ x, x ∈ r ↔ (x ∈ s ∧ x ∉ del) ∨ x ∈ add := by
 unfold H1
 rw [forR_filter (l := s) (b := 8) (fun a => a ∉ del) (fun j a c h => by
  obtain ⟨i, hi⟩ := bsearch2 hd hl a
  unfold S7
  rw [h]
  simp only [oB, hi, B8]
  refine ⟨fun hq => ?_, fun hq => ?_⟩
  ·rw [if_pos (j9 hq)]
   cases app 8 c [a] <;> rfl
  ·rw [if_neg (by simpa using hq)]; rfl) [] (by simp; omega)]
 simp only [oB, List.nil_append]
 have hle : (s.filter fun a => dec (a ∉ del)).length ≤ s.length := List.length_filter_le _ _
 rw [show app 8 (s.filter fun a => dec (a ∉ del)) add = some ((s.filter fun a => dec (a ∉ del)) ++ add) by rw [app, if_pos]; omega]
 simp only [oB]
 rw [sortL_eq (by rw [List.length_append]; omega)]
 simp only [oB]
 obtain ⟨e1, e2⟩ := srt_spec ((s.filter fun a => dec (a ∉ del)) ++ add)
 obtain ⟨e3, e4⟩ := compact_spec e1
 refine ⟨_, rfl, e3, fun x => ?_⟩
 rw [e4, e2, List.mem_append, List.mem_filter, i9]
theorem update_eq {s add del : List Int} {n : Int} (hn : n ≤ 1000) (hd : Inc del) (hl : del.length ≤ 500000) (hs : SetN s n) (ha : SetN add n) :
  H1 s add del = some (C4 (fun x => (x ∈ s ∧ x ∉ del) ∨ x ∈ add) n) := by
 have h1 := hs.len; have h2 := ha.len
 obtain ⟨r, e1, e2, e3⟩ := update_inc (s := s) (add := add) hd hl (by omega) (by omega)
 rw [e1, SetN.eq_of (n := n) ⟨e2, fun x hx => ?_⟩ (fun x _ _ => e3 x)]
 rcases (e3 x).1 hx with h | h
 ·exact hs.2 x h.1
 ·exact ha.2 x h
end Ab
end
section
namespace Ab
open Go
def M8 (o : i6) (n : Int) : Prop := SetN o.pre n ∧ SetN o.add n ∧ SetN o.del n ∧ ∀ x ∈ o.add, x ∉ o.del
def U2 (o : i6) : Prop := 0 ≤ o.cost ∧ o.cost ≤ 100
noncomputable def M4 (o : i6) (n : Int) : Int := if dec (M8 o n) = true then if dec (U2 o) = true then 0 else 3 else 5
structure k9 (t : f7) : Prop where
 n0 : 0 ≤ t.facts
 n1 : t.facts ≤ 24
 init : SetN t.init t.facts
 goal : SetN t.goal t.facts
 ops : t.operators.length ≤ 40
 op : ∀ o ∈ t.operators, M8 o t.facts ∧ U2 o
theorem opCode_zero {o : i6} {n : Int} : M4 o n = 0 ↔ M8 o n ∧ U2 o := by
 unfold M4
 by_cases h : M8 o n
 ·rw [if_pos (j9 h)]
  by_cases g : U2 o
  ·rw [if_pos (j9 g)]; simp [h, g]
  ·rw [if_neg (by rw [n4 g]; simp)]; simp [g]
 ·rw [if_neg (by rw [n4 h]; simp)]; simp [h]
theorem operator_eq {o : i6} {n : Int} (h0 : 0 ≤ n) (h1 : n ≤ 24) : I0 o n = some (M4 o n) := by
 unfold I0 M4
 simp only [ag1, oB, B8]
 have bad : ¬ M8 o n → dec (M8 o n) = true → False := fun h g => h (i9.1 g)
 by_cases c1 : SetN o.pre n
 ·rw [if_neg (by simpa using c1)]
  by_cases c2 : SetN o.add n
  ·rw [if_neg (by simpa using c2)]
   by_cases c3 : SetN o.del n
   ·rw [if_neg (by simpa using c3)]
    have hl := c3.len
    rw [meets_eq c3.1 (by omega)]
    simp only [oB]
    by_cases c4 : ∃ x ∈ o.add, x ∈ o.del
    ·rw [if_pos (j9 c4), if_neg]
     rw [i9]
     obtain ⟨x, g1, g2⟩ := c4
     exact fun h => h.2.2.2 x g1 g2
    ·have hs : M8 o n := ⟨c1, c2, c3, fun x g1 g2 => c4 ⟨x, g1, g2⟩⟩
     rw [if_neg (by rw [n4 c4]; simp), if_pos (j9 hs)]
     by_cases c5 : U2 o
     ·rw [if_pos (j9 c5), if_neg]
      have := c5.1; have := c5.2
      simp; omega
     ·rw [if_neg (fun h => c5 (i9.1 h)), if_pos]
      unfold U2 at c5
      simp; omega
   ·rw [if_pos (by simpa using c3)]
    simp only [oB, if_true]
    rw [if_neg fun h => c3 (i9.1 h).2.2.1]
  ·rw [if_pos (by simpa using c2)]
   simp only [oB, if_true]
   rw [if_neg fun h => c2 (i9.1 h).2.1]
 ·rw [if_pos (by simpa using c1)]
  simp only [oB, if_true]
  rw [if_neg fun h => c1 (i9.1 h).1]
theorem validate_eq (t : f7) : ∃ f, w9 t = some f ∧ J9 t = some f ∧ ((f = ⟨0, 0⟩ ∧ k9 t) ∨ (f.code ≠ 0 ∧ ¬ k9 t)) := by
 unfold w9 J9
 simp only [in_eq, at_eq, oB, B8]
 by_cases c1 : 0 ≤ t.facts ∧ t.facts ≤ 24
 ·rw [if_neg (by simp; omega), ifNN c1]
  simp only [ag1, rIsSet_eq (n := t.facts) _ (by omega) (by omega), oB, B8]
  by_cases c2 : SetN t.init t.facts
  ·rw [ifNN c2, ifNN c2]
   by_cases c3 : SetN t.goal t.facts
   ·rw [ifNN c3, ifNN c3]
    by_cases c4 : 40 < (t.operators.length : Int)
    ·rw [if_pos c4, if_pos c4]
     exact ⟨_, rfl, rfl, .inr ⟨by simp, fun h => by have := h.ops; omega⟩⟩
    ·rw [if_neg c4, if_neg c4]
     have hb : ∀ j : Int, 0 ≤ j → j < t.operators.length → ∃ o, ix t.operators j = some o ∧ D4 t j () = some (if M4 o t.facts = 0 then .inl () else .inr ⟨M4 o t.facts, j⟩) ∧ B7 t j () = some (if M4 o t.facts = 0 then .inl () else .inr ⟨M4 o t.facts, j⟩) := fun j h0 h1 => by
      obtain ⟨o, ho, _⟩ := j7 (l := t.operators) h0 h1
      refine ⟨o, ho, ?_, ?_⟩
      ·unfold D4
       rw [ho]
       simp only [oB, operator_eq c1.1 c1.2]
       by_cases e : M4 o t.facts = 0
       ·rw [if_pos e, if_pos e]
       ·rw [if_neg e, if_neg e]
      ·unfold B7
       rw [ho]
       simp only [oB, rIsSet_eq (n := t.facts) _ (show -9223372036854775808 < t.facts by omega) (show t.facts ≤ 9223372036854775807 by omega), disjoint_eq, in_eq, at_eq, B8]
       have hp : (if dec (¬ SetN o.pre t.facts) = true then some true else if dec (¬ SetN o.add t.facts) = true then some true else if dec (¬ SetN o.del t.facts) = true then some true else some (dec (¬ ∀ x ∈ o.add, x ∉ o.del))) = some (dec (¬ M8 o t.facts)) := by
        unfold M8
        by_cases g1 : SetN o.pre t.facts
        ·rw [if_neg (by simpa using g1)]
         by_cases g2 : SetN o.add t.facts
         ·rw [if_neg (by simpa using g2)]
          by_cases g3 : SetN o.del t.facts
          ·rw [if_neg (by simpa using g3)]
           exact congrArg some (L5 ⟨fun h g => h g.2.2.2, fun h g => h ⟨g1, g2, g3, g⟩⟩)
          ·rw [if_pos (by simpa using g3), j9 (fun g => g3 g.2.2.1)]
         ·rw [if_pos (by simpa using g2), j9 (fun g => g2 g.2.1)]
        ·rw [if_pos (by simpa using g1), j9 (fun g => g1 g.1)]
       rw [hp]
       simp only [oB]
       unfold M4
       by_cases g1 : M8 o t.facts
       ·rw [if_neg (by simpa using g1), if_pos (j9 g1)]
        by_cases g2 : U2 o
        ·rw [ifP g2, ifNN (p := 0 ≤ o.cost ∧ o.cost ≤ 100) g2]; rfl
        ·rw [ifN g2, ifP (p := ¬ (0 ≤ o.cost ∧ o.cost ≤ 100)) g2]; rfl
       ·rw [if_pos (j9 g1), if_neg (fun h => g1 (i9.1 h))]; rfl
     have heq : rngX 0 (t.operators.length : Int) (D4 t) () = rngX 0 (t.operators.length : Int) (B7 t) () :=
      (rngX_eq (fun _ _ => True) (by omega) trivial (fun j s h0 h1 _ => by
       obtain ⟨o, _, e1, e2⟩ := hb j h0 h1
       exact ⟨by rw [e1, e2], by rw [e1]; simp, fun _ _ => trivial⟩)).1
     rcases D5 (body := B7 t) (n := (t.operators.length : Int)) (fun j => match ix t.operators j with | some o => if M4 o t.facts = 0 then none else some (⟨M4 o t.facts, j⟩ : TFault) | none => none) (by omega) (fun j h0 h1 _ => by
      obtain ⟨o, e0, _, e2⟩ := hb j h0 h1
      rw [e2, e0]
      dsimp only
      split <;> rfl) with ⟨h1, h2⟩ | ⟨j, f, h0, h1, h2, _, h4⟩
     ·rw [heq, h1]
      refine ⟨⟨0, 0⟩, rfl, rfl, .inl ⟨rfl, c1.1, c1.2, c2, c3, by omega, fun o ho => ?_⟩⟩
      obtain ⟨j, g0, g1, g2⟩ := E8 ho
      have := h2 j g0 g1
      rw [g2] at this
      dsimp only at this
      split at this
      ·rename_i e; exact opCode_zero.1 e
      ·cases this
     ·rw [heq, h4]
      obtain ⟨o, e0, _, _⟩ := hb j h0 h1
      rw [e0] at h2
      dsimp only at h2
      split at h2
      ·cases h2
      ·rename_i e
       cases h2
       exact ⟨_, rfl, rfl, .inr ⟨e, fun h => e (opCode_zero.2 (h.op o (o9 e0)))⟩⟩
   ·rw [ifP c3, ifP c3]
    exact ⟨_, rfl, rfl, .inr ⟨by simp, fun h => c3 h.goal⟩⟩
  ·rw [ifP c2, ifP c2]
   exact ⟨_, rfl, rfl, .inr ⟨by simp, fun h => c2 h.init⟩⟩
 ·rw [if_pos (by simp; omega), if_pos (j9 c1)]
  exact ⟨_, rfl, rfl, .inr ⟨by simp, fun h => c1 ⟨h.n0, h.n1⟩⟩⟩
theorem rSteps_eq {n : Int} (h0 : 0 ≤ n) (h1 : n ≤ 9223372036854775807) (plan : List Int) : ∃ f, I8 n plan = some f ∧ ((f = ⟨0, 0⟩ ∧ plan.length ≤ 60 ∧ ∀ x ∈ plan, 0 ≤ x ∧ x < n) ∨ (f.code ≠ 0 ∧ ¬ (plan.length ≤ 60 ∧ ∀ x ∈ plan, 0 ≤ x ∧ x < n))) := by
 unfold I8
 by_cases c : 60 < (plan.length : Int)
 ·rw [if_pos c]
  exact ⟨⟨2, -5⟩, rfl, .inr ⟨by simp, fun h => by omega⟩⟩
 ·rw [if_neg c]
  rw [ag0 (l := plan) (fun x => 0 ≤ x ∧ x < n) (⟨3, -6⟩ : TFault) (fun j a h => by
   unfold P1
   rw [h]
   simp only [oB, in_eq, at_eq, m6 (n := n - 1) (by omega) (by omega), B8]
   by_cases g : 0 ≤ a ∧ a < n
   ·rw [if_neg (by simp; omega)]; exact .inl ⟨g, rfl⟩
   ·rw [if_pos (by rw [i9]; omega)]; exact .inr ⟨g, rfl⟩)]
  by_cases g : ∀ x ∈ plan, 0 ≤ x ∧ x < n
  ·rw [if_pos (j9 g)]
   exact ⟨_, rfl, .inl ⟨rfl, by omega, g⟩⟩
  ·rw [if_neg (fun h => g (i9.1 h))]
   exact ⟨_, rfl, .inr ⟨by simp, fun h => g h.2⟩⟩
/-! ### What operators and plans do -/
def noOp : i6 := ⟨[], [], [], 0⟩
def opAt (t : f7) (op : Int) : i6 := (t.operators[op.toNat]?).getD noOp
theorem ix_op {t : f7} {op : Int} (h0 : 0 ≤ op) (h1 : op < t.operators.length) : ix t.operators op = some (opAt t op) := by
 obtain ⟨a, h2, h3⟩ := j7 h0 h1
 rw [h2, opAt, h3]; rfl
theorem k9.at {t : f7} (h : k9 t) {op : Int} (h0 : 0 ≤ op) (h1 : op < t.operators.length) : M8 (opAt t op) t.facts ∧ U2 (opAt t op) := h.op _ (o9 (ix_op h0 h1))
def can (t : f7) (s : List Int) (op : Int) : Prop := ∀ x ∈ (opAt t op).pre, x ∈ s
noncomputable def aft (t : f7) (s : List Int) (op : Int) : List Int := C4 (fun x => x ∈ (opAt t op).add ∨ x ∈ s ∧ x ∉ (opAt t op).del) t.facts
theorem setN_aft (t : f7) (s : List Int) (op : Int) : SetN (aft t s op) t.facts := ag4 _ _
theorem applies_eq {t : f7} {op : Int} (h0 : 0 ≤ op) (h1 : op < t.operators.length) (s : List Int) : K5 t s op = some (dec (can t s op)) := by
 unfold K5
 rw [ix_op h0 h1]
 simp only [oB, subset_eq]
 rfl
theorem after_eq {t : f7} (ht : k9 t) {op : Int} (h0 : 0 ≤ op) (h1 : op < t.operators.length) (s : List Int) : P8 t s op = some (aft t s op) := by
 have := ht.n1
 unfold P8
 rw [if_pos (by omega)]
 rw [ag5 (b := 8) (fun x => x ∈ (opAt t op).add ∨ x ∈ s ∧ x ∉ (opAt t op).del) ht.n0 (by omega) (fun j c g0 g1 => by
  unfold Y5
  simp only [ix_op h0 h1, oB, has_eq, B8]
  have e : (if dec (j ∈ (opAt t op).add) = true then some true else if dec (j ∈ s) = true then some (dec (j ∉ (opAt t op).del)) else some false) = some (dec (j ∈ (opAt t op).add ∨ j ∈ s ∧ j ∉ (opAt t op).del)) := by
   by_cases c1 : j ∈ (opAt t op).add
   ·rw [if_pos (j9 c1), j9 (.inl c1)]
   ·rw [if_neg (fun h => c1 (i9.1 h))]
    by_cases c2 : j ∈ s
    ·rw [if_pos (j9 c2)]
     exact congrArg some (L5 ⟨fun h => .inr ⟨c2, h⟩, fun h => (h.resolve_left c1).2⟩)
    ·rw [if_neg (fun h => c2 (i9.1 h)), n4 (fun h => c2 (h.resolve_left c1).1)]
  rw [e]
  simp only [oB]
  refine ⟨fun hq => ?_, fun hq => ?_⟩
  ·rw [if_pos (j9 hq)]
   cases app 8 c [j] <;> rfl
  ·rw [if_neg (fun h => hq (i9.1 h))]; rfl)]
 rfl
theorem can_eq {t : f7} (ht : k9 t) {op : Int} (h0 : 0 ≤ op) (h1 : op < t.operators.length) {s : List Int} (hs : SetN s t.facts) : T9 t s op = some (dec (can t s op)) := by
 have := ht.n1; have := hs.len
 unfold T9
 rw [ix_op h0 h1]
 simp only [oB]
 rw [ad7 hs.1 (ht.at h0 h1).1.1.1 (by omega)]
 rfl
theorem next_eq {t : f7} (ht : k9 t) {op : Int} (h0 : 0 ≤ op) (h1 : op < t.operators.length) {s : List Int} (hs : SetN s t.facts) : N1 t s op = some (aft t s op) := by
 have := ht.n1
 obtain ⟨⟨_, k2, k3, _⟩, _⟩ := ht.at h0 h1
 have hl := k3.len
 unfold N1
 rw [ix_op h0 h1]
 simp only [oB]
 rw [update_eq (n := t.facts) (by omega) k3.1 (by omega) hs k2]
 simp only [oB, aft]
 exact congrArg some (setOf_congr fun x _ _ => Or.comm)
noncomputable def ends (t : f7) : List Int → List Int → Option (List Int)
 | s, [] => some s
 | s, op :: r => if dec (can t s op) = true then ends t (aft t s op) r else none
theorem ends_append {t : f7} : ∀ {p q s : List Int}, ends t s (p ++ q) = (ends t s p).bind fun e => ends t e q
 | [], q, s => rfl
 | op :: r, q, s => by
  simp only [List.cons_append, ends]
  split
  ·exact ends_append
  ·rfl
def works (t : f7) (s plan : List Int) : Prop := ∃ e, ends t s plan = some e ∧ ∀ x ∈ t.goal, x ∈ e
end Ab
end
section
namespace Ab
open Go
/-! ### States as' numbers -/
def wsN : List Int → Nat
 | [] => 0
 | a :: l => 2 ^ a.toNat + wsN l
theorem wsN_append : ∀ {l m : List Int}, wsN (l ++ m) = wsN l + wsN m
 | [], m => by simp [wsN]
 | a :: l, m => by simp only [List.cons_append, wsN, wsN_append (l := l)]; omega
theorem wsN_le : ∀ {l : List Int}, (∀ x ∈ l, x < 24) → wsN l ≤ l.length * 16777216
 | [], _ => by simp [wsN]
 | a :: l, h => by
  have h1 := wsN_le (l := l) fun x hx => h x (List.mem_cons_of_mem _ hx)
  have h2 : 2 ^ a.toNat ≤ 2 ^ 24 := Nat.pow_le_pow_right (by decide) (by have := h a (by simp); omega)
  simp only [wsN, List.length_cons]
  omega
theorem wsN_dvd {k : Nat} : ∀ {l : List Int}, (∀ x ∈ l, k ≤ x.toNat) → 2 ^ k ∣ wsN l
 | [], _ => ⟨0, rfl⟩
 | a :: l, h => Nat.dvd_add (Nat.pow_dvd_pow 2 (h a (by simp))) (wsN_dvd fun x hx => h x (List.mem_cons_of_mem _ hx))
theorem two_pow_no {k : Nat} (h : 2 ^ (k + 1) ∣ 2 ^ k) : False := by
 have h1 := Nat.le_of_dvd (Nat.two_pow_pos k) h
 have h2 := Nat.two_pow_pos k
 rw [Nat.pow_succ] at h1
 omega
theorem wsN_ne {a : Int} {l m : List Int} (ha : 0 ≤ a) (hl : ∀ x ∈ l, a < x) (hm : ∀ x ∈ m, a < x) : wsN (a :: l) ≠ wsN m := fun h => by
 have d1 : 2 ^ (a.toNat + 1) ∣ wsN l := wsN_dvd fun x hx => by have := hl x hx; omega
 have d2 : 2 ^ (a.toNat + 1) ∣ wsN m := wsN_dvd fun x hx => by have := hm x hx; omega
 rw [← h, wsN] at d2
 exact two_pow_no ((Nat.dvd_add_left d1).1 d2)
theorem wsN_inj : ∀ {l m : List Int}, Inc l → Inc m → (∀ x ∈ l, 0 ≤ x) → (∀ x ∈ m, 0 ≤ x) → wsN l = wsN m → l = m
 | [], [], _, _, _, _, _ => rfl
 | [], b :: m, _, _, _, _, h => by
  have := Nat.two_pow_pos b.toNat
  simp only [wsN] at h; omega
 | a :: l, [], _, _, _, _, h => by
  have := Nat.two_pow_pos a.toNat
  simp only [wsN] at h; omega
 | a :: l, b :: m, h1, h2, h3, h4, h => by
  obtain ⟨l1, l2⟩ := List.pairwise_cons.1 h1
  obtain ⟨m1, m2⟩ := List.pairwise_cons.1 h2
  rcases Int.lt_trichotomy a b with c | c | c
  ·exact absurd h (wsN_ne (h3 a (by simp)) l1 fun x hx => by
    rcases List.mem_cons.1 hx with rfl | hx
    ·exact c
    ·have := m1 x hx; omega)
  ·subst c
   simp only [wsN] at h
   rw [wsN_inj l2 m2 (fun x hx => h3 x (List.mem_cons_of_mem _ hx)) (fun x hx => h4 x (List.mem_cons_of_mem _ hx)) (by omega)]
  ·exact absurd h.symm (wsN_ne (h4 b (by simp)) m1 fun x hx => by
    rcases List.mem_cons.1 hx with rfl | hx
    ·exact c
    ·have := l1 x hx; omega)
theorem SetN.word_inj {s s' : List Int} {n : Int} (h : SetN s n) (h' : SetN s' n) (e : wsN s = wsN s') : s = s' :=
 wsN_inj h.1 h'.1 (fun x hx => (h.2 x hx).1) (fun x hx => (h'.2 x hx).1) e
theorem word_eq {s : List Int} {n : Int} (hs : SetN s n) (hn : n ≤ 24) : O9 s = some (wsN s : Int) := by
 have hl := hs.len
 unfold O9
 obtain ⟨w, h1, h2⟩ := E3 (body := U1 s) (n := (s.length : Int)) (s := 0) (fun j w => w = (wsN (s.take j.toNat) : Int)) (by omega) (by simp [wsN]) (fun j w j0 j1 hP => by
  obtain ⟨a, ha, ga⟩ := j7 (l := s) j0 j1
  have hb := hs.2 a (o9 ha)
  have ht : s.take (j + 1).toNat = s.take j.toNat ++ [a] := by rw [show (j + 1).toNat = j.toNat + 1 by omega, List.take_add_one, ga]; rfl
  have b1 : wsN (s.take j.toNat) ≤ (s.take j.toNat).length * 16777216 := wsN_le fun x hx => by have := hs.2 x (List.mem_of_mem_take hx); omega
  have b2 : (s.take j.toNat).length ≤ 24 := by rw [List.length_take]; omega
  have b4 : (s.take j.toNat).length * 16777216 ≤ 24 * 16777216 := Nat.mul_le_mul_right _ b2
  obtain ⟨q, hq⟩ : ∃ q : Nat, q = 2 ^ a.toNat := ⟨_, rfl⟩
  have b3 : q ≤ 16777216 := by rw [hq]; exact (Nat.pow_le_pow_right (by decide) (by omega) : 2 ^ a.toNat ≤ 2 ^ 24)
  have ep : (2 : Int) ^ a.toNat = (q : Int) := by rw [hq]; push_cast; rfl
  unfold U1
  rw [ha]
  simp only [oB]
  rw [IntKind.wrap_u64, Int.emod_eq_of_lt (by omega) (by omega), chk0, if_neg (by omega)]
  simp only [oB]
  have es : shlW .i64 1 a = (q : Int) := by
   unfold shlW
   rw [show min a.toNat (IntKind.i64).bits = a.toNat by simp only [IntKind.bits]; omega, Int.one_mul, ep]
   exact m6 (by omega) (by omega)
  rw [es, m6 (by omega) (by omega), ht, wsN_append, hP]
  refine ⟨_, rfl, ?_⟩
  simp only [wsN, ← hq]
  omega)
 rw [h1, h2, Int.toNat_natCast, List.take_length]
 rfl
end Ab
end
section
namespace Ab
open Go
def dg (x : Int) : List Int := if x < 10 then [48 + x] else [48 + x / 10, 48 + x % 10]
def encS (s : List Int) : List Int := s.flatMap (fun x => dg x ++ [44]) ++ [59]
def encK (l : List (List Int)) : List Int := l.flatMap encS
def O2 (s : List Int) : Prop := ∀ x ∈ s, 0 ≤ x ∧ x < 100
theorem dg_split {x y : Int} (hx : 0 ≤ x ∧ x < 100) (hy : 0 ≤ y ∧ y < 100) {r r' : List Int} (h : dg x ++ 44 :: r = dg y ++ 44 :: r') : x = y ∧ r = r' := by
 unfold dg at h
 split at h <;> split at h <;> simp only [List.cons_append, List.nil_append, List.cons.injEq] at h
 ·exact ⟨by omega, h.2.2⟩
 ·exfalso; omega
 ·exfalso; omega
 ·exact ⟨by omega, h.2.2.2⟩
theorem dg_head {x : Int} (hx : 0 ≤ x ∧ x < 100) : ∃ a l, dg x = a :: l ∧ 48 ≤ a ∧ a < 58 := by
 unfold dg
 split
 ·exact ⟨_, _, rfl, by omega, by omega⟩
 ·exact ⟨_, _, rfl, by omega, by omega⟩
theorem W9 (x : Int) (s : List Int) : encS (x :: s) = dg x ++ 44 :: encS s := by simp [encS]
theorem encS_inj : ∀ {s s' r r' : List Int}, O2 s → O2 s' → encS s ++ r = encS s' ++ r' → s = s' ∧ r = r'
 | [], [], r, r', _, _, h => by simp [encS] at h; exact ⟨rfl, h⟩
 | [], y :: s', r, r', _, h2, h => by
  obtain ⟨a, l, ha, h3, h4⟩ := dg_head (h2 y (by simp))
  rw [W9, ha] at h
  simp only [encS, List.flatMap_nil, List.nil_append, List.cons_append, List.cons.injEq] at h
  omega
 | x :: s, [], r, r', h1, _, h => by
  obtain ⟨a, l, ha, h3, h4⟩ := dg_head (h1 x (by simp))
  rw [W9, ha] at h
  simp only [encS, List.flatMap_nil, List.nil_append, List.cons_append, List.cons.injEq] at h
  omega
 | x :: s, y :: s', r, r', h1, h2, h => by
  rw [W9, W9, List.append_assoc, List.append_assoc, List.cons_append, List.cons_append] at h
  obtain ⟨rfl, g⟩ := dg_split (h1 x (by simp)) (h2 y (by simp)) h
  obtain ⟨e1, e2⟩ := encS_inj (s := s) (s' := s') (fun z hz => h1 z (List.mem_cons_of_mem _ hz)) (fun z hz => h2 z (List.mem_cons_of_mem _ hz)) g
  exact ⟨by rw [e1], e2⟩
theorem encK_inj : ∀ {l l' : List (List Int)}, (∀ s ∈ l, O2 s) → (∀ s ∈ l', O2 s) → encK l = encK l' → l = l'
 | [], [], _, _, _ => rfl
 | [], s :: l', _, _, h => by
  have h := congrArg List.length h
  simp only [encK, encS, List.flatMap_nil, List.flatMap_cons, List.length_append, List.length_nil, List.length_cons] at h
  omega
 | s :: l, [], _, _, h => by
  have h := congrArg List.length h
  simp only [encK, encS, List.flatMap_nil, List.flatMap_cons, List.length_append, List.length_nil, List.length_cons] at h
  omega
 | s :: l, s' :: l', h1, h2, h => by
  have h : encS s ++ encK l = encS s' ++ encK l' := h
  obtain ⟨e1, e2⟩ := encS_inj (h1 s (List.mem_cons_self ..)) (h2 s' (List.mem_cons_self ..)) h
  have e3 := encK_inj (l := l) (l' := l') (fun z hz => h1 z (List.mem_cons_of_mem _ hz)) (fun z hz => h2 z (List.mem_cons_of_mem _ hz)) e2
  rw [e1, e3]
theorem dg_byte {x : Int} (hx : 0 ≤ x ∧ x < 100) : ∀ a ∈ dg x, 0 ≤ a ∧ a < 256 := by
 intro a ha
 unfold dg at ha
 split at ha <;> simp at ha <;> omega
theorem encS_byte {s : List Int} (h : O2 s) : ∀ a ∈ encS s, 0 ≤ a ∧ a < 256 := by
 intro a ha
 simp only [encS, List.mem_append, List.mem_flatMap, List.mem_singleton] at ha
 rcases ha with ⟨x, hx, h1 | h1⟩ | h1
 ·exact dg_byte (h x hx) a h1
 ·omega
 ·omega
theorem encK_byte {l : List (List Int)} (h : ∀ s ∈ l, O2 s) : ∀ a ∈ encK l, 0 ≤ a ∧ a < 256 := by
 intro a ha
 simp only [encK, List.mem_flatMap] at ha
 obtain ⟨s, hs, h1⟩ := ha
 exact encS_byte (h s hs) a h1
theorem strB_inj {l l' : List Int} (h1 : ∀ a ∈ l, 0 ≤ a ∧ a < 256) (h2 : ∀ a ∈ l', 0 ≤ a ∧ a < 256) (h : strB l = strB l') : l = l' := by
 have h3 : l.map (fun n => UInt8.ofNat n.toNat) = l'.map (fun n => UInt8.ofNat n.toNat) := by
  have := congrArg ByteArray.data h
  simpa [strB] using this
 have back : ∀ {m : List Int}, (∀ a ∈ m, 0 ≤ a ∧ a < 256) → (m.map (fun n => UInt8.ofNat n.toNat)).map (fun b => (b.toNat : Int)) = m := by
  intro m hm
  rw [List.map_map]
  conv => rhs; rw [← List.map_id m]
  apply List.map_congr_left
  intro a ha
  have := hm a ha
  simp only [Function.comp_apply, id_eq, UInt8.toNat_ofNat']
  omega
 rw [← back h1, ← back h2, h3]
def keyK (l : List (List Int)) : ByteArray := strB (encK l)
theorem keyK_inj {l l' : List (List Int)} (h1 : ∀ s ∈ l, O2 s) (h2 : ∀ s ∈ l', O2 s) (h : keyK l = keyK l') : l = l' := encK_inj h1 h2 (strB_inj (encK_byte h1) (encK_byte h2) h)
/-! ### Maps -/
theorem X5 {K V : Type} [DecidableEq K] (k k' : K) (v : V) : ∀ m : List (K × V), mget (mset m k v) k' = if k' = k then some v else mget m k'
 | [] => by
  simp only [mset, mget]
 | p :: r => by
  simp only [mset]
  by_cases h : k = p.1
  ·rw [if_pos h]
   simp only [mget]
   by_cases h2 : k' = k
   ·rw [if_pos h2, if_pos h2]
   ·rw [if_neg h2, if_neg h2, if_neg (by rw [← h]; exact h2)]
  ·rw [if_neg h]
   simp only [mget]
   rw [X5 k k' v r]
   by_cases h2 : k' = p.1
   ·rw [if_pos h2, if_pos h2, if_neg (fun e => h (e.symm.trans h2))]
   ·rw [if_neg h2, if_neg h2]
end Ab
end
section
namespace Ab
open Go
theorem T0 {α : Type} [DecidableEq α] : ∀ {c S : List α}, c.Nodup → (∀ x ∈ c, x ∈ S) → c.length ≤ S.length
 | [], _, _, _ => Nat.zero_le _
 | a :: c, S, h, hs => by
  obtain ⟨h1, h2⟩ := List.nodup_cons.1 h
  have ha := hs a (by simp)
  have := T0 (c := c) (S := S.erase a) h2 fun x hx => by
   have hne : x ≠ a := fun e => h1 (e ▸ hx)
   exact (List.mem_erase_of_ne hne).2 (hs x (List.mem_cons_of_mem _ hx))
  rw [List.length_erase_of_mem ha] at this
  have : 0 < S.length := List.length_pos_of_mem ha
  simp only [List.length_cons]
  omega
section
variable {α : Type}
def Dn (G L : α → Prop) (nx : α → List α) : Nat → α → Prop
 | 0, s => G s
 | k + 1, s => G s ∨ (L s ∧ ∀ y ∈ nx s, Dn G L nx k y)
variable {G L : α → Prop} {nx : α → List α}
theorem Dn.goal {k : Nat} {s : α} (h : G s) : Dn G L nx k s := by
 cases k with
 | zero => exact h
 | succ k => exact .inl h
theorem Dn.succ : ∀ {k : Nat} {s : α}, Dn G L nx k s → Dn G L nx (k + 1) s
 | 0, s, h => .inl h
 | k + 1, s, h => by
  rcases h with h | ⟨h1, h2⟩
  ·exact .inl h
  ·exact .inr ⟨h1, fun y hy => (h2 y hy).succ⟩
theorem Dn.mono {k m : Nat} {s : α} (h : Dn G L nx k s) (hm : k ≤ m) : Dn G L nx m s := by
 induction hm with
 | refl => exact h
 | step _ ih => exact ih.succ
def Ht (G L : α → Prop) (nx : α → List α) (k : Nat) (s : α) : Prop := Dn G L nx k s ∧ ∀ j, j < k → ¬ Dn G L nx j s
theorem Ht.unique {k m : Nat} {s : α} (h : Ht G L nx k s) (h' : Ht G L nx m s) : k = m := by
 rcases Nat.lt_trichotomy k m with c | c | c
 ·exact absurd h.1 (h'.2 k c)
 ·exact c
 ·exact absurd h'.1 (h.2 m c)
theorem Ht.le {k m : Nat} {s : α} (h : Ht G L nx k s) (h' : Dn G L nx m s) : k ≤ m := by
 rcases Nat.lt_or_ge m k with c | c
 ·exact absurd h' (h.2 m c)
 ·exact c
theorem Ht.of_dn : ∀ {k : Nat} {s : α}, Dn G L nx k s → ∃ m, m ≤ k ∧ Ht G L nx m s
 | 0, s, h => ⟨0, Nat.le_refl _, h, fun j hj => by omega⟩
 | k + 1, s, h => by
  by_cases c : Dn G L nx k s
  ·obtain ⟨m, h1, h2⟩ := Ht.of_dn c
   exact ⟨m, by omega, h2⟩
  ·exact ⟨k + 1, Nat.le_refl _, h, fun j hj hd => c (hd.mono (by omega))⟩
theorem Ht.zero {s : α} (h : G s) : Ht G L nx 0 s := ⟨h, fun j hj => by omega⟩
theorem Ht.goal {k : Nat} {s : α} (h : Ht G L nx k s) (hg : G s) : k = 0 := h.unique (.zero hg)
theorem Ht.step {k : Nat} {s : α} (h : Ht G L nx k s) (hg : ¬ G s) (hne : ∀ s, L s → nx s ≠ []) : ∃ m, k = m + 1 ∧ L s ∧ (∀ y ∈ nx s, ∃ j, j ≤ m ∧ Ht G L nx j y) ∧ ∃ y ∈ nx s, Ht G L nx m y := by
 cases k with
 | zero => exact absurd h.1 hg
 | succ m =>
  rcases h.1 with g | ⟨h1, h2⟩
  ·exact absurd g hg
  ·refine ⟨m, rfl, h1, fun y hy => Ht.of_dn (h2 y hy), ?_⟩
   cases m with
   | zero =>
    obtain ⟨y, hy⟩ := List.exists_mem_of_ne_nil _ (hne s h1)
    exact ⟨y, hy, h2 y hy, fun j hj => by omega⟩
   | succ m =>
    have hn := h.2 (m + 1) (by omega)
    have : ∃ y ∈ nx s, ¬ Dn G L nx m y := Classical.byContradiction fun hc => hn (.inr ⟨h1, fun y hy => Classical.byContradiction fun hy2 => hc ⟨y, hy, hy2⟩⟩)
    obtain ⟨y, hy, hy2⟩ := this
    exact ⟨y, hy, h2 y hy, fun j hj hd => hy2 (hd.mono (by omega))⟩
end
end Ab
end
section
namespace Ab
open Go
/-! ### Maps -/
section
variable {K V : Type} [DecidableEq K]
theorem mset_new {k : K} {v : V} : ∀ {m : List (K × V)}, mget m k = none → mset m k v = m ++ [(k, v)]
 | [], _ => rfl
 | p :: r, h => by
  simp only [mget] at h
  split at h
  ·cases h
  ·rename_i hne
   simp only [mset, if_neg hne, mset_new h, List.cons_append]
theorem mget_none {k : K} : ∀ {m : List (K × V)}, mget m k = none → k ∉ m.map (·.1)
 | [], _ => by simp
 | p :: r, h => by
  simp only [mget] at h
  split at h
  ·cases h
  ·rename_i hne
   have := mget_none h
   simp only [List.map_cons, List.mem_cons, not_or]
   exact ⟨hne, this⟩
end
theorem ix_neg {α : Type} {l : List α} {i : Int} (h : i < 0) : ix l i = none := by
 unfold ix; rw [if_neg (by omega)]
theorem ix_snoc {α : Type} {l : List α} {x : α} {i : Int} : ix (l ++ [x]) i = if i = l.length then some x else ix l i := by
 by_cases h0 : 0 ≤ i
 ·obtain ⟨k, rfl⟩ := Int.eq_ofNat_of_zero_le h0
  rw [I6, I6]
  by_cases e : k = l.length
  ·subst e; simp
  ·rw [if_neg (by omega)]
   rcases Nat.lt_or_ge k l.length with h | h
   ·rw [List.getElem?_append_left h]
   ·rw [List.getElem?_eq_none (by simp; omega), List.getElem?_eq_none h]
 ·rw [ix_neg (by omega), ix_neg (by omega), if_neg (by omega)]
end Ab
end
section
namespace Ab
open Go
theorem numbers_eq (a b : List Int) : G7 a b = some (dec (a = b)) := by
 unfold G7
 by_cases hl : (a.length : Int) = b.length
 ·rw [if_pos hl]
  rcases D5 (body := L8 a b) (n := (a.length : Int)) (fun j => if dec (ix a j = ix b j) = true then none else some false) (by omega) (fun j h0 h1 _ => by
   obtain ⟨x, hx, _⟩ := j7 (l := a) h0 h1
   obtain ⟨y, hy, _⟩ := j7 (l := b) (i := j) h0 (by omega)
   unfold L8
   rw [hx, hy]
   simp only [oB]
   by_cases e : x = y
   ·rw [if_pos e, ifP (by rw [e])]
   ·rw [if_neg e, ifN (by simpa using e)]) with ⟨h1, h2⟩ | ⟨j, o, h0, h1, h2, _, h4⟩
  ·rw [h1, j9]
   ·rfl
   ·refine List.ext_getElem? fun k => ?_
    by_cases hk : k < a.length
    ·have := h2 k (by omega) (by omega)
     split at this
     ·rename_i e
      have := i9.1 e
      rwa [I6, I6] at this
     ·cases this
    ·rw [List.getElem?_eq_none (by omega), List.getElem?_eq_none (by omega)]
  ·rw [h4]
   split at h2
   ·cases h2
   ·rename_i e
    cases h2
    rw [n4 (fun h => e (j9 (by rw [h])))]; rfl
 ·rw [if_neg hl, n4 (fun h => hl (by rw [h]))]
theorem setN1 (a : Int) {n : Int} (h0 : 0 ≤ a) (h1 : a < n) : SetN [a] n := ⟨by simp, by simp [h0, h1]⟩
def m5 : f7 := ⟨2, [0], [1], [⟨[0], [1], [0], 1⟩, ⟨[], [1], [], 3⟩]⟩
theorem step_ok : k9 m5 where
 n0 := by decide
 n1 := by decide
 init := setN1 0 (by decide) (by decide)
 goal := setN1 1 (by decide) (by decide)
 ops := by decide
 op o ho := by
  simp only [m5, List.mem_cons, List.not_mem_nil, or_false] at ho
  rcases ho with rfl | rfl
  ·exact ⟨⟨setN1 0 (by decide) (by decide), setN1 1 (by decide) (by decide), setN1 0 (by decide) (by decide), by simp⟩, by decide, by decide⟩
  ·exact ⟨⟨setN_nil _, setN1 1 (by decide) (by decide), setN_nil _, by simp⟩, by decide, by decide⟩
end Ab
end
section
namespace Ab
open Go
def llt : List Int → List Int → Prop
 | [], [] => False
 | [], _ :: _ => True
 | _ :: _, [] => False
 | a :: l, b :: m => a < b ∨ a = b ∧ llt l m
theorem P9 : ∀ l : List Int, ¬ llt l l
 | [] => id
 | a :: l => fun h => by
  rcases h with h | ⟨_, h⟩
  ·omega
  ·exact P9 l h
theorem S9 : ∀ {a b c : List Int}, llt a b → llt b c → llt a c
 | [], [], _, h, _ => h.elim
 | [], _ :: _, [], _, h => h.elim
 | [], _ :: _, _ :: _, _, _ => trivial
 | _ :: _, [], _, h, _ => h.elim
 | _ :: _, _ :: _, [], _, h => h.elim
 | x :: a, y :: b, z :: c, h, g => by
  rcases h with h | ⟨rfl, h⟩ <;> rcases g with g | ⟨rfl, g⟩
  ·exact .inl (by omega)
  ·exact .inl h
  ·exact .inl g
  ·exact .inr ⟨rfl, S9 h g⟩
theorem T3 : ∀ a b : List Int, llt a b ∨ a = b ∨ llt b a
 | [], [] => .inr (.inl rfl)
 | [], _ :: _ => .inl trivial
 | _ :: _, [] => .inr (.inr trivial)
 | x :: a, y :: b => by
  rcases Int.lt_trichotomy x y with h | rfl | h
  ·exact .inl (.inl h)
  ·rcases T3 a b with h | rfl | h
   ·exact .inl (.inr ⟨rfl, h⟩)
   ·exact .inr (.inl rfl)
   ·exact .inr (.inr (.inr ⟨rfl, h⟩))
  ·exact .inr (.inr (.inl h))
theorem llt_asymm {a b : List Int} (h : llt a b) (g : llt b a) : False := P9 a (S9 h g)
noncomputable def cmpL (a b : List Int) : Int := if dec (llt a b) = true then -1 else if dec (a = b) = true then 0 else 1
theorem V4 {a b : List Int} : cmpL a b < 0 ↔ llt a b := by
 unfold cmpL
 by_cases h : llt a b
 ·rw [ifP h]; simp [h]
 ·rw [ifN h]
  split <;> simp [h]
theorem cmpL_eq {a b : List Int} : cmpL a b = 0 ↔ a = b := by
 unfold cmpL
 by_cases h : llt a b
 ·rw [ifP h]
  constructor
  ·intro e; omega
  ·rintro rfl; exact absurd h (P9 _)
 ·rw [ifN h]
  by_cases g : a = b
  ·rw [ifP g]; simp [g]
  ·rw [ifN g]; simp [g]
theorem cmpInt_eq (x y : Int) : I7 x y = some (if x < y then -1 else if y < x then 1 else 0) := by
 unfold I7 B9
 simp only [decide_true, Bool.not_true, oB, Bool.false_eq_true, if_false]
 split
 ·rfl
 ·split <;> rfl
theorem llt_drop : ∀ {a b : List Int} (k : Nat), k ≤ a.length → k ≤ b.length → a.take k = b.take k → (llt a b ↔ llt (a.drop k) (b.drop k))
 | _, _, 0, _, _, _ => by simp
 | [], _, k + 1, h, _, _ => by simp at h
 | _ :: _, [], k + 1, _, h, _ => by simp at h
 | x :: a, y :: b, k + 1, h1, h2, h3 => by
  simp only [List.take_succ_cons, List.cons.injEq] at h3
  obtain ⟨rfl, h3⟩ := h3
  simp only [List.drop_succ_cons]
  rw [← llt_drop k (by simpa using h1) (by simpa using h2) h3]
  simp [llt]
theorem compare_eq (a b : List Int) : q8 a b = some (cmpL a b) := by
 unfold q8
 rcases ac2 (body := A5 a b) (n := (a.length : Int)) (s := ()) (fun j _ => j ≤ b.length ∧ a.take j.toNat = b.take j.toNat) (fun o => o = cmpL a b) (by omega) ⟨by omega, by simp⟩ (fun j _ j0 j1 ⟨k1, k2⟩ => by
  obtain ⟨x, hx, gx⟩ := j7 (l := a) j0 j1
  have hxl := (List.getElem?_eq_some_iff.1 gx).2
  unfold A5
  rw [hx]
  simp only [oB]
  have hd := llt_drop (a := a) (b := b) j.toNat (by omega) (by omega) k2
  have da : a.drop j.toNat = x :: a.drop (j.toNat + 1) := by rw [← hxl]; exact List.drop_eq_getElem_cons (by omega)
  by_cases c : (b.length : Int) ≤ j
  ·rw [if_pos c]
   refine .inr ⟨_, rfl, ?_⟩
   have db : b.drop j.toNat = [] := List.drop_of_length_le (by omega)
   rw [da, db] at hd
   unfold cmpL
   rw [ifN (fun h => (hd.1 h).elim), ifN]
   rintro rfl; omega
  ·rw [if_neg c]
   obtain ⟨y, hy, gy⟩ := j7 (l := b) (i := j) j0 (by omega)
   have hyl := (List.getElem?_eq_some_iff.1 gy).2
   have db : b.drop j.toNat = y :: b.drop (j.toNat + 1) := by rw [← hyl]; exact List.drop_eq_getElem_cons (by omega)
   rw [hy]
   simp only [oB, cmpInt_eq]
   rw [da, db] at hd
   have hne : x ≠ y → a ≠ b := fun h e => by subst e; rw [hx] at hy; cases hy; exact h rfl
   rcases Int.lt_trichotomy x y with h | rfl | h
   ·rw [if_pos h, if_neg (by decide)]
    refine .inr ⟨_, rfl, ?_⟩
    unfold cmpL
    rw [ifP (hd.2 (.inl h))]
   ·simp only [Int.lt_irrefl, if_false, if_true]
    refine .inl ⟨(), trivial, by omega, ?_⟩
    rw [show (j + 1).toNat = j.toNat + 1 by omega, List.take_add_one, List.take_add_one, gx, gy, k2]
   ·rw [if_neg (show ¬ x < y by omega), if_pos h, if_neg (by decide)]
    refine .inr ⟨_, rfl, ?_⟩
    unfold cmpL
    rw [ifN, ifN (hne (by omega))]
    intro g
    rcases hd.1 g with g | ⟨g, _⟩ <;> omega) with ⟨_, r1, r2, r3⟩ | ⟨o, r1, rfl⟩
 ·rw [r1]
  simp only [oB]
  have hd := llt_drop (a := a) (b := b) a.length (Nat.le_refl _) (by omega) (by simpa using r3)
  have da : a.drop a.length = [] := by simp
  rw [da] at hd
  have e3 : a = b.take a.length := by simpa using r3
  by_cases c : (a.length : Int) < b.length
  ·rw [if_pos c]
   have : b.drop a.length ≠ [] := by simp; omega
   unfold cmpL
   rw [ifP]
   rw [hd]
   cases h : b.drop a.length with
   | nil => exact absurd h this
   | cons x l => trivial
  ·rw [if_neg c]
   have : a = b := by rw [e3, List.take_of_length_le (by omega)]
   rw [cmpL_eq.2 this]
 ·rw [r1]; rfl
theorem cmp_ok : CmpOk q8 cmpL := by
 refine ⟨compare_eq, ⟨fun x => ?_, fun x y z h1 h2 => ?_, fun x y z h1 h2 => ?_⟩, fun a b h1 h2 => ?_⟩
 ·simp only [Go.Proofs.ltOf, decide_eq_false_iff_not, V4]
  exact P9 x
 ·simp only [Go.Proofs.ltOf, decide_eq_true_eq, V4] at h1 h2 ⊢
  exact S9 h1 h2
 ·simp only [Go.Proofs.ltOf, decide_eq_false_iff_not, V4] at h1 h2 ⊢
  intro h
  rcases T3 x y with g | rfl | g
  ·exact h1 g
  ·exact h2 h
  ·exact h2 (S9 g h)
 ·rw [V4] at h1 h2
  rcases T3 a b with g | g | g
  ·exact absurd g h1
  ·exact g
  ·exact absurd g h2
/-! ### Lists compared -/
theorem listEq {α : Type} {a b : List α} {body : Int → Unit → Option (Unit ⊕ Bool)} (hl : a.length = b.length) (hb : ∀ j x y, ix a j = some x → ix b j = some y → (x = y ∧ body j () = some (.inl ())) ∨ (x ≠ y ∧ body j () = some (.inr false))) :
  (Option.bind (rngX 0 (a.length : Int) body ()) fun | .inl _ => some true | .inr x => some x) = some (dec (a = b)) := by
 rcases D5 (body := body) (n := (a.length : Int)) (fun j => if dec (ix a j = ix b j) = true then none else some false) (by omega) (fun j h0 h1 _ => by
  obtain ⟨x, hx, _⟩ := j7 (l := a) h0 h1
  obtain ⟨y, hy, _⟩ := j7 (l := b) (i := j) h0 (by omega)
  rcases hb j x y hx hy with ⟨e, h⟩ | ⟨e, h⟩
  ·rw [h, ifP (by rw [hx, hy, e])]
  ·rw [h, ifN (by rw [hx, hy]; simpa using e)]) with ⟨h1, h2⟩ | ⟨j, o, h0, h1, h2, _, h4⟩
 ·rw [h1, j9]
  ·rfl
  ·refine List.ext_getElem? fun k => ?_
   by_cases hk : k < a.length
   ·have := h2 k (by omega) (by omega)
    split at this
    ·rename_i e
     have := i9.1 e
     rwa [I6, I6] at this
    ·cases this
   ·rw [List.getElem?_eq_none (by omega), List.getElem?_eq_none (by omega)]
 ·rw [h4]
  split at h2
  ·cases h2
  ·rename_i e
   cases h2
   rw [n4 (fun h => e (j9 (by rw [h])))]; rfl
theorem twoInts_eq (a b : List (Int × Int)) : H3 a b = some (dec (a = b)) := by
 unfold H3
 by_cases hl : (a.length : Int) = b.length
 ·rw [if_pos hl]
  refine listEq (by omega) fun j x y hx hy => ?_
  unfold S4
  simp only [hx, hy, oB]
  by_cases e : x = y
  ·subst e
   rw [if_neg (by simp)]; exact .inl ⟨rfl, rfl⟩
  ·rw [if_pos]
   ·exact .inr ⟨e, rfl⟩
   ·obtain ⟨x1, x2⟩ := x
    obtain ⟨y1, y2⟩ := y
    simp only [Prod.mk.injEq, not_and] at e
    simp
    by_cases h : x1 = y1
    ·exact .inr (e h)
    ·exact .inl h
 ·rw [if_neg hl, n4 (fun h => hl (by rw [h]))]
theorem ints_eq (a b : List Int) : X4 a b = some (dec (a = b)) := by
 unfold X4
 by_cases hl : (a.length : Int) = b.length
 ·rw [if_pos hl]
  refine listEq (by omega) fun j x y hx hy => ?_
  unfold ab8
  simp only [hx, hy, oB]
  by_cases e : x = y
  ·rw [if_pos e]; exact .inl ⟨e, rfl⟩
  ·rw [if_neg e]; exact .inr ⟨e, rfl⟩
 ·rw [if_neg hl, n4 (fun h => hl (by rw [h]))]
theorem equal_eq (a b : List Int) : w6 a b = some (dec (a = b)) := by
 unfold w6
 by_cases hl : (a.length : Int) = b.length
 ·rw [if_pos hl]
  refine listEq (by omega) fun j x y hx hy => ?_
  unfold G6
  simp only [hx, hy, oB]
  by_cases e : x = y
  ·rw [if_pos e]; exact .inl ⟨e, rfl⟩
  ·rw [if_neg e]; exact .inr ⟨e, rfl⟩
 ·rw [if_neg hl, n4 (fun h => hl (by rw [h]))]
theorem place_eq (l : List (List Int)) (s : List Int) : ∃ r, M3 l s = some r ∧ ((r = -1 ∧ s ∉ l) ∨ (0 ≤ r ∧ r < l.length ∧ ix l r = some s ∧ ∀ j, 0 ≤ j → j < r → ix l j ≠ some s)) := by
 unfold M3
 rcases D5 (body := R5 l s) (n := (l.length : Int)) (fun j => if dec (ix l j = some s) = true then some j else none) (by omega) (fun j h0 h1 _ => by
  obtain ⟨x, hx, _⟩ := j7 (l := l) h0 h1
  unfold R5
  simp only [hx, oB, ints_eq]
  by_cases e : x = s
  ·rw [ifP e, ifP (by rw [e])]
  ·rw [ifN e, ifN (by simpa using e)]) with ⟨h1, h2⟩ | ⟨j, o, h0, h1, h2, h3, h4⟩
 ·rw [h1]
  refine ⟨-1, rfl, .inl ⟨rfl, fun hs => ?_⟩⟩
  obtain ⟨i, i0, i1, hi⟩ := E8 hs
  have := h2 i i0 i1
  rw [ifP hi] at this
  cases this
 ·rw [h4]
  split at h2
  ·rename_i e
   cases h2
   refine ⟨_, rfl, .inr ⟨h0, h1, i9.1 e, fun i i0 i1 => ?_⟩⟩
   have := h3 i i0 i1
   split at this
   ·cases this
   ·rename_i e
    exact fun h => e (j9 h)
  ·cases h2
/-! ### Ordered lists -/
abbrev Ord (l : List (List Int)) : Prop := l.Pairwise llt
theorem Ord.ext : ∀ {l m : List (List Int)}, Ord l → Ord m → (∀ x, x ∈ l ↔ x ∈ m) → l = m
 | [], [], _, _, _ => rfl
 | [], b :: m, _, _, h => absurd ((h b).2 (by simp)) (by simp)
 | a :: l, [], _, _, h => absurd ((h a).1 (by simp)) (by simp)
 | a :: l, b :: m, hl, hm, h => by
  obtain ⟨l1, l2⟩ := List.pairwise_cons.1 hl
  obtain ⟨m1, m2⟩ := List.pairwise_cons.1 hm
  have hab : a = b := by
   rcases List.mem_cons.1 ((h a).1 (by simp)) with e | e
   ·exact e
   ·rcases List.mem_cons.1 ((h b).2 (by simp)) with e' | e'
    ·exact e'.symm
    ·exact (llt_asymm (l1 b e') (m1 a e)).elim
  subst hab
  rw [Ord.ext l2 m2 fun x => ⟨fun hx => ?_, fun hx => ?_⟩]
  ·rcases List.mem_cons.1 ((h x).1 (by simp [hx])) with e | e
   ·subst e; exact absurd (l1 x hx) (P9 x)
   ·exact e
  ·rcases List.mem_cons.1 ((h x).2 (by simp [hx])) with e | e
   ·subst e; exact absurd (m1 x hx) (P9 x)
   ·exact e
def ddN (l : List (List Int)) : Nat → List (List Int)
 | 0 => []
 | m + 1 => ddN l m ++ if decide (m = 0 ∨ l[m]? ≠ l[m - 1]?) = true then l[m]?.toList else []
theorem ddN_spec {l : List (List Int)} (hs : l.Pairwise fun a b => ¬ llt b a) : ∀ m, m ≤ l.length → Ord (ddN l m) ∧ ∀ x, x ∈ ddN l m ↔ x ∈ l.take m := by
 intro m
 induction m with
 | zero => intro _; simp [ddN]
 | succ m ih =>
  intro hm
  obtain ⟨h1, h2⟩ := ih (by omega)
  have hlt : m < l.length := by omega
  have ht : l.take (m + 1) = l.take m ++ [l[m]] := by rw [List.take_add_one]; simp [hlt]
  rw [ddN, ht]
  by_cases hk : m = 0 ∨ l[m]? ≠ l[m - 1]?
  ·rw [if_pos (by simpa using hk)]
   simp only [List.getElem?_eq_getElem hlt, Option.toList_some]
   refine ⟨List.pairwise_append.2 ⟨h1, by simp, fun a ha b hb => ?_⟩, fun x => by rw [List.mem_append, List.mem_append, h2]⟩
   simp only [List.mem_singleton] at hb
   subst hb
   have ha' := (h2 a).1 ha
   obtain ⟨i, hi, rfl⟩ := List.mem_iff_getElem.1 ha'
   rw [List.length_take] at hi
   rw [List.getElem_take]
   rcases hk with hk | hk
   ·omega
   ·have hm1 : m - 1 < l.length := by omega
    rw [List.getElem?_eq_getElem hlt, List.getElem?_eq_getElem hm1] at hk
    have e1 : ¬ llt l[m] l[m - 1] := List.pairwise_iff_getElem.1 hs (m - 1) m hm1 hlt (by omega)
    have e2 : llt l[m - 1] l[m] := by
     rcases T3 l[m - 1] l[m] with h | h | h
     ·exact h
     ·exact absurd (by rw [h]) hk
     ·exact absurd h e1
    by_cases hi2 : i = m - 1
    ·subst hi2; exact e2
    ·have e3 : ¬ llt l[m - 1] l[i] := List.pairwise_iff_getElem.1 hs i (m - 1) (by omega) hm1 (by omega)
     rcases T3 l[i] l[m] with h | h | h
     ·exact h
     ·rw [h] at e3; exact absurd e2 e3
     ·exact absurd (S9 e2 h) e3
  ·rw [if_neg (by simpa using hk), List.append_nil]
   refine ⟨h1, fun x => ?_⟩
   rw [h2, List.mem_append]
   refine ⟨.inl, fun h => ?_⟩
   rcases h with h | h
   ·exact h
   ·simp only [List.mem_singleton] at h
    subst h
    have hm0 : m ≠ 0 := fun e => hk (.inl e)
    have he : l[m]? = l[m - 1]? := Classical.not_not.1 fun e => hk (.inr e)
    rw [List.getElem?_eq_getElem hlt, List.getElem?_eq_getElem (show m - 1 < l.length by omega)] at he
    rw [Option.some.inj he, List.mem_take_iff_getElem]
    exact ⟨m - 1, by omega, rfl⟩
theorem ddN_len (l : List (List Int)) : ∀ m, (ddN l m).length ≤ m
 | 0 => by simp [ddN]
 | m + 1 => by
  have := ddN_len l m
  rw [ddN, List.length_append]
  split
  ·have : (l[m]?.toList).length ≤ 1 := by cases l[m]? <;> simp
   omega
  ·simp; omega
theorem ddN_all {l : List (List Int)} : ∀ m, m ≤ l.length → (∀ i, 0 < i → i < m → l[i]? ≠ l[i - 1]?) → ddN l m = l.take m
 | 0, _, _ => by simp [ddN]
 | m + 1, hm, h => by
  rw [ddN, ddN_all m (by omega) fun i h0 h1 => h i h0 (by omega), if_pos, List.take_add_one]
  rw [decide_eq_true_eq]
  by_cases e : m = 0
  ·exact .inl e
  ·exact .inr (h m (by omega) (by omega))
theorem compactF_eq {l : List (List Int)} (hl : l.length ≤ 1000000) : o7 l = some (ddN l l.length) := by
 unfold o7
 by_cases c0 : (l.length : Int) < 2
 ·rw [if_pos c0, ddN_all l.length (Nat.le_refl _) fun i h0 h1 => by omega, List.take_length]
 ·rw [if_neg c0]
  have key := rngN_inv (body := l9 l) (fun j _ => ∀ i : Nat, 0 < i → (i : Int) < j → l[i]? ≠ l[i - 1]?) (fun o => o = ddN l l.length) ((l.length : Int) - 1).toNat 1 () (fun i h0 h1 => by omega) (fun j _ j0 j1 hP => by
   obtain ⟨a, ha, ga⟩ := j7 (l := l) (i := j) (by omega) (by omega)
   obtain ⟨b, hb, gb⟩ := j7 (l := l) (i := j - 1) (by omega) (by omega)
   unfold l9
   simp only [ha, hb, oB, equal_eq]
   have ej : (j - 1).toNat = j.toNat - 1 := by omega
   rw [ej] at gb
   by_cases c : a = b
   ·rw [ifP c]
    subst c
    right
    rw [show cutV (l.length : Int) j (l.length : Int) = some () by rw [cutV, if_pos (by omega)]]
    simp only [oB]
    obtain ⟨⟨cs, kv⟩, r1, r2, r3, r4, r5, r6⟩ := forN_inv (body := n5 l j) (fun k2 p => p.1.length = l.length ∧ j ≤ p.2 ∧ p.2 ≤ j + k2 - 1 ∧ p.1.take p.2.toNat = ddN l (j + k2).toNat ∧ ∀ i : Nat, j + k2 - 1 ≤ i → p.1[i]? = l[i]?) ((l.length : Int) - j - 1).toNat 1 (l, j) ⟨rfl, by simp, by dsimp only; omega, by
      dsimp only
      rw [show (j + 1).toNat = j.toNat + 1 by omega, ddN, if_neg, List.append_nil, ddN_all j.toNat (by omega) fun i h0 h1 => hP i h0 (by omega)]
      rw [decide_eq_true_eq]
      rintro (h | h)
      ·omega
      ·exact h (ga.trans gb.symm), fun i _ => rfl⟩ (fun k2 ⟨cs, kv⟩ k0 k1 ⟨g1, g2, g3, g4, g5⟩ => by
      dsimp only at g1 g2 g3 g4 g5 ⊢
      obtain ⟨x, hx, gx⟩ := j7 (l := l) (i := j + k2) (by omega) (by omega)
      obtain ⟨y, hy, gy⟩ := j7 (l := l) (i := j + k2 - 1) (by omega) (by omega)
      have iv : ∀ i : Int, 0 ≤ i → i < (l.length : Int) - j → ixV cs (0 + j) ((l.length : Int) - j) i = ix cs (j + i) := fun i h0 h1 => by
       rw [ixV, if_pos (by omega), Int.zero_add]
      have same : ∀ i : Int, j + k2 - 1 ≤ i → ix cs i = ix l i := fun i hi => by
       have := g5 i.toNat (by omega)
       simp only [ix]
       rw [this]
      unfold n5
      dsimp only
      rw [iv k2 (by omega) (by omega), iv (k2 - 1) (by omega) (by omega), show j + (k2 - 1) = j + k2 - 1 by omega, same _ (by omega), same _ (by omega), hx, hy]
      simp only [oB, equal_eq, B8]
      have ek : (j + (k2 + 1)).toNat = (j + k2).toNat + 1 := by omega
      have ek1 : (j + k2 - 1).toNat = (j + k2).toNat - 1 := by omega
      rw [ek1] at gy
      by_cases cx : x = y
      ·rw [ifNN cx]
       refine ⟨_, rfl, g1, g2, by omega, ?_, fun i hi => g5 i (by omega)⟩
       dsimp only
       rw [ek, ddN, if_neg, List.append_nil]
       ·exact g4
       ·rw [decide_eq_true_eq]
        rintro (h | h)
        ·omega
        ·exact h (by rw [gx, gy, cx])
      ·rw [ifP cx]
       obtain ⟨z, hz, gz⟩ := j7 (l := cs) (i := kv) (by omega) (by omega)
       simp only [hz, oB]
       rw [m6 (by omega) (by omega)]
       refine ⟨_, rfl, by rw [List.length_set]; exact g1, by omega, by omega, ?_, fun i hi => ?_⟩
       ·dsimp only
        rw [ek, ddN, if_pos, gx, show (kv + 1).toNat = kv.toNat + 1 by omega, List.take_add_one, List.getElem?_set, if_pos rfl, if_pos (by omega), List.take_set_of_le (Nat.le_refl _), g4]
        rw [decide_eq_true_eq]
        exact .inr (by rw [gx, gy]; simpa using cx)
       ·dsimp only
        rw [List.getElem?_set, if_neg (by omega)]
        exact g5 i (by omega))
    have ef : forR 1 ((l.length : Int) - j) (n5 l j) (l, j) = some (cs, kv) := r1
    dsimp only at r2 r3 r4 r5 r6
    rw [ef]
    simp only [oB]
    have hcl : (clrL cs (0 + kv) ((cs.length : Int) - kv) []).length = cs.length := by simp [clrL]; omega
    rw [show cutV (cs.length : Int) kv (cs.length : Int) = some () by rw [cutV, if_pos (by omega)]]
    simp only [oB, hcl]
    rw [show cutV (cs.length : Int) 0 kv = some () by rw [cutV, if_pos (by omega)]]
    refine ⟨_, rfl, ?_⟩
    have e1 : k7 (clrL cs (0 + kv) ((cs.length : Int) - kv) []) 0 kv = cs.take kv.toNat := by
     simp only [k7, clrL, Int.zero_add, Int.toNat_zero, List.drop_zero]
     rw [List.append_assoc, List.take_append_of_le_length (by simp; omega), List.take_take, Nat.min_self]
    rw [e1, r5]
    congr 1
    omega
   ·rw [ifN c]
    left
    refine ⟨(), rfl, fun i h0 h1 => ?_⟩
    by_cases e : (i : Int) = j
    ·have : i = j.toNat := by omega
     subst this
     rw [ga, gb]
     simpa using c
    ·exact hP i h0 (by omega))
  rcases key with ⟨_, h1, h2⟩ | ⟨o, h1, rfl⟩
  ·have : rngX 1 (l.length : Int) (l9 l) () = some (.inl ()) := h1
   rw [this]
   simp only [oB]
   rw [ddN_all l.length (Nat.le_refl _) fun i h0 h1 => h2 i h0 (by omega), List.take_length]
  ·have : rngX 1 (l.length : Int) (l9 l) () = some (.inr (ddN l l.length)) := h1
   rw [this]; rfl
theorem normal_eq {l : List (List Int)} (hl : l.length ≤ 1000000) : ∃ r, H7 l = some r ∧ Ord r ∧ (∀ x, x ∈ r ↔ x ∈ l) ∧ r.length ≤ l.length := by
 unfold H7
 rw [sortFL_eq (by omega) cmp_ok]
 simp only [oB]
 have hlen : (l.mergeSort fun x y => decide (¬ cmpL y x < 0)).length = l.length := by simp
 rw [compactF_eq (by rw [hlen]; exact hl)]
 have hs : (l.mergeSort fun x y => decide (¬ cmpL y x < 0)).Pairwise fun a b => ¬ llt b a := by
  have := List.pairwise_mergeSort (le := fun x y : List Int => decide (¬ cmpL y x < 0)) (fun a b c h1 h2 => by
   simp only [decide_eq_true_eq, V4] at h1 h2 ⊢
   intro h
   rcases T3 b a with g | g | g
   ·exact h1 g
   ·subst g; exact h2 h
   ·exact h2 (S9 h g)) (fun a b => by
   simp only [Bool.or_eq_true, decide_eq_true_eq, V4]
   by_cases h : llt b a
   ·exact .inr fun g => llt_asymm h g
   ·exact .inl h) l
  exact this.imp fun h => by simpa [V4] using h
 obtain ⟨h1, h2⟩ := ddN_spec hs _ (Nat.le_refl _)
 refine ⟨_, rfl, h1, fun x => ?_, ?_⟩
 ·rw [h2, List.take_length]; simp
 ·have := ddN_len (l.mergeSort fun x y => decide (¬ cmpL y x < 0)) (l.mergeSort fun x y => decide (¬ cmpL y x < 0)).length
  rw [hlen] at this
  rw [hlen]; exact this
end Ab
end
section
namespace Ab
open Go
theorem wsN_tb : ∀ {l : List Int}, Inc l → (∀ x ∈ l, 0 ≤ x) → ∀ k : Nat, (wsN l).testBit k = dec ((k : Int) ∈ l)
 | [], _, _, k => by simp [wsN, dec]
 | a :: l, h, h0, k => by
  have hc := List.pairwise_cons.1 h
  obtain ⟨q, hq⟩ : 2 ^ (a.toNat + 1) ∣ wsN l := wsN_dvd fun x hx => by have := hc.1 x hx; have := h0 a (by simp); omega
  have ih := wsN_tb hc.2 (fun x hx => h0 x (List.mem_cons_of_mem _ hx)) k
  have e : wsN (a :: l) = wsN l ||| 2 ^ a.toNat := by
   rw [hq, ← Nat.two_pow_add_eq_or_of_lt (Nat.pow_lt_pow_right (by omega) (by omega)) q, ← hq]
   simp only [wsN]; omega
  rw [e, Nat.testBit_or, ih, Nat.testBit_two_pow]
  have ha := h0 a (by simp)
  by_cases c : (k : Int) = a
  ·have : a.toNat = k := by omega
   simp [this, c]
  ·have : ¬ a.toNat = k := by omega
   simp [this, c]
theorem SetN.tb {s : List Int} {n : Int} (h : SetN s n) (k : Nat) : (wsN s).testBit k = dec ((k : Int) ∈ s) := wsN_tb h.1 (fun x hx => (h.2 x hx).1) k
theorem SetN.w32 {s : List Int} {n : Int} (h : SetN s n) (hn : n ≤ 24) : wsN s < 4294967296 := by
 refine Nat.lt_pow_two_of_testBit (n := 32) _ fun i hi => ?_
 rw [h.tb, dec_false]
 intro q
 have := (h.2 _ q).2
 omega
theorem wrap32 {n : Nat} (h : n < 4294967296) : IntKind.wrap .u32 (n : Int) = n := by
 simp only [IntKind.wrap, IntKind.bits, IntKind.signed, Bool.false_and, Bool.false_eq_true, if_false]
 omega
theorem bit_and {a b : Nat} (ha : a < 4294967296) : Go.bits .and .u32 (a : Int) (b : Int) = ((a &&& b : Nat) : Int) := by
 have e : (BitVec.ofNat 32 a &&& BitVec.ofNat 32 b).toNat = a &&& b := by
  rw [BitVec.toNat_and, BitVec.toNat_ofNat, BitVec.toNat_ofNat]
  refine Nat.eq_of_testBit_eq fun i => ?_
  simp only [Nat.testBit_and, Nat.testBit_mod_two_pow]
  by_cases c : i < 32
  ·simp [c]
  ·have : a.testBit i = false := Nat.testBit_lt_two_pow (Nat.lt_of_lt_of_le ha (Nat.pow_le_pow_right (n := 2) (by omega) (show 32 ≤ i by omega)))
   simp [this]
 rw [← e]
 simp only [Go.bits, BitVec.ofInt_natCast, IntKind.bits]
 exact wrap32 (BitVec.ofNat 32 a &&& BitVec.ofNat 32 b).isLt
theorem bit_or {a b : Nat} (ha : a < 4294967296) (hb : b < 4294967296) : Go.bits .or .u32 (a : Int) (b : Int) = ((a ||| b : Nat) : Int) := by
 have e : (BitVec.ofNat 32 a ||| BitVec.ofNat 32 b).toNat = a ||| b := by
  rw [BitVec.toNat_or, BitVec.toNat_ofNat, BitVec.toNat_ofNat, Nat.mod_eq_of_lt (by simpa using ha), Nat.mod_eq_of_lt (by simpa using hb)]
 rw [← e]
 simp only [Go.bits, BitVec.ofInt_natCast, IntKind.bits]
 exact wrap32 (BitVec.ofNat 32 a ||| BitVec.ofNat 32 b).isLt
theorem bit_andNot {a b : Nat} (ha : a < 4294967296) : ∃ c : Nat, Go.bits .andNot .u32 (a : Int) (b : Int) = (c : Int) ∧ c < 4294967296 ∧ ∀ k, c.testBit k = (a.testBit k && !b.testBit k) := by
 refine ⟨(BitVec.ofNat 32 a &&& ~~~BitVec.ofNat 32 b).toNat, ?_, (BitVec.ofNat 32 a &&& ~~~BitVec.ofNat 32 b).isLt, fun k => ?_⟩
 ·simp only [Go.bits, BitVec.ofInt_natCast, IntKind.bits]
  exact wrap32 (BitVec.ofNat 32 a &&& ~~~BitVec.ofNat 32 b).isLt
 ·rw [BitVec.testBit_toNat, BitVec.getLsbD_and, BitVec.getLsbD_not, BitVec.getLsbD_ofNat, BitVec.getLsbD_ofNat]
  by_cases c : k < 32
  ·simp [c]
  ·have : a.testBit k = false := Nat.testBit_lt_two_pow (Nat.lt_of_lt_of_le ha (Nat.pow_le_pow_right (n := 2) (by omega) (show 32 ≤ k by omega)))
   simp [c, this]
theorem sub_word {s p : List Int} {n : Int} (hs : SetN s n) (hp : SetN p n) (hn : n ≤ 24) : Go.bits .and .u32 (wsN s : Int) (wsN p : Int) = (wsN p : Int) ↔ ∀ x ∈ p, x ∈ s := by
 rw [bit_and (hs.w32 hn)]
 constructor
 ·intro h x hx
  have h0 := (hp.2 x hx).1
  have e : (wsN s &&& wsN p) = wsN p := by omega
  have := congrArg (fun n => Nat.testBit n x.toNat) e
  simp only [Nat.testBit_and, hs.tb, hp.tb, show ((x.toNat : Nat) : Int) = x by omega, j9 hx, Bool.and_true, i9] at this
  exact this
 ·intro h
  have e : (wsN s &&& wsN p) = wsN p := by
   refine Nat.eq_of_testBit_eq fun i => ?_
   rw [Nat.testBit_and, hs.tb, hp.tb, dec_and]
   exact L5 ⟨fun q => q.2, fun q => ⟨h _ q, q⟩⟩
  rw [e]
theorem next_word {s d a : List Int} {n : Int} (hs : SetN s n) (hd : SetN d n) (ha : SetN a n) (hn : n ≤ 24) :
  Go.bits .or .u32 (Go.bits .andNot .u32 (wsN s : Int) (wsN d : Int)) (wsN a : Int) = (wsN (C4 (fun x => x ∈ a ∨ x ∈ s ∧ x ∉ d) n) : Int) := by
 obtain ⟨c, c1, c2, c3⟩ := bit_andNot (b := wsN d) (hs.w32 hn)
 have hr : SetN (C4 (fun x => x ∈ a ∨ x ∈ s ∧ x ∉ d) n) n := ag4 _ _
 rw [c1, bit_or c2 (ha.w32 hn)]
 have e : c ||| wsN a = wsN (C4 (fun x => x ∈ a ∨ x ∈ s ∧ x ∉ d) n) := by
  refine Nat.eq_of_testBit_eq fun i => ?_
  rw [Nat.testBit_or, c3, hs.tb, hd.tb, ha.tb, hr.tb, B8, dec_and, dec_or]
  refine L5 ?_
  rw [K9]
  constructor
  ·rintro (⟨q1, q2⟩ | q)
   ·exact ⟨(hs.2 _ q1).1, (hs.2 _ q1).2, .inr ⟨q1, q2⟩⟩
   ·exact ⟨(ha.2 _ q).1, (ha.2 _ q).2, .inl q⟩
  ·rintro ⟨_, _, q | q⟩
   ·exact .inr q
   ·exact .inl q
 rw [e]
end Ab
end
section
namespace Ab
open Go
inductive Rt (t : f7) : List Int → Prop
 | init : Rt t t.init
 | step {s : List Int} {op : Int} (h : Rt t s) (h0 : 0 ≤ op) (h1 : op < t.operators.length) (hc : can t s op) : Rt t (aft t s op)
theorem Rt.setN {t : f7} (ht : k9 t) {s : List Int} (h : Rt t s) : SetN s t.facts := by
 cases h with
 | init => exact ht.init
 | step => exact setN_aft _ _ _
theorem Rt.ends {t : f7} : ∀ {plan s e : List Int}, Rt t s → (∀ x ∈ plan, (0 : Int) ≤ x ∧ x < t.operators.length) → ends t s plan = some e → Rt t e
 | [], s, e, hs, _, h => by simp only [Ab.ends, Option.some.injEq] at h; subst h; exact hs
 | op :: r, s, e, hs, hv, h => by
  simp only [Ab.ends] at h
  split at h
  ·rename_i hc
   have := hv op List.mem_cons_self
   exact Rt.ends (hs.step this.1 this.2 (i9.1 hc)) (fun x hx => hv x (List.mem_cons_of_mem _ hx)) h
  ·cases h
theorem Rt.way {t : f7} {s : List Int} (h : Rt t s) : ∃ plan : List Int, (∀ x ∈ plan, (0 : Int) ≤ x ∧ x < t.operators.length) ∧ Ab.ends t t.init plan = some s := by
 induction h with
 | init => exact ⟨[], by simp, rfl⟩
 | @step s op h h0 h1 hc ih =>
  obtain ⟨p, p1, p2⟩ := ih
  refine ⟨p ++ [op], fun x hx => ?_, ?_⟩
  ·rcases List.mem_append.1 hx with hx | hx
   ·exact p1 x hx
   ·simp only [List.mem_singleton] at hx; subst hx; exact ⟨h0, h1⟩
  ·rw [ends_append, p2]
   simp only [oB, Ab.ends]
   rw [if_pos (j9 hc)]
def Cls (t : f7) (l : List (List Int)) (s : List Int) : Prop := ∀ op : Int, 0 ≤ op → op < t.operators.length → can t s op → aft t s op ∈ l
theorem Rt.mem {t : f7} {l : List (List Int)} (hi : t.init ∈ l) (hc : ∀ s ∈ l, Cls t l s) {s : List Int} (h : Rt t s) : s ∈ l := by
 induction h with
 | init => exact hi
 | step h h0 h1 hcan ih => exact hc _ ih _ h0 h1 hcan
def Many (t : f7) : Prop := ∃ l : List (List Int), l.Nodup ∧ l.length = 2001 ∧ ∀ s ∈ l, Rt t s
end Ab
end
section
namespace Ab
open Go
abbrev Mk := ac6
def wd (s : List Int) : Int := (wsN s : Int)
def mkOf (o : i6) : Mk := ⟨wd o.pre, wd o.add, wd o.del, o.cost⟩
def mks (t : f7) : List Mk := t.operators.map mkOf
def canW (m : Mk) (x : Int) : Prop := Go.bits .and .u32 x m.pre = m.pre
def tgtW (m : Mk) (x : Int) : Int := Go.bits .or .u32 (Go.bits .andNot .u32 x m.del) m.add
theorem M2 {t : f7} (ht : k9 t) {op : Int} (h0 : 0 ≤ op) (h1 : op < t.operators.length) : M8 (opAt t op) t.facts ∧ U2 (opAt t op) := ht.op _ (o9 (ix_op h0 h1))
theorem canW_iff {t : f7} (ht : k9 t) {s : List Int} (h : SetN s t.facts) {op : Int} (h0 : 0 ≤ op) (h1 : op < t.operators.length) : canW (mkOf (opAt t op)) (wd s) ↔ can t s op :=
 sub_word h (M2 ht h0 h1).1.1 ht.n1
theorem tgtW_eq {t : f7} (ht : k9 t) {s : List Int} (h : SetN s t.facts) {op : Int} (h0 : 0 ≤ op) (h1 : op < t.operators.length) : tgtW (mkOf (opAt t op)) (wd s) = wd (aft t s op) :=
 next_word h (M2 ht h0 h1).1.2.2.1 (M2 ht h0 h1).1.2.1 ht.n1
theorem mks_of {t : f7} {op : Int} (h0 : 0 ≤ op) (h1 : op < t.operators.length) : mkOf (opAt t op) ∈ mks t := List.mem_map.2 ⟨_, o9 (ix_op h0 h1), rfl⟩
def Rwd (t : f7) (x : Int) : Prop := ∃ s, Rt t s ∧ x = wd s
theorem Rwd.all {t : f7} (ht : k9 t) {l : List Int} (hi : wd t.init ∈ l) (hc : ∀ x ∈ l, ∀ m ∈ mks t, canW m x → tgtW m x ∈ l) {x : Int} (h : Rwd t x) : x ∈ l := by
 obtain ⟨s, h, rfl⟩ := h
 induction h with
 | init => exact hi
 | step h h0 h1 hcan ih =>
  have hs := h.setN ht
  have := hc _ ih _ (mks_of h0 h1) ((canW_iff ht hs h0 h1).2 hcan)
  rwa [tgtW_eq ht hs h0 h1] at this
abbrev MpU := List (Int × Unit)
structure AlW (t : f7) (q : List Int) (f : MpU) (a : List Int) : Prop where
 nd : (f.map (·.1)).Nodup
 pm : (f.map (·.1)).Perm (q ++ a)
 rw : ∀ x ∈ f.map (·.1), Rwd t x
end Ab
end
section
namespace Ab
open Go
abbrev En := ad5
def Hp (L : List Int) (E : List En) : Prop := ∀ i h, ix L i = some h → ∃ e, ix E h = some e ∧ e.fat = i
structure Sme (L : List Int) (E : List En) (L' : List Int) (E' : List En) : Prop where
 len : L'.length = L.length
 mem : ∀ h, h ∈ L' ↔ h ∈ L
 elen : E'.length = E.length
 e : ∀ h a, ix E h = some a → ∃ a', ix E' h = some a' ∧ a'.item = a.item ∧ a'.key = a.key
theorem Sme.refl (L : List Int) (E : List En) : Sme L E L E := ⟨rfl, fun _ => Iff.rfl, rfl, fun h a ha => ⟨a, ha, rfl, rfl⟩⟩
theorem Sme.trans {L L' L'' : List Int} {E E' E'' : List En} (h : Sme L E L' E') (g : Sme L' E' L'' E'') : Sme L E L'' E'' := by
 refine ⟨g.len.trans h.len, fun x => (g.mem x).trans (h.mem x), g.elen.trans h.elen, fun x a ha => ?_⟩
 obtain ⟨b, b1, b2, b3⟩ := h.e x a ha
 obtain ⟨c, c1, c2, c3⟩ := g.e x b b1
 exact ⟨c, c1, c2.trans b2, c3.trans b3⟩
theorem Hp.inj {L : List Int} {E : List En} (h : Hp L E) {i j x : Int} (h1 : ix L i = some x) (h2 : ix L j = some x) : i = j := by
 obtain ⟨e, e1, e2⟩ := h i x h1
 obtain ⟨f, f1, f2⟩ := h j x h2
 rw [e1] at f1; cases f1; rw [← e2, ← f2]
structure Kp (nv : Int) (L : List Int) (E : List En) (l : List Int) (e : List En) : Prop where
 hp : Hp l e
 sm : Sme L E l e
 hi : ∀ j, nv ≤ j → ix l j = ix L j
end Ab
end
section
namespace Ab
open Go
structure Qu (M : List (Int × Int)) (L : List Int) (E : List En) : Prop where
 hp : Hp L E
 keys : (M.map (·.1)).Nodup
 mem : ∀ x h, mget M x = some h ↔ h ∈ L ∧ ∃ e, ix E h = some e ∧ e.item = x
def qkey (M : List (Int × Int)) (E : List En) (x : Int) : Option Int := (mget M x).bind fun h => (ix E h).map (·.key)
theorem Sme.item {L L' : List Int} {E E' : List En} (h : Sme L E L' E') (x y : Int) : (∃ e, ix E' x = some e ∧ e.item = y) ↔ ∃ e, ix E x = some e ∧ e.item = y := by
 constructor
 ·rintro ⟨e, e1, e2⟩
  obtain ⟨a, b, _⟩ := l7 e1
  obtain ⟨f, f1, _⟩ := j7 (l := E) a (by rw [← h.elen]; exact b)
  obtain ⟨g, g1, g2, _⟩ := h.e x f f1
  rw [e1] at g1; cases g1
  exact ⟨f, f1, g2.symm.trans e2⟩
 ·rintro ⟨e, e1, e2⟩
  obtain ⟨g, g1, g2, _⟩ := h.e x e e1
  exact ⟨g, g1, g2.trans e2⟩
theorem Qu.nil : Qu [] [] [] := ⟨fun i h e => by simp [ix] at e, by simp, fun x h => by simp [mget]⟩
theorem Qu.item_inj {M : List (Int × Int)} {L : List Int} {E : List En} (h : Qu M L E) {a b : Int} {e f : En} (ha : a ∈ L) (hb : b ∈ L) (he : ix E a = some e) (hf : ix E b = some f) (hi : e.item = f.item) : a = b := by
 have h1 := (h.mem e.item a).2 ⟨ha, e, he, rfl⟩
 have h2 := (h.mem e.item b).2 ⟨hb, f, hf, hi.symm⟩
 rw [h1] at h2; exact Option.some.inj h2
theorem Hp.nodup {L : List Int} {E : List En} (h : Hp L E) : L.Nodup := by
 refine List.pairwise_iff_getElem.2 fun i j hi hj hij e => ?_
 have h1 : ix L (j : Int) = some L[j] := ix_ltN hj
 have h2 : ix L (i : Int) = some L[j] := by rw [← e]; exact ix_ltN hi
 have := h.inj h1 h2
 omega
theorem Qu.le {M : List (Int × Int)} {L : List Int} {E : List En} (h : Qu M L E) {vs : List Int} (hv : ∀ x, qkey M E x ≠ none → x ∈ vs) : L.length ≤ vs.length := by
 have h1 : (L.map fun z => ((ix E z).map (·.item)).getD 0).Nodup := by
  refine List.pairwise_map.2 ?_
  have := h.hp.nodup
  refine List.Pairwise.imp_of_mem (R := (· ≠ ·)) (fun {a b} ha hb hab e => hab ?_) this
  obtain ⟨i, _, _, hi⟩ := E8 ha
  obtain ⟨j, _, _, hj⟩ := E8 hb
  obtain ⟨x, x1, _⟩ := h.hp i a hi
  obtain ⟨y, y1, _⟩ := h.hp j b hj
  refine h.item_inj ha hb x1 y1 ?_
  simpa [x1, y1] using e
 have := T0 h1 (S := vs) (fun x hx => by
  obtain ⟨a, ha, rfl⟩ := List.mem_map.1 hx
  obtain ⟨i, _, _, hi⟩ := E8 ha
  obtain ⟨e, e1, _⟩ := h.hp i a hi
  refine hv _ ?_
  have := (h.mem e.item a).2 ⟨ha, e, e1, rfl⟩
  simp [e1, qkey, this])
 simpa using this
end Ab
end
section
namespace Ab
open Go
abbrev MpI := List (Int × Int)
def goalW (g x : Int) : Prop := Go.bits .and .u32 x g = g
def cst (c : MpI) (x : Int) : Int := (mget c x).getD 0
inductive PthW (vs : List Int) (ms : List Mk) (g : Int) : Int → Int → Prop
 | goal {x : Int} (h : x ∈ vs) (hg : goalW g x) : PthW vs ms g x 0
 | step {x k : Int} {m : Mk} (h : x ∈ vs) (hm : m ∈ ms) (hc : canW m x) (hp : PthW vs ms g (tgtW m x) k) : PthW vs ms g x (k + m.cost)
structure Gr (vs : List Int) (ms : List Mk) : Prop where
 cl : ∀ x ∈ vs, ∀ m ∈ ms, canW m x → tgtW m x ∈ vs
 co : ∀ m ∈ ms, 0 ≤ m.cost ∧ m.cost ≤ 100
 ml : ms.length ≤ 40
 vl : vs.length ≤ 2000
structure Cd (vs : List Int) (ms : List Mk) (g : Int) (c : MpI) : Prop where
 dom : ∀ x ∈ vs, ∃ k, mget c x = some k ∧ 0 ≤ k ∧ k ≤ 1000000000 ∧ (k = 1000000000 ∨ PthW vs ms g x k)
 goal : ∀ x ∈ vs, goalW g x → mget c x = some 0
structure Iv (vs : List Int) (ms : List Mk) (g : Int) (c M : MpI) (L : List Int) (E : List En) (exc : Int → Prop) : Prop where
 cd : Cd vs ms g c
 qu : Qu M L E
 qk : ∀ x k, qkey M E x = some k → x ∈ vs ∧ mget c x = some k
 arc : ∀ x ∈ vs, ∀ m ∈ ms, canW m x → ¬ exc (tgtW m x) → qkey M E (tgtW m x) = none → cst c x ≤ cst c (tgtW m x) + m.cost
theorem Iv.len {vs : List Int} {ms : List Mk} {g : Int} {c M : MpI} {L : List Int} {E : List En} {exc : Int → Prop} (h : Iv vs ms g c M L E exc) : L.length ≤ vs.length :=
 h.qu.le fun x hx => by
  cases e : qkey M E x with
  | none => exact absurd e hx
  | some k => exact (h.qk x k e).1
def sm (vs : List Int) (c : MpI) : Nat := (vs.map fun x => (cst c x).toNat).sum
structure Best (vs : List Int) (ms : List Mk) (g : Int) (c : MpI) : Prop where
 cd : Cd vs ms g c
 least : ∀ x k, PthW vs ms g x k → cst c x ≤ k
end Ab
end
section
namespace Ab
open Go
def Val (t : f7) (plan : List Int) : Prop := ∀ x ∈ plan, (0 : Int) ≤ x ∧ x < t.operators.length
def I1 (t : f7) : List Int → Int
 | [] => 0
 | op :: r => I1 t r + (opAt t op).cost
def Few (t : f7) : Prop := ∃ l : List (List Int), l.Nodup ∧ l.length ≤ 2000 ∧ ∀ s, s ∈ l ↔ Rt t s
theorem ai0 {t : f7} (ht : k9 t) : ∀ {plan : List Int}, Val t plan → 0 ≤ I1 t plan
 | [], _ => by simp [I1]
 | op :: r, h => by
  have h1 := ai0 ht (plan := r) fun x hx => h x (List.mem_cons_of_mem _ hx)
  have h2 := h op (by simp)
  have h3 := (M2 ht h2.1 h2.2).2.1
  simp only [I1]; omega
section
variable {t : f7} {vs : List Int}
end
/-! ### A way that is not long -/
inductive Hop (vs : List Int) (ms : List Mk) (g : Int) : Nat → Int → Prop
 | goal {x : Int} (h : x ∈ vs) (hg : goalW g x) : Hop vs ms g 0 x
 | step {x : Int} {n : Nat} {m : Mk} (h : x ∈ vs) (hm : m ∈ ms) (hc : canW m x) (hp : Hop vs ms g n (tgtW m x)) : Hop vs ms g (n + 1) x
section
variable {vs : List Int} {ms : List Mk} {g : Int}
theorem Hop.of {x k : Int} (h : PthW vs ms g x k) : ∃ n, Hop vs ms g n x := by
 induction h with
 | goal hx hg => exact ⟨0, .goal hx hg⟩
 | step hx hm hc _ ih => obtain ⟨n, hn⟩ := ih; exact ⟨n + 1, .step hx hm hc hn⟩
theorem Hop.cost (hg : Gr vs ms) {n : Nat} {x : Int} (h : Hop vs ms g n x) : ∃ k, PthW vs ms g x k ∧ k ≤ 100 * n := by
 induction h with
 | goal hx hgx => exact ⟨0, .goal hx hgx, by omega⟩
 | step hx hm hc _ ih =>
  obtain ⟨k, k1, k2⟩ := ih
  have := hg.co _ hm
  exact ⟨_, .step hx hm hc k1, by push_cast; omega⟩
def MHop (vs : List Int) (ms : List Mk) (g : Int) (n : Nat) (x : Int) : Prop := Hop vs ms g n x ∧ ∀ m, m < n → ¬ Hop vs ms g m x
theorem MHop.of : ∀ {n : Nat} {x : Int}, Hop vs ms g n x → ∃ m, m ≤ n ∧ MHop vs ms g m x := by
 intro n
 induction n using Nat.strongRecOn with
 | _ n ih =>
  intro x h
  by_cases c : ∃ m, m < n ∧ Hop vs ms g m x
  ·obtain ⟨m, m1, m2⟩ := c
   obtain ⟨q, q1, q2⟩ := ih m m1 m2
   exact ⟨q, by omega, q2⟩
  ·exact ⟨n, Nat.le_refl _, h, fun m hm hh => c ⟨m, hm, hh⟩⟩
end
inductive OptR (t : f7) : Int × TFault → Prop
 | bad {f : TFault} (h : ¬ k9 t) (hf : w9 t = some f) (hc : f.code ≠ 0) : OptR t (0, f)
 | many (h : k9 t) (hm : Many t) : OptR t (0, ⟨10, -7⟩)
 | none (h : k9 t) (hf : Few t) (hn : ∀ plan, Val t plan → ¬ works t t.init plan) : OptR t (1000000000, ⟨0, 0⟩)
 | some {k : Int} {plan : List Int} (h : k9 t) (hf : Few t) (h0 : 0 ≤ k) (h1 : k ≤ 199900) (hv : Val t plan) (hw : works t t.init plan) (hk : I1 t plan = k) (hl : ∀ p, Val t p → works t t.init p → k ≤ I1 t p) : OptR t (k, ⟨0, 0⟩)
end Ab
end
section
namespace Ab
open Go
end Ab
end
section
namespace Ab
open Go
section
variable {t : f7} {op : Int}
/-! ### Without the operator -/
theorem few_many (hf : Few t) : ¬ Many t := by
 rintro ⟨m, m1, m2, m3⟩
 obtain ⟨l, l1, l2, l3⟩ := hf
 have := T0 m1 (S := l) fun s hs => (l3 s).2 (m3 s hs)
 omega
end
end Ab
end
section
namespace Ab
open Go
def LC (t : f7) (P : List Int → Prop) (k : Int) : Prop := (∀ p, P p → k ≤ I1 t p) ∧ 0 ≤ k ∧ ((k = 1000000000 ∧ ∀ p, ¬ P p) ∨ (k < 1000000000 ∧ ∃ p, P p ∧ I1 t p = k))
def Sol (t : f7) (s p : List Int) : Prop := Val t p ∧ works t s p
theorem LC.eq {t : f7} {P : List Int → Prop} {k k' : Int} (h : LC t P k) (h' : LC t P k') : k = k' := by
 obtain ⟨a1, a2, a3⟩ := h
 obtain ⟨b1, b2, b3⟩ := h'
 rcases a3 with ⟨a3, a4⟩ | ⟨a3, p, a4, a5⟩
 ·rcases b3 with ⟨b3, b4⟩ | ⟨b3, q, b4, b5⟩
  ·omega
  ·exact absurd b4 (a4 q)
 ·rcases b3 with ⟨b3, b4⟩ | ⟨b3, q, b4, b5⟩
  ·exact absurd a4 (b4 p)
  ·have := a1 q b4; have := b1 p a4; omega
theorem LC.le {t : f7} {P : List Int → Prop} {k : Int} (h : LC t P k) : k ≤ 1000000000 := by
 obtain ⟨a1, a2, ⟨a3, a4⟩ | ⟨a3, p, a4, a5⟩⟩ := h <;> omega
section
variable {t : f7} {op : Int}
end
end Ab
end
