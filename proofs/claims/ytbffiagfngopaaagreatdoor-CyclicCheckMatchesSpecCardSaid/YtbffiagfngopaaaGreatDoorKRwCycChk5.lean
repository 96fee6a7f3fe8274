/-
  Texts that the proof stands on.
-/
import Derived.Test.YtbffiagfngopaaaGreatDoorKRwCycChk4
set_option linter.all false
section
namespace Ab
open Go Go.Proofs
set_option maxHeartbeats 4000000
set_option linter.all false
attribute [local irreducible] AWP AOps thn inB Done e9 m8 Sub
theorem cyclic_arcs_ok {ov : b8} {all : LL} {r : (List LL)} (h : T4 ov all = some r) : m8 Tryz.prog 86 [.agg (tO ov), .c (row 1 d6 all)] 1 (List.map s5 r) := by
 unfold m8
 refine FnOk.enter (rs := [.t 4]) Tryz.func86 Z Tryz.ntmps86 Tryz.results86 Z ⟨trivial, Y⟩ (by kernel_rfl) Z ?_
 unfold T4 at h
 refine AWP.d (.e (W.box Z Z Z Z Z Z (.f Z Z (.nil (b5 (.d ?_))))))
 obtain ⟨a15, ha15, h⟩ := b7 h
 refine AWP.e (.a Z Z (S.len Z Z (fun hl14 => S.make (f := s5) ha15 (.row .nil) Z Z Z Z Z Z (.f Z Z (.nil (b5 (.d (.d (.e (.a Z Z (S.len Z Z (fun hl17 => .a Z Z (.nil (b5 (.m ?_)))))))))))))))
 obtain ⟨c3, ho1, h⟩ := b7 h
 refine AWP.forS ho1 (fun t4 c3 => ⟨[(1, .c (row 1 d6 all)), (2, .c (.ptr 0 0 0)), (5, .c (.own 1 0 c3.length)), (16, .c (row 1 d6 all)), (17, .c (int (all.length : Int))), (18, .c (int t4))], [.one (.cells 4 [(tO ov)]), .one (vec 1 s5 c3)]⟩) (fun c3 e st => e = .exit 0 ∧ Sub [] st ⟨[(5, .c (.own 1 0 c3.length))], [.one (.cells 4 [(tO ov)]), .one (vec 1 s5 c3)]⟩) ?_ ?_ ?_ ?_
 ·try dsimp only
  exact Sub.env ⟨Z, Z, Z, Z, Z, Z, Y⟩
 ·intro t4 c3 hlot4 hltt4 _
  try dsimp only
  refine AWP.d (.e (.j Z Z Z (.nil (b5 (.d (.q Z hltt4 (.exit (d8 (d8 ⟨Z, ?_⟩)))))))))
  exact Sub.env ⟨Z, Y⟩
 ·intro t4 c3 o hlot4 hltt4 h
  unfold S5 at h
  try dsimp only at h ⊢
  refine AWP.d (.e (.j Z Z Z (.nil (b5 (.d (.r Z hltt4 (.skip (b5 (.d (.m (.d ?_)))))))))))
  obtain ⟨a21, ha21, h⟩ := b7 h
  refine AWP.e (.a Z Z (S.idx ha21 Z Z Z Z (.n Z Z Z Z (.f Z Z (.f Z Z (.nil (b5 (.d ?_))))))))
  obtain ⟨a28, ha28, a29, ha29, h⟩ := b2 h
  refine AWP.e (.a Z Z (.a Z Z (W.fieldAddr Z Z Z Z (.l Z Z Z Z Z Z (S.len Z Z (fun hl27 => S.makeM 1 intI ha28 Z Z Z Z Z (S.idxO ha29 Z Z Z Z Z (S.storeS (f := s5) (x9 ha29) (fun _ => ⟨_, Z⟩) Z Z Z Z ?_))))))))
  refine AOps.nil (b5 (.d (.e (W.fieldAddr Z Z Z Z (.l Z Z Z Z Z Z (S.len Z Z (fun hl32 => .a Z Z (.nil (b5 (.m ?_))))))))))
  obtain ⟨c5, ho2, h⟩ := b7 h
  refine AWP.forS ho2 (fun t6 c5 => ⟨[(1, .c (row 1 d6 all)), (2, .c (.ptr 0 0 0)), (5, .c (.own 1 0 c3.length)), (6, .c (int t4)), (7, .c (row 1 intI a21)), (16, .c (row 1 d6 all)), (17, .c (int (all.length : Int))), (18, .c (int t4)), (32, .c (int (ov.operators.length : Int))), (33, .c (int t6))], [.one (.cells 4 [(tO ov)]), .one (vecS s5 c3 t4.toNat 2 c5.length), mat (2, []) 1 intI c5]⟩) (fun c5 e st => e = .exit 2 ∧ Sub [] st ⟨[(1, .c (row 1 d6 all)), (2, .c (.ptr 0 0 0)), (5, .c (.own 1 0 c3.length)), (16, .c (row 1 d6 all)), (17, .c (int (all.length : Int))), (18, .c (int t4))], [.one (.cells 4 [(tO ov)]), .one (vecS s5 c3 t4.toNat 2 c5.length), mat (2, []) 1 intI c5]⟩) ?_ ?_ ?_ ?_
  ·try dsimp only
   exact Sub.env ⟨Z, Z, Z, Z, Z, Z, Z, Z, Z, Z, Y⟩
  ·intro t6 c5 hlot6 hltt6 _
   try dsimp only
   refine AWP.d (.e (.j Z Z Z (.nil (b5 (.d (.q Z hltt6 (.exit (d8 (d8 ⟨Z, ?_⟩)))))))))
   exact Sub.env ⟨Z, Z, Z, Z, Z, Z, Y⟩
  ·intro t6 c5 o hlot6 hltt6 h
   unfold R3 at h
   try dsimp only at h ⊢
   refine AWP.d (.e (.j Z Z Z (.nil (b5 (.d (.r Z hltt6 (.skip (b5 ?_))))))))
   obtain ⟨c7, hx8, h⟩ := b7 h
   refine AWP.seqJ (⟨[(1, .c (row 1 d6 all)), (2, .c (.ptr 0 0 0)), (5, .c (.own 1 0 c3.length)), (6, .c (int t4)), (7, .c (row 1 intI a21)), (16, .c (row 1 d6 all)), (17, .c (int (all.length : Int))), (18, .c (int t4)), (32, .c (int (ov.operators.length : Int))), (33, .c (int t6))], [.one (.cells 4 [(tO ov)]), .one (vecS s5 c3 t4.toNat 2 c7.length), mat (2, []) 1 intI c7]⟩) ?_ ?_
   ·refine AWP.m (.d (.e (.a Z Z (.f Z Z (.nil (b5 (.d (.d ?_))))))))
    obtain ⟨a39, ha39, hx8⟩ := b7 hx8
    refine AWP.e (W.loadAgg Z Z Z Z Z Z Z (.a Z Z (.a Z Z (.k Z Z Z Z (Y8 ha39) Z (.not Z Z (.nil (b5 (.s Z hx8 (fun hc9 hx8 => ?_) (fun hc9 hx8 => ?_)))))))))
    ·refine AWP.exit (d8 (g8 ?_))
     obtain rfl := oi hx8
     refine b5 (Sub.env ⟨Z, Z, Z, Z, Z, Z, Z, Z, Z, Z, Y⟩)
    ·refine AWP.skip (b5 (.d ?_))
     obtain ⟨a45, ha45, hx8⟩ := b7 hx8
     refine AWP.e (W.loadAgg Z Z Z Z Z Z Z (.a Z Z (.a Z Z (.k Z Z Z Z (F0 ha45) Z (.a Z Z (.u Z Z Z (.u Z Z Z (.f Z Z (.f Z Z (.nil (b5 (.d (.e (.a Z Z (S.len Z Z (fun hl49 => .a Z Z (.nil (b5 (.m ?_)))))))))))))))))))
     obtain ⟨c10, ho3, hx8⟩ := b7 hx8
     refine AWP.forS ho3 (fun t11 c10 => ⟨[(1, .c (row 1 d6 all)), (2, .c (.ptr 0 0 0)), (5, .c (.own 1 0 c3.length)), (6, .c (int t4)), (7, .c (row 1 intI a21)), (8, .c (int t6)), (16, .c (row 1 d6 all)), (17, .c (int (all.length : Int))), (18, .c (int t4)), (32, .c (int (ov.operators.length : Int))), (33, .c (int t6)), (48, .c (row 1 d6 a45.1)), (49, .c (int (a45.1.length : Int))), (50, .c (int t11))], [.one (.cells 4 [(tO ov)]), .one (vecS s5 c3 t4.toNat 2 c10.length), mat (2, []) 1 intI c10]⟩) (fun c10 e st => e = .exit 4 ∧ Sub [] st ⟨[(1, .c (row 1 d6 all)), (2, .c (.ptr 0 0 0)), (5, .c (.own 1 0 c3.length)), (6, .c (int t4)), (7, .c (row 1 intI a21)), (16, .c (row 1 d6 all)), (17, .c (int (all.length : Int))), (18, .c (int t4)), (32, .c (int (ov.operators.length : Int))), (33, .c (int t6))], [.one (.cells 4 [(tO ov)]), .one (vecS s5 c3 t4.toNat 2 c10.length), mat (2, []) 1 intI c10]⟩) ?_ ?_ ?_ ?_
     ·try dsimp only
      exact Sub.env ⟨Z, Z, Z, Z, Z, Z, Z, Z, Z, Z, Z, Z, Z, Z, Y⟩
     ·intro t11 c10 hlot11 hltt11 _
      try dsimp only
      refine AWP.d (.e (.j Z Z Z (.nil (b5 (.d (.q Z hltt11 (.exit (d8 (d8 ⟨Z, ?_⟩)))))))))
      exact Sub.env ⟨Z, Z, Z, Z, Z, Z, Z, Z, Z, Z, Y⟩
     ·intro t11 c10 o hlot11 hltt11 h
      unfold R7 at h
      try dsimp only at h ⊢
      refine AWP.d (.e (.j Z Z Z (.nil (b5 (.d (.r Z hltt11 (.skip (b5 (.d (.m (.d ?_)))))))))))
      obtain ⟨a52, ha52, h⟩ := b7 h
      refine AWP.e (S.idx ha52 Z Z Z Z (.n Z Z Z Z (.f Z Z (.nil (b5 ?_)))))
      obtain ⟨a64, ha64, a68, ha68, a70, ha70, h⟩ := b3 h
      obtain ⟨a71, ha71, h⟩ := b7 h
      refine AWP.drawEI [15, 16, 18] mixed Z Z Z ?_
      refine i6.consN Z Z (fun E => AOps.a Z Z (.nil ⟨Z, Z⟩)) Z (.consN Z Z (fun E => AOps.a Z Z (.nil ⟨Z, Z⟩)) Z (.consN Z Z (fun E => S.idxS (x9 ha29) (ix_pos ha29) Z Z Z Z Z (.nil ⟨Z, Z⟩)) Z (.consN Z Z (fun E => S.loadS Z (x9 ha29) Z Z Z (.nil ⟨Z, Z⟩)) Z (.consN Z Z (fun E => AOps.a Z Z (.nil ⟨Z, Z⟩)) Z (.consN Z Z (fun E => AOps.a Z Z (.nil ⟨Z, Z⟩)) Z (.consN Z Z (fun E => AOps.a Z Z (.nil ⟨Z, Z⟩)) Z (.consN Z Z (fun E => S.idxS (x9 ha29) (ix_pos ha29) Z Z Z Z Z (.nil ⟨Z, Z⟩)) Z (.consN Z Z (fun E => S.loadS Z (x9 ha29) Z Z Z (.nil ⟨Z, Z⟩)) Z (.consN Z Z (fun E => AOps.a Z Z (.nil ⟨Z, Z⟩)) Z (.consN Z Z (fun E => S.idxH ha64 Z Z Z (by simp) Z Z (.nil ⟨Z, Z⟩)) Z (.consN Z Z (fun E => S.loadM ha64 Z Z Z Z (.nil ⟨Z, Z⟩)) Z (.consN Z Z (fun E => AOps.a Z Z (.nil ⟨Z, Z⟩)) Z (.consN Z Z (fun E => AOps.a Z Z (.nil ⟨Z, Z⟩)) Z (.consN Z Z (fun E => AOps.k Z Z Z Z (H3 ha68) Z (.nil ⟨Z, Z⟩)) Z ?_))))))))))))))
      apply i6.consE; exact Z; exact Z; intro E
      refine S.lit (f := intI) (l := [a68]) (ess := [[int a68]]) Z Z Z Z Z Z Z ⟨⟨.inl Z, Y⟩, Y⟩ Z Z Z (.nil ⟨Z, Z⟩)
      exact Z
      exact Z
      apply i6.consE; exact Z; exact Z; intro E
      refine S.appendR (f := intI) ha70 (Q1 ha64).2 Z Z Z Z Z Z (.own Z Z) Z Z Z Z (.nil ⟨Z, Z⟩)
      exact Z
      exact Z
      refine i6.consN Z Z (fun E => S.idxH ha71 Z Z Z (by simp) Z Z (.nil ⟨Z, Z⟩)) Z ?_
      apply i6.consE (v := .undef); exact Z; exact Z; intro E
      refine S.storeHD (Q1 ha71).2 Z Z Z Z (.nil ⟨Z, Z⟩)
      exact Z
      exact Z
      refine i6.done Z ?_ ?_
      ·refine g9.cons Z Z ?_ ?_
       refine b9.go Z Z (fun E => AOps.a Z Z (AOps.nil ⟨Z, Z⟩)) ?_
       refine b9.go Z Z (fun E => AOps.a Z Z (AOps.nil ⟨Z, Z⟩)) ?_
       refine b9.go Z Z (fun E => AOps.a Z Z (AOps.nil ⟨Z, Z⟩)) ?_
       refine b9.skip Z (b9.nil)
       refine g9.cons Z Z ?_ ?_
       refine b9.go Z Z (fun E => AOps.a Z Z (AOps.nil ⟨Z, Z⟩)) ?_
       refine b9.go Z Z (fun E => AOps.a Z Z (AOps.nil ⟨Z, Z⟩)) ?_
       refine b9.go Z Z (fun E => AOps.a Z Z (AOps.nil ⟨Z, Z⟩)) ?_
       refine b9.skip Z (b9.nil)
       refine g9.cons Z Z ?_ ?_
       refine b9.go Z Z (fun E => S.idxS (x9 ha29) (ix_pos ha29) Z Z Z Z Z (AOps.nil ⟨Z, Z⟩)) ?_
       refine b9.go Z Z (fun E => S.idxS (x9 ha29) (ix_pos ha29) Z Z Z Z Z (AOps.nil ⟨Z, Z⟩)) ?_
       refine b9.go Z Z (fun E => S.idxS (x9 ha29) (ix_pos ha29) Z Z Z Z Z (AOps.nil ⟨Z, Z⟩)) ?_
       refine b9.skip Z (b9.nil)
       refine g9.cons Z Z ?_ ?_
       refine b9.go Z Z (fun E => S.loadS Z (x9 ha29) Z Z Z (AOps.nil ⟨Z, Z⟩)) ?_
       refine b9.go Z Z (fun E => S.loadS Z (x9 ha29) Z Z Z (AOps.nil ⟨Z, Z⟩)) ?_
       refine b9.go Z Z (fun E => S.loadS Z (x9 ha29) Z Z Z (AOps.nil ⟨Z, Z⟩)) ?_
       refine b9.skip Z (b9.nil)
       refine g9.cons Z Z ?_ ?_
       refine b9.go Z Z (fun E => AOps.a Z Z (AOps.nil ⟨Z, Z⟩)) ?_
       refine b9.go Z Z (fun E => AOps.a Z Z (AOps.nil ⟨Z, Z⟩)) ?_
       refine b9.go Z Z (fun E => AOps.a Z Z (AOps.nil ⟨Z, Z⟩)) ?_
       refine b9.skip Z (b9.nil)
       refine g9.cons Z Z ?_ ?_
       refine b9.go Z Z (fun E => AOps.a Z Z (AOps.nil ⟨Z, Z⟩)) ?_
       refine b9.go Z Z (fun E => AOps.a Z Z (AOps.nil ⟨Z, Z⟩)) ?_
       refine b9.skip Z (b9.skip Z (b9.nil))
       refine g9.cons Z Z ?_ ?_
       refine b9.go Z Z (fun E => AOps.a Z Z (AOps.nil ⟨Z, Z⟩)) ?_
       refine b9.go Z Z (fun E => AOps.a Z Z (AOps.nil ⟨Z, Z⟩)) ?_
       refine b9.skip Z (b9.skip Z (b9.nil))
       refine g9.cons Z Z ?_ ?_
       refine b9.go Z Z (fun E => S.idxS (x9 ha29) (ix_pos ha29) Z Z Z Z Z (AOps.nil ⟨Z, Z⟩)) ?_
       refine b9.go Z Z (fun E => S.idxS (x9 ha29) (ix_pos ha29) Z Z Z Z Z (AOps.nil ⟨Z, Z⟩)) ?_
       refine b9.skip Z (b9.skip Z (b9.nil))
       refine g9.cons Z Z ?_ ?_
       refine b9.go Z Z (fun E => S.loadS Z (x9 ha29) Z Z Z (AOps.nil ⟨Z, Z⟩)) ?_
       refine b9.go Z Z (fun E => S.loadS Z (x9 ha29) Z Z Z (AOps.nil ⟨Z, Z⟩)) ?_
       refine b9.skip Z (b9.skip Z (b9.nil))
       refine g9.cons Z Z ?_ ?_
       refine b9.go Z Z (fun E => AOps.a Z Z (AOps.nil ⟨Z, Z⟩)) ?_
       refine b9.go Z Z (fun E => AOps.a Z Z (AOps.nil ⟨Z, Z⟩)) ?_
       refine b9.skip Z (b9.skip Z (b9.nil))
       refine g9.cons Z Z ?_ ?_
       refine b9.go Z Z (fun E => S.idxH ha64 Z Z Z (by simp) Z Z (AOps.nil ⟨Z, Z⟩)) ?_
       refine b9.go Z Z (fun E => S.idxH ha64 Z Z Z (by simp) Z Z (AOps.nil ⟨Z, Z⟩)) ?_
       refine b9.skip Z (b9.skip Z (b9.nil))
       refine g9.cons Z Z ?_ ?_
       refine b9.go Z Z (fun E => S.loadM ha64 Z Z Z Z (AOps.nil ⟨Z, Z⟩)) ?_
       refine b9.go Z Z (fun E => S.loadM ha64 Z Z Z Z (AOps.nil ⟨Z, Z⟩)) ?_
       refine b9.skip Z (b9.skip Z (b9.nil))
       refine g9.cons Z Z ?_ ?_
       refine b9.go Z Z (fun E => AOps.a Z Z (AOps.nil ⟨Z, Z⟩)) ?_
       refine b9.skip Z (b9.skip Z (b9.skip Z (b9.nil)))
       refine g9.cons Z Z ?_ ?_
       refine b9.go Z Z (fun E => AOps.a Z Z (AOps.nil ⟨Z, Z⟩)) ?_
       refine b9.skip Z (b9.skip Z (b9.skip Z (b9.nil)))
       refine g9.cons Z Z ?_ ?_
       refine b9.go Z Z (fun E => AOps.k Z Z Z Z (H3 ha68) Z (AOps.nil ⟨Z, Z⟩)) ?_
       refine b9.skip Z (b9.skip Z (b9.skip Z (b9.nil)))
       refine g9.skip Z (g9.skip Z ?_)
       refine g9.cons Z Z ?_ ?_
       refine b9.skip Z (b9.skip Z ?_)
       refine b9.go Z Z (fun E => S.idxH ha71 Z Z Z (by simp) Z Z (AOps.nil ⟨Z, Z⟩)) ?_
       refine b9.skip Z (b9.nil)
       refine g9.skip Z (g9.nil)
      dsimp only [j6]
      refine d7 (b5 (.moveR (k := 1) (f := intI) (M := c10) (env' := [(1, .c (row 1 d6 all)), (2, .c (.ptr 0 0 0)), (5, .c (.own 1 0 c3.length)), (6, .c (int t4)), (7, .c (row 1 intI a21)), (8, .c (int t6)), (16, .c (row 1 d6 all)), (17, .c (int (all.length : Int))), (18, .c (int t4)), (32, .c (int (ov.operators.length : Int))), (33, .c (int t6)), (48, .c (row 1 d6 a45.1)), (49, .c (int (a45.1.length : Int))), (50, .c (int t11))]) (σ' := [.one (.cells 4 [(tO ov)]), .one (vecS s5 c3 t4.toNat 2 c10.length), mat (2, []) 1 intI (c10.set t6.toNat a70), .one (vec 1 intI [a68])]) (r := 2) (s := 4) (p := t6.toNat) (matSD_at Z) (Q1 ha71).2 Z Z Z Z Z (.inl Z) ⟨.one Z Z, .one (vs_ok Z) (vs_rl _), .self, .vec, Y⟩ ⟨Z, Z, Z, Z, Z, Z, Z, Z, Z, Z, Z, Z, Z, Z, Y⟩ Z Z (.e (.add Z Z Z (by omega) (.a Z Z (.nil ?_))))))
      obtain rfl := oi h
      refine b5 (Sub.cut ⟨Z, Z, Z, Z, Z, Z, Z, Z, Z, Z, Z, Z, Z, Z, Y⟩ Z ⟨.one Z, (.eq (vs_ok Z) (by first | rfl | simp only [List.length_set])), .mat Z, Y⟩ Z)
     ·intro e s hq
      obtain ⟨rfl, hs⟩ := hq
      refine ⟨_, hs, ?_⟩
      refine g8 (d7 ?_)
      obtain rfl := oi hx8
      refine b5 (Sub.env ⟨Z, Z, Z, Z, Z, Z, Z, Z, Z, Z, Y⟩)
   ·refine AWP.e (.add Z Z Z (by omega) (.a Z Z (.nil ?_)))
    obtain rfl := oi h
    refine b5 (Sub.env ⟨Z, Z, Z, Z, Z, Z, Z, Z, Z, Z, Y⟩)
  ·intro e s hq
   obtain ⟨rfl, hs⟩ := hq
   refine ⟨_, hs, ?_⟩
   refine g8 (d7 (b5 (.e (.add Z Z Z (by omega) (.a Z Z (.nil ?_))))))
   obtain rfl := oi h
   refine b5 ((Sub.matV' (k := 1) (f := intI) (env' := [(1, .c (row 1 d6 all)), (2, .c (.ptr 0 0 0)), (5, .c (.own 1 0 c3.length)), (16, .c (row 1 d6 all)), (17, .c (int (all.length : Int))), (18, .c (int (t4 + 1)))]) (σ' := [.one (.cells 4 [(tO ov)]), .one (vecS s5 c3 t4.toNat 2 c5.length), .one (vec 1 d6 c5)]) 2 Z ⟨Z, Z, Z, Z, Z, Z, Y⟩ Z (by exact ⟨.one (fun _ => Z), .one (fun _ => vs_rl _), .self, Y⟩) Z Z).trans ((Sub.frzW (id := 2) (M := c5) (env2 := [(1, .c (row 1 d6 all)), (2, .c (.ptr 0 0 0)), (5, .c (.own 1 0 c3.length)), (16, .c (row 1 d6 all)), (17, .c (int (all.length : Int))), (18, .c (int (t4 + 1)))]) (σ2 := [.one (.cells 4 [(tO ov)]), .one (vec 1 s5 (c3.set t4.toNat c5)), .dead]) Z Z (by exact ⟨⟨_, Z, .inl ⟨Z, Z⟩⟩, ⟨_, Z, .inl ⟨Z, Z⟩⟩, ⟨_, Z, .inl ⟨Z, Z⟩⟩, ⟨_, Z, .inl ⟨Z, Z⟩⟩, ⟨_, Z, .inl ⟨Z, Z⟩⟩, ⟨_, Z, .inl ⟨Z, Z⟩⟩, Y⟩) Z (by exact ⟨.old ⟨Z, .inl ⟨Z, Z⟩, .inl ⟨Z, Z⟩, .inl ⟨Z, Z⟩, .inl ⟨Z, Z⟩, Y⟩, (.vs (vs_frz Z Z)), .old (trivial), Y⟩)).trans (Sub.cut ⟨Z, Z, (F1 (by first | rfl | simp only [List.length_set])), Z, Z, Z, Y⟩ Z ⟨.one Z, .vec, Y⟩ Z)))
 ·intro e s hq
  obtain ⟨rfl, hs⟩ := hq
  refine ⟨_, hs, ?_⟩
  refine g8 (b5 (.d (.e (.a Z Z (.f Z Z (.nil (b5 (.ret ?_))))))))
  obtain rfl := oi h
  exact Done.ret Z (Fresh.mk Z Z)
theorem aj7 {iv : Int} {c2 : List Int} {r : Bool} (h : P0 iv c2 = some r) : e9 Tryz.prog 116 [.c (int iv), .c (.imm (.ipt [.sl 1 (List.map intI c2)]))] (.c (bool r)) := by
 unfold e9
 refine FnOk.enter (rs := [.t 3]) Tryz.func116 Z Tryz.ntmps116 Tryz.results116 Z ⟨trivial, Y⟩ (by kernel_rfl) Z ?_
 unfold P0 at h
 refine AWP.d (.e (.f Z Z (.nil (b5 (.d ?_)))))
 obtain ⟨a6, ha6, h⟩ := b7 h
 refine AWP.e (.n Z Z Z Z (.a Z Z (S.idx ha6 Z Z Z Z (.n Z Z Z Z (.eql Z Z Z (.f Z Z (.nil (b5 (.ret ?_)))))))))
 obtain rfl := oi h
 exact Done.ret Z Z
theorem ad5 {l : List Int} {safe : List Int} {r : Bool} (h : N2 l safe = some r) : e9 Tryz.prog 102 [.c (row 1 intI l), .c (row 1 intI safe)] (.c (bool r)) := by
 unfold e9
 refine FnOk.enter (rs := [.t 4]) Tryz.func102 Z Tryz.ntmps102 Tryz.results102 Z ⟨trivial, Y⟩ (by kernel_rfl) Z ?_
 unfold N2 at h
 refine AWP.d (.e (W.box Z Z Z Z Z Z (.f Z Z (.nil (b5 ?_)))))
 obtain ⟨t3, hx4, h⟩ := b7 h
 refine AWP.seqJ (⟨[(4, .c (bool t3))], []⟩) ?_ ?_
 ·rcases bft (decide (0 < (l.length : Int))) with hb5 | hb5
  ·replace hx4 := C9 hb5 hx4
   obtain ⟨a11, ha11, hx4⟩ := b7 hx4
   refine AWP.e (.a Z Z (S.len Z Z (fun hl6 => .gtr Z Z Z (.a Z Z (.g Z Z Z hb5 (.a Z Z (.g Z Z Z hb5 (.makeFunc Z Z ?_))))))))
   refine AOps.g Z Z Z hb5 ?_; refine AOps.callL Z Z (.cons (.c .imm) (.cons (.c (.fn (.cons (.ptr (es := [.sl 1 (List.map intI safe)]) Z Z (.cons .imm .nil)) .nil))) .nil)) Z (C1 Z (fun hy => aj7 hy) ha11) Z ?_
   refine AOps.g Z Z Z hb5 (.not Z Z (.p Z hb5 Z Z (.f Z Z (.nil ?_))))
   obtain rfl := oi hx4
   refine b5 (Sub.cut ⟨Z, Y⟩ Z trivial Z)
  ·replace hx4 := D0 hb5 hx4
   refine AWP.e (.a Z Z (S.len Z Z (fun hl6 => .gtr Z Z Z (.a Z Z (.i Z Z Z hb5 (.i Z Z Z hb5 (.i Z Z Z hb5 (.i Z Z Z hb5 (.o Z hb5 Z Z (.f Z Z (.nil ?_)))))))))))
   obtain rfl := oi hx4
   refine b5 (Sub.cut ⟨Z, Y⟩ Z trivial Z)
 ·refine AWP.ret ?_
  obtain rfl := oi h
  exact Done.ret Z Z
theorem ag3 {kv : Int} {c2 : List Int} {c3 : Int} {r : Bool} (h : I7 kv c2 c3 = some r) : e9 Tryz.prog 104 [.c (int kv), .c (.imm (.ipt [.sl 1 (List.map intI c2)])), .c (.imm (.ipt [.val (.int .i64 c3)]))] (.c (bool r)) := by
 unfold e9
 refine FnOk.enter (rs := [.t 4]) Tryz.func104 Z Tryz.ntmps104 Tryz.results104 Z ⟨trivial, Y⟩ (by kernel_rfl) Z ?_
 unfold I7 at h
 refine AWP.d (.e (.f Z Z (.nil (b5 (.d ?_)))))
 obtain ⟨a7, ha7, h⟩ := b7 h
 refine AWP.drawI mixed Z ?_
 refine g7.consF Z (fun E => AOps.n Z Z Z Z (.nil ⟨Z, Z⟩)) Z (.consF Z (fun E => AOps.a Z Z (.nil ⟨Z, Z⟩)) Z (.consF Z (fun E => S.idx ha7 Z Z Z Z (.nil ⟨Z, Z⟩)) Z (.consF Z (fun E => AOps.n Z Z Z Z (.nil ⟨Z, Z⟩)) Z (.consF Z (fun E => AOps.n Z Z Z Z (.nil ⟨Z, Z⟩)) Z (.consF Z (fun E => S.sub Z Z Z (.nil ⟨Z, Z⟩)) Z (.consF Z (fun E => AOps.eql Z Z Z (.nil ⟨Z, Z⟩)) Z (.consF Z (fun E => AOps.f Z Z (.nil ⟨Z, Z⟩)) Z ?_)))))))
 refine g7.done ?_
 dsimp only [j6]
 refine b5 (.ret ?_)
 obtain rfl := oi h
 exact Done.ret Z Z
theorem ai4 {l : List Int} {c2 : List Int} {c3 : List Int} {c4 : Int} {r : Bool} (h : D4 l c2 c3 c4 = some r) : e9 Tryz.prog 101 [.c (row 1 intI l), .c (.imm (.ipt [.sl 1 (List.map intI c2)])), .c (.imm (.ipt [.sl 1 (List.map intI c3)])), .c (.imm (.ipt [.val (.int .i64 c4)]))] (.c (bool r)) := by
 unfold e9
 refine FnOk.enter (rs := [.t 5]) Tryz.func101 Z Tryz.ntmps101 Tryz.results101 Z ⟨trivial, Y⟩ (by kernel_rfl) Z ?_
 unfold D4 at h
 refine AWP.d (.e (.f Z Z (.nil (b5 ?_))))
 obtain ⟨t2, hx3, h⟩ := b7 h
 refine AWP.seqJ (⟨[(5, .c (bool t2))], []⟩) ?_ ?_
 ·obtain ⟨a8, ha8, hx3⟩ := b7 hx3
  rcases bft (a8) with hb4 | hb4
  ·replace hx3 := B7 hb4 hx3
   obtain ⟨a12, ha12, hx3⟩ := b7 hx3
   refine AWP.e (.a Z Z (.n Z Z Z Z (.k Z Z Z Z (ad5 ha8) Z (.a Z Z (.g Z Z Z hb4 (.a Z Z (.g Z Z Z hb4 (.makeFunc Z Z ?_))))))))
   refine AOps.g Z Z Z hb4 ?_; refine AOps.k Z Z Z Z (C1 Z (fun hy => ag3 hy) ha12) Z ?_
   refine AOps.p Z hb4 Z Z (.f Z Z (.nil ?_))
   obtain rfl := oi hx3
   refine b5 (Sub.env ⟨Z, Y⟩)
  ·replace hx3 := B5 hb4 hx3
   refine AWP.e (.a Z Z (.n Z Z Z Z (.k Z Z Z Z (ad5 ha8) Z (.a Z Z (.i Z Z Z hb4 (.i Z Z Z hb4 (.i Z Z Z hb4 (.o Z hb4 Z Z (.f Z Z (.nil ?_))))))))))
   obtain rfl := oi hx3
   refine b5 (Sub.env ⟨Z, Y⟩)
 ·refine AWP.ret ?_
  obtain rfl := oi h
  exact Done.ret Z Z
theorem ak0 {ov : b8} {all : LL} {nextv : List LL} {safe : List Int} {r : (List Int)} (h : M1 ov all nextv safe = some r) : m8 Tryz.prog 87 [.agg (tO ov), .c (row 1 d6 all), .c (row 1 s5 nextv), .c (row 1 intI safe)] 1 (List.map intI r) := by
 unfold m8
 refine FnOk.enter (rs := [.t 8]) Tryz.func87 Z Tryz.ntmps87 Tryz.results87 Z ⟨trivial, Y⟩ (by kernel_rfl) Z ?_
 unfold M1 at h
 refine AWP.d (.e (W.box Z Z Z Z Z Z (W.box Z Z Z Z Z Z (.f Z Z (.nil (b5 (.d ?_)))))))
 obtain ⟨a17, ha17, h⟩ := b7 h
 refine AWP.e (S.lit (f := intI) (l := [-1]) (ess := [[int (-1)]]) Z Z Z Z Z Z Z ⟨⟨.inl Z, Y⟩, Y⟩ Z Z Z (.a Z Z (S.len Z Z (fun hl16 => S.freshL (fun _ => Z) Z Z (.cons (.c (.own Z Z)) (.cons (.c .imm) .nil)) Z (Q5 ha17) Z Z ?_))))
 refine W.alloc Z Z Z Z (W.store Z Z Z Z Z (.nil (b5 (.d (.d (.e (.a Z Z (S.len Z Z (fun hl19 => .a Z Z (.nil (b5 (.m ?_))))))))))))
 obtain ⟨c5, ho1, h⟩ := b7 h
 refine AWP.forS ho1 (fun t6 c5 => ⟨[(1, .c (row 1 d6 all)), (2, .c (row 1 s5 nextv)), (4, .c (.ptr 0 0 0)), (7, .c (.ptr 1 0 0)), (9, .c (.ptr 4 0 0)), (18, .c (row 1 d6 all)), (19, .c (int (all.length : Int))), (20, .c (int t6))], [.one (.cells 4 [(tO ov)]), .one (.cells 1 [[row 1 intI safe]]), .dead, .one (vec 1 intI c5), .one (.cells 1 [[.own 3 0 c5.length]])]⟩) (fun c5 e st => e = .exit 0 ∧ Sub [] st ⟨[(1, .c (row 1 d6 all)), (2, .c (row 1 s5 nextv)), (7, .c (.ptr 1 0 0)), (9, .c (.ptr 4 0 0))], [.one (.cells 4 [(tO ov)]), .one (.cells 1 [[row 1 intI safe]]), .dead, .one (vec 1 intI c5), .one (.cells 1 [[.own 3 0 c5.length]])]⟩) ?_ ?_ ?_ ?_
 ·try dsimp only
  exact Sub.cut ⟨Z, Z, Z, Z, Z, Z, Z, Z, Y⟩ Z ⟨.one Z, .one Z, .dead, .vec, .one Z, Y⟩ Z
 ·intro t6 c5 hlot6 hltt6 _
  try dsimp only
  refine AWP.d (.e (.j Z Z Z (.nil (b5 (.d (.q Z hltt6 (.exit (d8 (d8 ⟨Z, ?_⟩)))))))))
  exact Sub.env ⟨Z, Z, Z, Z, Y⟩
 ·intro t6 c5 o hlot6 hltt6 h
  unfold K7 at h
  try dsimp only at h ⊢
  refine AWP.d (.e (.j Z Z Z (.nil (b5 (.d (.r Z hltt6 (.skip (b5 ?_))))))))
  obtain ⟨c7, hx8, h⟩ := b7 h
  refine AWP.seqJ (⟨[(1, .c (row 1 d6 all)), (2, .c (row 1 s5 nextv)), (4, .c (.ptr 0 0 0)), (7, .c (.ptr 1 0 0)), (9, .c (.ptr 4 0 0)), (18, .c (row 1 d6 all)), (19, .c (int (all.length : Int))), (20, .c (int t6))], [.one (.cells 4 [(tO ov)]), .one (.cells 1 [[row 1 intI safe]]), .dead, .one (vec 1 intI c7), .one (.cells 1 [[.own 3 0 c7.length]])]⟩) ?_ ?_
  ·refine AWP.m (.d ?_)
   obtain ⟨a23, ha23, hx8⟩ := b7 hx8
   refine AWP.e (.a Z Z (S.idx ha23 Z Z Z Z (.n Z Z Z Z (.f Z Z (.f Z Z (.nil (b5 (.d ?_))))))))
   obtain ⟨a28, ha28, hx8⟩ := b7 hx8
   refine AWP.e (.a Z Z (W.fieldAddr Z Z Z Z (.l Z Z Z Z Z Z (.k Z Z Z Z (B0 ha28) Z (.nil (b5 (.s Z hx8 (fun hc9 hx8 => ?_) (fun hc9 hx8 => ?_))))))))
   ·obtain ⟨a31, ha31, hx8⟩ := b7 hx8
    refine AWP.e (.l Z Z Z Z Z Z (.a Z Z (S.idxO ha31 Z Z Z Z Z (S.storeO1 (f := intI) (a' := 0) (x9 ha31) (fun _ => ⟨_, Z⟩) Z Z Z Z Z ?_))))
    refine AOps.nil (d7 ?_)
    obtain rfl := oi hx8
    refine b5 (Sub.cut ⟨Z, Z, Z, Z, Z, Z, Z, Z, Y⟩ Z ⟨.one Z, .one Z, .dead, .vec, (.eq Z (by first | rfl | simp only [List.length_set])), Y⟩ Z)
   ·refine AWP.skip (d7 ?_)
    obtain rfl := oi hx8
    refine b5 (Sub.env ⟨Z, Z, Z, Z, Z, Z, Z, Z, Y⟩)
  ·refine AWP.e (.add Z Z Z (by omega) (.a Z Z (.nil ?_)))
   obtain rfl := oi h
   refine b5 (Sub.env ⟨Z, Z, Z, Z, Z, Z, Z, Z, Y⟩)
 ·intro e s hq
  obtain ⟨rfl, hs⟩ := hq
  refine ⟨_, hs, ?_⟩
  refine g8 (b5 (.d (.d (.e (W.alloc Z Z Z Z (W.store Z Z Z Z Z (.nil (b5 (.m ?_)))))))))
  obtain ⟨c12, ho2, h⟩ := b7 h
  refine AWP.loopS ho2 (fun (c10, c11) => ⟨[(1, .c (row 1 d6 all)), (2, .c (row 1 s5 nextv)), (7, .c (.ptr 1 0 0)), (9, .c (.ptr 4 0 0)), (12, .c (.ptr 5 0 0))], [.dead, .one (.cells 1 [[row 1 intI safe]]), .dead, .one (vec 1 intI c10), .one (.cells 1 [[.own 3 0 c10.length]]), .one (.cells 1 [[int c11]])]⟩) (fun c12 e st => e = .exit 2 ∧ Sub [] st ⟨[(9, .c (.ptr 4 0 0))], [.dead, .dead, .dead, .one (vec 1 intI c12), .one (.cells 1 [[.own 3 0 c12.length]])]⟩) ?_ ?_ ?_
  ·try dsimp only
   exact Sub.cut ⟨Z, Z, Z, Z, Z, Y⟩ Z ⟨.dead, .one Z, .dead, .vec, .one Z, .one Z, Y⟩ Z
  ·intro s o h
   obtain ⟨c10, c11⟩ := s
   unfold L3 at h
   try dsimp only at h ⊢
   refine AWP.d (.d (.e (.l Z Z Z Z Z Z (.a Z Z (S.len Z Z (fun hl35 => .leq Z Z Z (.nil (b5 (.ite Z h (fun hc13 h => ?_) (fun hc13 h => ?_))))))))))
   ·refine AWP.skip (b5 (.d (.m (.d (.e (.a Z Z (S.len Z Z (fun hl40 => .a Z Z (.nil (b5 (.m ?_)))))))))))
    obtain ⟨c14, ho3, h⟩ := b7 h
    refine AWP.forS ho3 (fun t15 c14 => ⟨[(1, .c (row 1 d6 all)), (2, .c (row 1 s5 nextv)), (7, .c (.ptr 1 0 0)), (9, .c (.ptr 4 0 0)), (12, .c (.ptr 5 0 0)), (40, .c (int (all.length : Int))), (41, .c (int t15))], [.dead, .one (.cells 1 [[row 1 intI safe]]), .dead, .one (vec 1 intI c14), .one (.cells 1 [[.own 3 0 c14.length]]), .one (.cells 1 [[int c11]])]⟩) (fun c14 e st => e = .exit 4 ∧ Sub [] st ⟨[(1, .c (row 1 d6 all)), (2, .c (row 1 s5 nextv)), (7, .c (.ptr 1 0 0)), (9, .c (.ptr 4 0 0)), (12, .c (.ptr 5 0 0))], [.dead, .one (.cells 1 [[row 1 intI safe]]), .dead, .one (vec 1 intI c14), .one (.cells 1 [[.own 3 0 c14.length]]), .one (.cells 1 [[int c11]])]⟩) ?_ ?_ ?_ ?_
    ·try dsimp only
     exact Sub.env ⟨Z, Z, Z, Z, Z, Z, Z, Y⟩
    ·intro t15 c14 hlot15 hltt15 _
     try dsimp only
     refine AWP.d (.e (.j Z Z Z (.nil (b5 (.d (.q Z hltt15 (.exit (d8 (d8 ⟨Z, ?_⟩)))))))))
     exact Sub.env ⟨Z, Z, Z, Z, Z, Y⟩
    ·intro t15 c14 o hlot15 hltt15 h
     unfold K9 at h
     try dsimp only at h ⊢
     refine AWP.d (.e (.j Z Z Z (.nil (b5 (.d (.r Z hltt15 (.skip (b5 ?_))))))))
     obtain ⟨c16, hx17, h⟩ := b7 h
     refine AWP.seqJ (⟨[(1, .c (row 1 d6 all)), (2, .c (row 1 s5 nextv)), (7, .c (.ptr 1 0 0)), (9, .c (.ptr 4 0 0)), (12, .c (.ptr 5 0 0)), (40, .c (int (all.length : Int))), (41, .c (int t15))], [.dead, .one (.cells 1 [[row 1 intI safe]]), .dead, .one (vec 1 intI c16), .one (.cells 1 [[.own 3 0 c16.length]]), .one (.cells 1 [[int c11]])]⟩) ?_ ?_
     ·refine AWP.m (.d (.e (.a Z Z (.f Z Z (.nil (b5 (.d ?_)))))))
      obtain ⟨t18, hx19, hx17⟩ := b7 hx17
      refine AWP.seqJ (⟨[(1, .c (row 1 d6 all)), (2, .c (row 1 s5 nextv)), (7, .c (.ptr 1 0 0)), (9, .c (.ptr 4 0 0)), (12, .c (.ptr 5 0 0)), (13, .c (int t15)), (40, .c (int (all.length : Int))), (41, .c (int t15)), (55, .c (bool t18))], [.dead, .one (.cells 1 [[row 1 intI safe]]), .dead, .one (vec 1 intI c14), .one (.cells 1 [[.own 3 0 c14.length]]), .one (.cells 1 [[int c11]])]⟩) ?_ ?_
      ·obtain ⟨a46, ha46, hx19⟩ := b7 hx19
       rcases bft (decide (0 ≤ a46)) with hb20 | hb20
       ·replace hx19 := C9 hb20 hx19
        refine AWP.e (.l Z Z Z Z Z Z (.a Z Z (S.idxO ha46 Z Z Z Z Z (S.loadO ha46 Z Z Z Z Z (.geq Z Z Z (.a Z Z (.i Z Z Z hb20 (.i Z Z Z hb20 (.i Z Z Z hb20 (.i Z Z Z hb20 (.i Z Z Z hb20 (.p Z hb20 Z Z (.nil ?_)))))))))))))
        obtain rfl := oi hx19
        refine b5 (Sub.env ⟨Z, Z, Z, Z, Z, Z, Z, Z, Z, Y⟩)
       ·replace hx19 := D0 hb20 hx19
        obtain ⟨a52, ha52, hx19⟩ := b7 hx19
        refine AWP.e (.l Z Z Z Z Z Z (.a Z Z (S.idxO ha46 Z Z Z Z Z (S.loadO ha46 Z Z Z Z Z (.geq Z Z Z (.a Z Z (.g Z Z Z hb20 (.l Z Z Z Z Z Z (.g Z Z Z hb20 (.a Z Z (.g Z Z Z hb20 (S.idx ha52 Z Z Z Z (.g Z Z Z hb20 (.n Z Z Z Z (.g Z Z Z hb20 (.eql Z Z Z (.o Z hb20 Z Z (.nil ?_))))))))))))))))))
        obtain rfl := oi hx19
        refine b5 (Sub.env ⟨Z, Z, Z, Z, Z, Z, Z, Z, Z, Y⟩)
      ·refine AWP.s Z hx17 (fun hc21 hx17 => ?_) (fun hc21 hx17 => ?_)
       ·refine AWP.exit (d8 (g8 ?_))
        obtain rfl := oi hx17
        refine b5 (Sub.env ⟨Z, Z, Z, Z, Z, Z, Z, Y⟩)
       ·refine AWP.skip (b5 (.d ?_))
        obtain ⟨a58, ha58, a61, ha61, hx17⟩ := b2 hx17
        refine AWP.e (.a Z Z (.a Z Z (S.idx ha58 Z Z Z Z (.n Z Z Z Z (.makeFunc Z Z (.callL Z Z (.cons (.c .imm) (.cons (.c (.fn (.cons (.ptr (es := [.sl 1 (List.map intI safe)]) Z Z (.cons .imm .nil)) (.cons (.ptr (es := [.sl 1 (List.map intI c14)]) Z Z (.cons (.own Z Z) .nil)) (.cons (.ptr (es := [.val (.int .i64 c11)]) Z Z (.cons .imm .nil)) .nil))))) .nil)) Z (M0 Z (fun hy => ai4 hy) ha61) Z ?_))))))
        refine AOps.nil (b5 (.s Z hx17 (fun hc22 hx17 => ?_) (fun hc22 hx17 => ?_)))
        ·obtain ⟨a65, ha65, hx17⟩ := b7 hx17
         refine AWP.e (.l Z Z Z Z Z Z (.a Z Z (.l Z Z Z Z Z Z (S.idxO ha65 Z Z Z Z Z (S.storeO1 (f := intI) (a' := c11) (x9 ha65) (fun _ => ⟨_, Z⟩) Z Z Z Z Z ?_)))))
         refine AOps.nil (d7 ?_)
         obtain rfl := oi hx17
         refine b5 (Sub.cut ⟨Z, Z, Z, Z, Z, Z, Z, Y⟩ Z ⟨.dead, .one Z, .dead, .vec, (.eq Z (by first | rfl | simp only [List.length_set])), .one Z, Y⟩ Z)
        ·refine AWP.skip (d7 ?_)
         obtain rfl := oi hx17
         refine b5 (Sub.env ⟨Z, Z, Z, Z, Z, Z, Z, Y⟩)
     ·refine AWP.e (.add Z Z Z (by omega) (.a Z Z (.nil ?_)))
      obtain rfl := oi h
      refine b5 (Sub.env ⟨Z, Z, Z, Z, Z, Z, Z, Y⟩)
    ·intro e s hq
     obtain ⟨rfl, hs⟩ := hq
     refine ⟨_, hs, ?_⟩
     refine g8 (d7 (b5 (.d (.d (.e (.l Z Z Z Z Z Z (.nil (b5 (.e (W.alloc Z Z Z Z (W.store Z Z Z Z Z (.nil (b5 (.e (.l Z Z Z Z Z Z (S.add Z Z Z (W.store Z Z Z Z Z (.nil ?_))))))))))))))))))
     obtain rfl := oi h
     refine b5 ⟨_, Z, ?_⟩
     exact (Sub.move (env' := [(1, .c (row 1 d6 all)), (2, .c (row 1 s5 nextv)), (7, .c (.ptr 1 0 0)), (9, .c (.ptr 4 0 0)), (12, .c (.ptr 5 0 0))]) (σ' := [.dead, .one (.cells 1 [[row 1 intI safe]]), .dead, .one (vec 1 intI c14), .one (.cells 1 [[.own 3 0 c14.length]]), .one (.cells 1 [[int (w64 (c11 + 1))]])]) 5 6 Z Z Z ⟨Z, Z, Z, Z, Z, Y⟩ Z ⟨trivial, ⟨Z, Z⟩, trivial, ⟨Blk.im_ok _ _ _, o7 Z⟩, ⟨Z, Z⟩, ⟨Z, Z⟩, Y⟩).trans (Sub.env ⟨Z, Z, Z, Z, Z, Y⟩)
   ·refine AWP.exit (d8 ?_)
    obtain rfl := oi h
    refine d8 ⟨_, Z, Z, ?_⟩
    exact Sub.cut ⟨Z, Y⟩ Z ⟨.dead, .dead, .dead, .vec, .one Z, Y⟩ Z
  ·intro e s hq
   obtain ⟨rfl, hs⟩ := hq
   refine ⟨_, hs, ?_⟩
   refine g8 (b5 (.d (.e (.l Z Z Z Z Z Z (.f Z Z (.nil (b5 (.ret ?_))))))))
   obtain rfl := oi h
   exact Done.ret Z (Fresh.mk Z Z)
theorem ai2 {ov : b8} {all : LL} {r : (List Int)} (h : G8 ov all = some r) : m8 Tryz.prog 58 [.agg (tO ov), .c (row 1 d6 all)] 1 (List.map intI r) := by
 unfold m8
 refine FnOk.enter (rs := [.t 4]) Tryz.func58 Z Tryz.ntmps58 Tryz.results58 Z ⟨trivial, Y⟩ (by kernel_rfl) Z ?_
 unfold G8 at h
 refine AWP.d (.e (W.box Z Z Z Z Z Z (.f Z Z (.nil (b5 (.d ?_))))))
 obtain ⟨a12, ha12, h⟩ := b7 h
 refine AWP.e (W.loadAgg Z Z Z Z Z Z Z (.a Z Z (S.fresh Z Z Z Z (cyclic_arcs_ok ha12) Z Z (.f Z Z (.nil (b5 (.d ?_)))))))
 obtain ⟨a16, ha16, h⟩ := b7 h
 refine AWP.e (S.lit (f := intI) (l := [1]) (ess := [[int 1]]) Z Z Z Z Z Z Z ⟨⟨.inl Z, Y⟩, Y⟩ Z Z Z (.a Z Z (S.len Z Z (fun hl15 => S.freshL (fun _ => Z) Z Z (.cons (.c (.own Z Z)) (.cons (.c .imm) .nil)) Z (Q5 ha16) Z Z ?_))))
 refine AOps.f Z Z (.nil (b5 (.m ?_)))
 obtain ⟨x, ho1, h⟩ := b7 h
 refine AWP.loopS ho1 (fun c3 => ⟨[(1, .c (row 1 d6 all)), (2, .c (.ptr 0 0 0)), (5, .c (.own 1 0 a12.length)), (6, .c (.own 3 0 c3.length))], [.one (.cells 4 [(tO ov)]), .one (vec 1 s5 a12), .dead, .one (vec 1 intI c3)]⟩) (fun x e st => e = .ret ∧ Done [.t 4] (fun t s => ∃ id, t = .c (.own id 0 (List.map intI x).length) ∧ s[id]? = some (some (Blk.im 1 (List.map intI x)))) .ret st) ?_ ?_ ?_
 ·try dsimp only
  exact Sub.cut ⟨Z, Z, Z, Z, Y⟩ Z ⟨.one Z, .vec, .dead, .vec, Y⟩ Z
 ·intro c3 o h
  unfold H5 at h
  try dsimp only at h ⊢
  refine AWP.m (.d ?_)
  obtain ⟨a21, ha21, h⟩ := b7 h
  refine AWP.e (W.loadAgg Z Z Z Z Z Z Z (.a Z Z (.a Z Z (.a Z Z (S.freshL (fun _ => Z) Z Z (.cons (.agg (.cons .imm (.cons .imm (.cons .imm (.cons .imm .nil))))) (.cons (.c .imm) (.cons (.c (.own Z Z)) (.cons (.c (.own Z Z)) .nil)))) Z (ak0 ha21) Z Z ?_)))))
  refine AOps.f Z Z (.nil (b5 (.d (.e (.f Z Z (.nil (b5 (.d (.d (.e (.a Z Z (S.lenO Z Z Z (fun hl23 => .a Z Z (.nil (b5 (.m ?_))))))))))))))))
  obtain ⟨⟨c4, same5⟩, ho2, h⟩ := b7 h
  try dsimp only at h
  refine AWP.forS ho2 (fun t6 (c4, same5) => ⟨[(1, .c (row 1 d6 all)), (2, .c (.ptr 0 0 0)), (5, .c (.own 1 0 a12.length)), (6, .c (.own 3 0 c4.length)), (7, .c (.own 4 0 a21.length)), (8, .c (bool same5)), (23, .c (int (a21.length : Int))), (24, .c (int t6))], [.one (.cells 4 [(tO ov)]), .one (vec 1 s5 a12), .dead, .one (vec 1 intI c4), .one (vec 1 intI a21)]⟩) (fun (c4, same5) e st => e = .exit 2 ∧ Sub [] st ⟨[(1, .c (row 1 d6 all)), (2, .c (.ptr 0 0 0)), (5, .c (.own 1 0 a12.length)), (6, .c (.own 3 0 c4.length)), (7, .c (.own 4 0 a21.length)), (8, .c (bool same5))], [.one (.cells 4 [(tO ov)]), .one (vec 1 s5 a12), .dead, .one (vec 1 intI c4), .one (vec 1 intI a21)]⟩) ?_ ?_ ?_ ?_
  ·try dsimp only
   exact Sub.env ⟨Z, Z, Z, Z, Z, Z, Z, Z, Y⟩
  ·intro t6 s hlot6 hltt6 _
   obtain ⟨c4, same5⟩ := s
   try dsimp only
   refine AWP.d (.e (.j Z Z Z (.nil (b5 (.d (.q Z hltt6 (.exit (d8 (d8 ⟨Z, ?_⟩)))))))))
   exact Sub.env ⟨Z, Z, Z, Z, Z, Z, Y⟩
  ·intro t6 s o hlot6 hltt6 h
   obtain ⟨c4, same5⟩ := s
   unfold H6 at h
   try dsimp only at h ⊢
   refine AWP.d (.e (.j Z Z Z (.nil (b5 (.d (.r Z hltt6 (.skip (b5 (.d (.m (.d (.e (.a Z Z (.f Z Z (.nil (b5 ?_))))))))))))))))
   obtain ⟨same7, hx8, h⟩ := b7 h
   refine AWP.seqJ (⟨[(1, .c (row 1 d6 all)), (2, .c (.ptr 0 0 0)), (5, .c (.own 1 0 a12.length)), (6, .c (.own 3 0 c4.length)), (7, .c (.own 4 0 a21.length)), (8, .c (bool same7)), (9, .c (int t6)), (23, .c (int (a21.length : Int))), (24, .c (int t6))], [.one (.cells 4 [(tO ov)]), .one (vec 1 s5 a12), .dead, .one (vec 1 intI c4), .one (vec 1 intI a21)]⟩) ?_ ?_
   ·rcases bft (same5) with hb9 | hb9
    ·replace hx8 := B7 hb9 hx8
     obtain ⟨a31, ha31, a36, ha36, hx8⟩ := b2 hx8
     refine AWP.drawI mixed Z ?_
     refine g7.consF Z (fun E => AOps.a Z Z (.nil ⟨Z, Z⟩)) Z (.consF Z (fun E => AOps.a Z Z (.nil ⟨Z, Z⟩)) Z (.consF Z (fun E => AOps.g Z Z Z hb9 (.a Z Z (.nil ⟨Z, Z⟩))) Z (.consF Z (fun E => AOps.g Z Z Z hb9 (.a Z Z (.nil ⟨Z, Z⟩))) Z (.consF Z (fun E => AOps.g Z Z Z hb9 (S.idxO ha31 Z Z Z Z Z (.nil ⟨Z, Z⟩))) Z (.consF Z (fun E => AOps.g Z Z Z hb9 (S.loadO ha31 Z Z Z Z Z (.nil ⟨Z, Z⟩))) Z (.consF Z (fun E => AOps.g Z Z Z hb9 (.geq Z Z Z (.nil ⟨Z, Z⟩))) Z (.consF Z (fun E => AOps.g Z Z Z hb9 (.a Z Z (.nil ⟨Z, Z⟩))) Z (.consF Z (fun E => AOps.g Z Z Z hb9 (.a Z Z (.nil ⟨Z, Z⟩))) Z (.consF Z (fun E => AOps.g Z Z Z hb9 (S.idxO ha36 Z Z Z Z Z (.nil ⟨Z, Z⟩))) Z (.consF Z (fun E => AOps.g Z Z Z hb9 (S.loadO ha36 Z Z Z Z Z (.nil ⟨Z, Z⟩))) Z (.consF Z (fun E => AOps.g Z Z Z hb9 (.gtr Z Z Z (.nil ⟨Z, Z⟩))) Z (.consF Z (fun E => AOps.g Z Z Z hb9 (.eqlB Z Z Z (.nil ⟨Z, Z⟩))) Z (.consF Z (fun E => AOps.p Z hb9 Z Z (.nil ⟨Z, Z⟩)) Z (.consF Z (fun E => AOps.f Z Z (.nil ⟨Z, Z⟩)) Z ?_))))))))))))))
     refine g7.done ?_
     dsimp only [j6]
     obtain rfl := oi hx8
     refine b5 (Sub.env ⟨Z, Z, Z, Z, Z, Z, Z, Z, Z, Y⟩)
    ·replace hx8 := B5 hb9 hx8
     refine AWP.drawI mixed Z ?_
     refine g7.consF Z (fun E => AOps.a Z Z (.nil ⟨Z, Z⟩)) Z (.consF Z (fun E => AOps.a Z Z (.nil ⟨Z, Z⟩)) Z (.consF Z (fun E => AOps.i Z Z Z hb9 (.nil ⟨Z, Z⟩)) Z (.consF Z (fun E => AOps.i Z Z Z hb9 (.nil ⟨Z, Z⟩)) Z (.consF Z (fun E => AOps.i Z Z Z hb9 (.nil ⟨Z, Z⟩)) Z (.consF Z (fun E => AOps.i Z Z Z hb9 (.nil ⟨Z, Z⟩)) Z (.consF Z (fun E => AOps.i Z Z Z hb9 (.nil ⟨Z, Z⟩)) Z (.consF Z (fun E => AOps.i Z Z Z hb9 (.nil ⟨Z, Z⟩)) Z (.consF Z (fun E => AOps.i Z Z Z hb9 (.nil ⟨Z, Z⟩)) Z (.consF Z (fun E => AOps.i Z Z Z hb9 (.nil ⟨Z, Z⟩)) Z (.consF Z (fun E => AOps.i Z Z Z hb9 (.nil ⟨Z, Z⟩)) Z (.consF Z (fun E => AOps.i Z Z Z hb9 (.nil ⟨Z, Z⟩)) Z (.consF Z (fun E => AOps.i Z Z Z hb9 (.nil ⟨Z, Z⟩)) Z (.consF Z (fun E => AOps.o Z hb9 Z Z (.nil ⟨Z, Z⟩)) Z (.consF Z (fun E => AOps.f Z Z (.nil ⟨Z, Z⟩)) Z ?_))))))))))))))
     refine g7.done ?_
     dsimp only [j6]
     obtain rfl := oi hx8
     refine b5 (Sub.env ⟨Z, Z, Z, Z, Z, Z, Z, Z, Z, Y⟩)
   ·obtain ⟨a45, ha45, a49, ha49, h⟩ := b2 h
    refine AWP.e (.a Z Z (.a Z Z (.a Z Z (.a Z Z (S.idxO ha45 Z Z Z Z Z (S.loadO ha45 Z Z Z Z Z (S.add Z Z Z (.min2 Z Z Z (S.idxO ha49 Z Z Z Z Z (S.storeO1 (f := intI) (a' := min 1 (w64 (a45 + 1))) (x9 ha49) (fun _ => ⟨_, Z⟩) Z Z Z Z Z ?_))))))))))
    refine AOps.nil (d7 (b5 (.e (.add Z Z Z (by omega) (.a Z Z (.nil ?_))))))
    obtain rfl := oi h
    refine b5 (Sub.env ⟨Z, Z, Z, (F1 (by first | rfl | simp only [List.length_set])), Z, Z, Z, Z, Y⟩)
  ·intro e s hq
   obtain ⟨rfl, hs⟩ := hq
   refine ⟨_, hs, ?_⟩
   refine g8 (b5 (.d (.e (.a Z Z (.nil (b5 (.s Z h (fun hc10 h => ?_) (fun hc10 h => ?_))))))))
   ·refine AWP.d (.e (.a Z Z (.f Z Z (.nil (b5 (.ret (h9 ?_)))))))
    obtain rfl := oi h
    refine e8 ⟨_, Z, Z, ?_⟩
    exact Done.ret Z (Fresh.mk Z Z)
   ·refine AWP.skip (d7 ?_)
    obtain rfl := oi h
    refine b5 ⟨_, Z, ?_⟩
    exact Sub.cut ⟨Z, Z, Z, Z, Y⟩ Z ⟨.one Z, .vec, .dead, .vec, Y⟩ Z
 ·intro e s hq
  obtain ⟨rfl, hs⟩ := hq
  refine ⟨_, Sub.refl _ _, ?_⟩
  refine h9 ?_
  obtain rfl := oi h
  exact hs
theorem aj2 {sv : List Int} {c2 : List Int} {c3 : LL} {c4 : b8} {r : Int} (h : n5 sv c2 c3 c4 = some r) : e9 Tryz.prog 59 [.c (row 1 intI sv), .c (.imm (.ipt [.sl 1 (List.map intI c2)])), .c (.imm (.ipt [.sl 1 (List.map d6 c3)])), .c (.imm (.ipt [.val (.int .i64 c4.facts), .sl 1 (List.map intI c4.init), .sl 1 (List.map intI c4.goal), .sl 3 (List.map l8 c4.operators)]))] (.c (int r)) := by
 unfold e9
 refine FnOk.enter (rs := [.t 5]) Tryz.func59 Z Tryz.ntmps59 Tryz.results59 Z ⟨trivial, Y⟩ (by kernel_rfl) Z ?_
 unfold n5 at h
 refine AWP.d (.e (.f Z Z (.nil (b5 (.d ?_)))))
 obtain ⟨a18, ha18, a19, ha19, h⟩ := b2 h
 refine AWP.drawI mixed Z ?_
 refine g7.consF Z (fun E => AOps.n Z Z Z Z (.nil ⟨Z, Z⟩)) Z (.consF Z (fun E => AOps.n Z Z Z Z (.nil ⟨Z, Z⟩)) Z (.consF Z (fun E => AOps.a Z Z (.nil ⟨Z, Z⟩)) Z (.consF Z (fun E => AOps.k Z Z Z Z (H3 ha18) Z (.nil ⟨Z, Z⟩)) Z (.consF Z (fun E => S.idx ha19 Z Z Z Z (.nil ⟨Z, Z⟩)) Z (.consF Z (fun E => AOps.n Z Z Z Z (.nil ⟨Z, Z⟩)) Z (.consF Z (fun E => AOps.f Z Z (.nil ⟨Z, Z⟩)) Z ?_))))))
 refine g7.done ?_
 dsimp only [j6]
 refine b5 (.d (.d (.e (W.fieldAddrI Z Z Z Z (.n Z Z Z Z (S.len Z Z (fun hl23 => .a Z Z (.nil (b5 (.m ?_))))))))))
 obtain ⟨oo, ho1, h⟩ := b7 h
 refine AWP.rngS ho1 (fun t2 _ => ⟨[(0, .c (row 1 intI sv)), (1, .c (.imm (.ipt [.sl 1 (List.map intI c2)]))), (2, .c (.imm (.ipt [.sl 1 (List.map d6 c3)]))), (3, .c (.imm (.ipt [.val (.int .i64 c4.facts), .sl 1 (List.map intI c4.init), .sl 1 (List.map intI c4.goal), .sl 3 (List.map l8 c4.operators)]))), (6, .c (int a19)), (23, .c (int (c4.operators.length : Int))), (24, .c (int t2))], []⟩) (fun o e st => match o with | .inl _ => e = .exit 0 ∧ Sub [] st ⟨[], []⟩ | .inr x => e = .ret ∧ Done [.t 5] (fun t _ => t = .c (int x)) .ret st) ?_ ?_ ?_ ?_
 ·try dsimp only
  exact Sub.env ⟨Z, Z, Z, Z, Z, Z, Z, Y⟩
 ·intro t2 s hlot2 hltt2 _
  try dsimp only
  refine AWP.d (.e (.j Z Z Z (.nil (b5 (.d (.q Z hltt2 (.exit (d8 (d8 ⟨Z, ?_⟩)))))))))
  exact Sub.env trivial
 ·intro t2 s o hlot2 hltt2 h
  unfold E4 at h
  try dsimp only at h ⊢
  refine AWP.d (.e (.j Z Z Z (.nil (b5 (.d (.r Z hltt2 (.skip (b5 (.seqF (E1) o (fun () => ⟨[(0, .c (row 1 intI sv)), (1, .c (.imm (.ipt [.sl 1 (List.map intI c2)]))), (2, .c (.imm (.ipt [.sl 1 (List.map d6 c3)]))), (3, .c (.imm (.ipt [.val (.int .i64 c4.facts), .sl 1 (List.map intI c4.init), .sl 1 (List.map intI c4.goal), .sl 3 (List.map l8 c4.operators)]))), (6, .c (int a19)), (23, .c (int (c4.operators.length : Int))), (24, .c (int t2))], []⟩) (fun x h => ?_) ?_)))))))))
  ·unfold E1 at h
   try dsimp only at h ⊢
   refine AWP.e (.add Z Z Z (by omega) (.a Z Z (.nil ?_)))
   obtain rfl := oi h
   refine b5 ⟨_, Z, ?_⟩
   exact Sub.env ⟨Z, Z, Z, Z, Z, Z, Z, Y⟩
  ·refine AWP.m (.d (.e (.a Z Z (.f Z Z (.nil (b5 (.d (.d ?_))))))))
   obtain ⟨a30, ha30, h⟩ := b7 h
   refine AWP.e (W.loadIAgg Z Z Z Z Z (.a Z Z (.a Z Z (.k Z Z Z Z (Y8 ha30) Z (.not Z Z (.nil (b5 (.s Z h (fun hc3 h => ?_) (fun hc3 h => ?_)))))))))
   ·refine AWP.exit (d8 (g8 (b5 ⟨_, h, ?_⟩)))
    exact Sub.env ⟨Z, Z, Z, Z, Z, Z, Z, Y⟩
   ·refine AWP.skip (b5 (.d ?_))
    obtain ⟨a36, ha36, h⟩ := b7 h
    refine AWP.e (W.loadIAgg Z Z Z Z Z (.a Z Z (.a Z Z (.k Z Z Z Z (F0 ha36) Z (.a Z Z (.u Z Z Z (.u Z Z Z (.f Z Z (.f Z Z (.nil (b5 (.d (.e (.f Z Z (.f Z Z (.nil (b5 (.d (.d (.e (.a Z Z (S.len Z Z (fun hl40 => .a Z Z (.nil (b5 (.m ?_))))))))))))))))))))))))))
    obtain ⟨⟨sure4, near5⟩, ho3, h⟩ := b7 h
    try dsimp only at h
    refine AWP.forS ho3 (fun t6 (sure4, near5) => ⟨[(0, .c (row 1 intI sv)), (1, .c (.imm (.ipt [.sl 1 (List.map intI c2)]))), (2, .c (.imm (.ipt [.sl 1 (List.map d6 c3)]))), (3, .c (.imm (.ipt [.val (.int .i64 c4.facts), .sl 1 (List.map intI c4.init), .sl 1 (List.map intI c4.goal), .sl 3 (List.map l8 c4.operators)]))), (6, .c (int a19)), (7, .c (int t2)), (10, .c (bool sure4)), (11, .c (bool near5)), (23, .c (int (c4.operators.length : Int))), (24, .c (int t2)), (39, .c (row 1 d6 a36.1)), (40, .c (int (a36.1.length : Int))), (41, .c (int t6))], []⟩) (fun (sure4, near5) e st => e = .exit 2 ∧ Sub [] st ⟨[(0, .c (row 1 intI sv)), (1, .c (.imm (.ipt [.sl 1 (List.map intI c2)]))), (2, .c (.imm (.ipt [.sl 1 (List.map d6 c3)]))), (3, .c (.imm (.ipt [.val (.int .i64 c4.facts), .sl 1 (List.map intI c4.init), .sl 1 (List.map intI c4.goal), .sl 3 (List.map l8 c4.operators)]))), (6, .c (int a19)), (7, .c (int t2)), (10, .c (bool sure4)), (11, .c (bool near5)), (23, .c (int (c4.operators.length : Int))), (24, .c (int t2))], []⟩) ?_ ?_ ?_ ?_
    ·try dsimp only
     exact Sub.env ⟨Z, Z, Z, Z, Z, Z, Z, Z, Z, Z, Z, Z, Z, Y⟩
    ·intro t6 s hlot6 hltt6 _
     obtain ⟨sure4, near5⟩ := s
     try dsimp only
     refine AWP.d (.e (.j Z Z Z (.nil (b5 (.d (.q Z hltt6 (.exit (d8 (d8 ⟨Z, ?_⟩)))))))))
     exact Sub.env ⟨Z, Z, Z, Z, Z, Z, Z, Z, Z, Z, Y⟩
    ·intro t6 s o hlot6 hltt6 h
     obtain ⟨sure4, near5⟩ := s
     unfold K2 at h
     try dsimp only at h ⊢
     refine AWP.d (.e (.j Z Z Z (.nil (b5 (.d (.r Z hltt6 (.skip (b5 ?_))))))))
     obtain ⟨⟨sure7, near8⟩, hx9, h⟩ := b7 h
     refine AWP.seqJ (⟨[(0, .c (row 1 intI sv)), (1, .c (.imm (.ipt [.sl 1 (List.map intI c2)]))), (2, .c (.imm (.ipt [.sl 1 (List.map d6 c3)]))), (3, .c (.imm (.ipt [.val (.int .i64 c4.facts), .sl 1 (List.map intI c4.init), .sl 1 (List.map intI c4.goal), .sl 3 (List.map l8 c4.operators)]))), (6, .c (int a19)), (7, .c (int t2)), (10, .c (bool sure7)), (11, .c (bool near8)), (23, .c (int (c4.operators.length : Int))), (24, .c (int t2)), (39, .c (row 1 d6 a36.1)), (40, .c (int (a36.1.length : Int))), (41, .c (int t6))], []⟩) ?_ ?_
     ·refine AWP.m (.d ?_)
      obtain ⟨a43, ha43, hx9⟩ := b7 hx9
      refine AWP.e (S.idx ha43 Z Z Z Z (.n Z Z Z Z (.f Z Z (.nil (b5 (.d ?_))))))
      obtain ⟨a48, ha48, a49, ha49, hx9⟩ := b2 hx9
      refine AWP.drawI mixed Z ?_
      refine g7.consF Z (fun E => AOps.n Z Z Z Z (.nil ⟨Z, Z⟩)) Z (.consF Z (fun E => AOps.n Z Z Z Z (.nil ⟨Z, Z⟩)) Z (.consF Z (fun E => AOps.a Z Z (.nil ⟨Z, Z⟩)) Z (.consF Z (fun E => AOps.k Z Z Z Z (H3 ha48) Z (.nil ⟨Z, Z⟩)) Z (.consF Z (fun E => S.idx ha49 Z Z Z Z (.nil ⟨Z, Z⟩)) Z (.consF Z (fun E => AOps.n Z Z Z Z (.nil ⟨Z, Z⟩)) Z (.consF Z (fun E => AOps.f Z Z (.nil ⟨Z, Z⟩)) Z ?_))))))
      refine g7.done ?_
      dsimp only [j6]
      refine b5 ?_
      rcases bft (sure4) with hb10 | hb10
      ·replace hx9 := B7 hb10 hx9
       rcases bft (near5) with hb11 | hb11
       ·replace hx9 := B7 hb11 hx9
        refine AWP.e (.a Z Z (.a Z Z (.g Z Z Z hb10 (.a Z Z (.g Z Z Z hb10 (.geq Z Z Z (.p Z hb10 Z Z (.a Z Z (.a Z Z (.i Z Z Z hb11 (.i Z Z Z hb11 (.i Z Z Z hb11 (.i Z Z Z hb11 (.p Z hb11 Z Z (.f Z Z (.f Z Z (.nil (d7 ?_))))))))))))))))))
        obtain ⟨ej0, ej1⟩ := o2 hx9
        subst ej0 ej1
        refine b5 (Sub.env ⟨Z, Z, Z, Z, Z, Z, Z, Z, Z, Z, Z, Z, Z, Y⟩)
       ·replace hx9 := B5 hb11 hx9
        refine AWP.e (.a Z Z (.a Z Z (.g Z Z Z hb10 (.a Z Z (.g Z Z Z hb10 (.geq Z Z Z (.p Z hb10 Z Z (.a Z Z (.a Z Z (.g Z Z Z hb11 (.a Z Z (.g Z Z Z hb11 (.a Z Z (.g Z Z Z hb11 (S.sub Z Z Z (.g Z Z Z hb11 (.eql Z Z Z (.o Z hb11 Z Z (.f Z Z (.f Z Z (.nil (d7 ?_))))))))))))))))))))))
        obtain ⟨ej0, ej1⟩ := o2 hx9
        subst ej0 ej1
        refine b5 (Sub.env ⟨Z, Z, Z, Z, Z, Z, Z, Z, Z, Z, Z, Z, Z, Y⟩)
      ·replace hx9 := B5 hb10 hx9
       rcases bft (near5) with hb12 | hb12
       ·replace hx9 := B7 hb12 hx9
        refine AWP.e (.a Z Z (.a Z Z (.i Z Z Z hb10 (.i Z Z Z hb10 (.o Z hb10 Z Z (.a Z Z (.a Z Z (.i Z Z Z hb12 (.i Z Z Z hb12 (.i Z Z Z hb12 (.i Z Z Z hb12 (.p Z hb12 Z Z (.f Z Z (.f Z Z (.nil (d7 ?_))))))))))))))))
        obtain ⟨ej0, ej1⟩ := o2 hx9
        subst ej0 ej1
        refine b5 (Sub.env ⟨Z, Z, Z, Z, Z, Z, Z, Z, Z, Z, Z, Z, Z, Y⟩)
       ·replace hx9 := B5 hb12 hx9
        refine AWP.e (.a Z Z (.a Z Z (.i Z Z Z hb10 (.i Z Z Z hb10 (.o Z hb10 Z Z (.a Z Z (.a Z Z (.g Z Z Z hb12 (.a Z Z (.g Z Z Z hb12 (.a Z Z (.g Z Z Z hb12 (S.sub Z Z Z (.g Z Z Z hb12 (.eql Z Z Z (.o Z hb12 Z Z (.f Z Z (.f Z Z (.nil (d7 ?_))))))))))))))))))))
        obtain ⟨ej0, ej1⟩ := o2 hx9
        subst ej0 ej1
        refine b5 (Sub.env ⟨Z, Z, Z, Z, Z, Z, Z, Z, Z, Z, Z, Z, Z, Y⟩)
     ·try dsimp only at h
      refine AWP.e (.add Z Z Z (by omega) (.a Z Z (.nil ?_)))
      obtain rfl := oi h
      refine b5 (Sub.env ⟨Z, Z, Z, Z, Z, Z, Z, Z, Z, Z, Z, Z, Z, Y⟩)
    ·intro e s hq
     obtain ⟨rfl, hs⟩ := hq
     refine ⟨_, hs, ?_⟩
     refine g8 (b5 (.seqJ (⟨[(0, .c (row 1 intI sv)), (1, .c (.imm (.ipt [.sl 1 (List.map intI c2)]))), (2, .c (.imm (.ipt [.sl 1 (List.map d6 c3)]))), (3, .c (.imm (.ipt [.val (.int .i64 c4.facts), .sl 1 (List.map intI c4.init), .sl 1 (List.map intI c4.goal), .sl 3 (List.map l8 c4.operators)]))), (6, .c (int a19)), (7, .c (int t2)), (23, .c (int (c4.operators.length : Int))), (24, .c (int t2)), (67, .c (bool (sure4 && near5)))], []⟩) ?_ ?_))
     ·rcases bft (sure4) with hb1 | hb1
      ·refine AWP.e (.a Z Z (.a Z Z (.g Z Z Z hb1 (.a Z Z (.p Z hb1 Z Z (.nil (b5 ?_)))))))
       simp only [and_t hb1, or_t hb1, Bool.false_or, Bool.true_or, Bool.false_and, Bool.true_and]
       exact Sub.env ⟨Z, Z, Z, Z, Z, Z, Z, Z, Z, Y⟩
      ·refine AWP.e (.a Z Z (.a Z Z (.i Z Z Z hb1 (.o Z hb1 Z Z (.nil (b5 ?_))))))
       simp only [and_f hb1, or_f hb1, Bool.false_or, Bool.true_or, Bool.false_and, Bool.true_and]
       exact Sub.env ⟨Z, Z, Z, Z, Z, Z, Z, Z, Z, Y⟩
     ·refine AWP.s Z h (fun hc13 h => ?_) (fun hc13 h => ?_)
      ·refine AWP.d (.e (.a Z Z (.f Z Z (.nil (b5 (.ret (h9 (e8 ?_))))))))
       obtain rfl := oi h
       refine e8 ⟨_, Z, Z, ?_⟩
       exact Done.ret Z Z
      ·refine AWP.skip (d7 (b5 ⟨_, h, ?_⟩))
       exact Sub.env ⟨Z, Z, Z, Z, Z, Z, Z, Y⟩
 ·intro e s hq
  rcases oo with u | x
  ·try dsimp only at h hq
   obtain ⟨rfl, hs⟩ := hq
   refine ⟨_, hs, ?_⟩
   refine g8 (b5 (.d (.e (.f Z Z (.nil (b5 (.ret ?_)))))))
   obtain rfl := oi h
   exact Done.ret Z Z
  ·try dsimp only at h hq
   obtain ⟨rfl, hs⟩ := hq
   refine ⟨_, Sub.refl _ _, ?_⟩
   refine h9 (e8 ?_)
   obtain rfl := oi h
   exact hs
theorem ak8 {ov : b8} {r : (List d9) × Bool × l6} (h : A7 ov = some r) : e9 Tryz.prog 21 [.agg (tO ov)] (.tup [.c (row 2 f9 r.1), .c (bool r.2.1), .agg [int r.2.2.code, int r.2.2.index]]) := by
 unfold e9
 refine FnOk.enter (rs := [.t 2, .t 3, .cell 4 28 2]) Tryz.func21 Z Tryz.ntmps21 Tryz.results21 Z ⟨trivial, trivial, rv _ Z, Y⟩ (by kernel_rfl) Z ?_
 unfold A7 at h
 refine AWP.d (.e (W.box Z Z Z Z Z Z (.f Z Z (.f Z Z (W.alloc Z Z Z Z (.nil (b5 (.d ?_))))))))
 obtain ⟨a12, ha12, h⟩ := b7 h
 refine AWP.e (W.loadAgg Z Z Z Z Z Z Z (.k Z Z Z Z (open_Explore_ok ha12) Z (.a Z Z (.u Z Z Z (.u Z Z Z (W.alloc Z Z Z Z (W.alloc Z Z Z Z (W.store Z Z Z Z Z (W.storeAgg Z Z Z Z Z Z Z (.nil (b5 (.d (.d (.e (W.loadAgg Z Z Z Z Z Z Z (W.build Z Z Z Z (.neqP Z Z Z Z Z Z Z (.nil (b5 (.s Z h (fun hc2 h => ?_) (fun hc2 h => ?_)))))))))))))))))))))
 ·refine AWP.d (.drawEI [3] mixed Z Z Z ?_)
  refine i6.consN Z Z (fun E => W.loadAgg Z Z Z Z Z Z Z (.nil ⟨Z, Z⟩)) Z (.consN Z Z (fun E => AOps.f Z Z (.nil ⟨Z, Z⟩)) Z (.consN Z Z (fun E => AOps.f Z Z (.nil ⟨Z, Z⟩)) Z ?_))
  apply i6.consE (v := .undef); exact Z; exact Z; intro E
  refine W.storeAgg Z Z Z Z Z Z Z (.nil ⟨Z, Z⟩)
  exact Z
  exact Z
  refine i6.done Z ?_ ?_
  ·refine g9.cons Z Z ?_ ?_
   refine b9.go Z Z (fun E => W.loadAgg Z Z Z Z Z Z Z (AOps.nil ⟨Z, Z⟩)) ?_
   refine b9.skip Z (b9.nil)
   refine g9.cons Z Z ?_ ?_
   refine b9.go Z Z (fun E => AOps.f Z Z (AOps.nil ⟨Z, Z⟩)) ?_
   refine b9.skip Z (b9.nil)
   refine g9.cons Z Z ?_ ?_
   refine b9.go Z Z (fun E => AOps.f Z Z (AOps.nil ⟨Z, Z⟩)) ?_
   refine b9.skip Z (b9.nil)
   refine g9.skip Z (g9.nil)
  dsimp only [j6]
  refine b5 (.nilrow 2 2 Z (.ret (e8 ?_)))
  obtain rfl := oi h
  exact Done.ret Z Z
 ·refine AWP.skip (b5 (.d ?_))
  obtain ⟨a21, ha21, h⟩ := b7 h
  refine AWP.e (W.loadAgg Z Z Z Z Z Z Z (.l Z Z Z Z Z Z (S.fresh Z Z Z Z (ai2 ha21) Z Z (W.alloc Z Z Z Z (W.store Z Z Z Z Z (.nil (b5 (.d (.d ?_)))))))))
  obtain ⟨a26, ha26, a27, ha27, h⟩ := b2 h
  refine AWP.drawI mixed Z ?_
  refine g7.consF Z (fun E => AOps.l Z Z Z Z Z Z (.nil ⟨Z, Z⟩)) Z (.consF Z (fun E => AOps.l Z Z Z Z Z Z (.nil ⟨Z, Z⟩)) Z (.consF Z (fun E => W.fieldAddr Z Z Z Z (.nil ⟨Z, Z⟩)) Z (.consF Z (fun E => AOps.l Z Z Z Z Z Z (.nil ⟨Z, Z⟩)) Z (.consF Z (fun E => AOps.k Z Z Z Z (H3 ha26) Z (.nil ⟨Z, Z⟩)) Z (.consF Z (fun E => S.idxO ha27 Z Z Z Z Z (.nil ⟨Z, Z⟩)) Z (.consF Z (fun E => S.loadO ha27 Z Z Z Z Z (.nil ⟨Z, Z⟩)) Z (.consF Z (fun E => AOps.j Z Z Z (.nil ⟨Z, Z⟩)) Z ?_)))))))
  refine g7.done ?_
  dsimp only [j6]
  refine b5 (.ite Z h (fun hc3 h => ?_) (fun hc3 h => ?_))
  ·refine AWP.d (.e (W.build Z Z Z Z (.f Z Z (.f Z Z (W.storeAgg Z Z Z Z Z Z Z (.nil (b5 (.nilrow 2 2 Z (.ret (e8 ?_))))))))))
   obtain rfl := oi h
   exact Done.ret Z Z
  ·refine AWP.skip (b5 (.d ?_))
   obtain ⟨a34, ha34, h⟩ := b7 h
   refine AWP.e (W.loadAgg Z Z Z Z Z Z Z (.makeFunc Z Z ?_))
   refine AOps.frzV (id := 4) (l := a21) (env2 := [(4, .c (.ptr 1 0 0)), (32, .agg (tO ov)), (33, .c (.fn 59 [.ptr 5 0 0, .ptr 2 0 0, .ptr 0 0 0]))]) (σ2 := [.one (.cells 4 [(tO ov)]), .one (.cells 2 [[int 0, int 0]]), .one (.cells 1 [[row 1 d6 a12.1]]), .one (.cells 2 [[int a12.2.code, int a12.2.index]]), .dead, .one (.cells 1 [[row 1 intI a21]])]) Z Z (by exact ⟨⟨_, Z, .inl ⟨Z, Z⟩⟩, ⟨_, Z, ⟨.inl ⟨Z, Z⟩, .inl ⟨Z, Z⟩, .inl ⟨Z, Z⟩, .inl ⟨Z, Z⟩, Y⟩⟩, ⟨_, Z, .inl ⟨Z, Z⟩⟩, Y⟩) Z (by exact ⟨⟨Z, .inl ⟨Z, Z⟩, .inl ⟨Z, Z⟩, .inl ⟨Z, Z⟩, .inl ⟨Z, Z⟩, Y⟩, ⟨Z, .inl ⟨Z, Z⟩, .inl ⟨Z, Z⟩, Y⟩, ⟨Z, .inl ⟨Z, Z⟩, Y⟩, ⟨Z, .inl ⟨Z, Z⟩, .inl ⟨Z, Z⟩, Y⟩, trivial, ⟨Z, .inr ⟨_, Z, Z, Z⟩, Y⟩, Y⟩) ?_; refine AOps.frzB (id := 5) (e := [.sl 1 (List.map intI a21)]) (env2 := [(4, .c (.ptr 1 0 0)), (32, .agg (tO ov)), (33, .c (.fn 59 [.imm (.ipt [.sl 1 (List.map intI a21)]), .ptr 2 0 0, .ptr 0 0 0]))]) (σ2 := [.one (.cells 4 [(tO ov)]), .one (.cells 2 [[int 0, int 0]]), .one (.cells 1 [[row 1 d6 a12.1]]), .one (.cells 2 [[int a12.2.code, int a12.2.index]]), .dead, .dead]) Z Z (by exact ⟨⟨_, Z, .inl ⟨Z, Z⟩⟩, ⟨_, Z, ⟨.inl ⟨Z, Z⟩, .inl ⟨Z, Z⟩, .inl ⟨Z, Z⟩, .inl ⟨Z, Z⟩, Y⟩⟩, ⟨_, Z, .inr Z⟩, Y⟩) Z (by exact ⟨⟨Z, .inl ⟨Z, Z⟩, .inl ⟨Z, Z⟩, .inl ⟨Z, Z⟩, .inl ⟨Z, Z⟩, Y⟩, ⟨Z, .inl ⟨Z, Z⟩, .inl ⟨Z, Z⟩, Y⟩, ⟨Z, .inl ⟨Z, Z⟩, Y⟩, ⟨Z, .inl ⟨Z, Z⟩, .inl ⟨Z, Z⟩, Y⟩, trivial, trivial, Y⟩) ?_; refine AOps.frzB (id := 2) (e := [.sl 1 (List.map d6 a12.1)]) (env2 := [(4, .c (.ptr 1 0 0)), (32, .agg (tO ov)), (33, .c (.fn 59 [.imm (.ipt [.sl 1 (List.map intI a21)]), .imm (.ipt [.sl 1 (List.map d6 a12.1)]), .ptr 0 0 0]))]) (σ2 := [.one (.cells 4 [(tO ov)]), .one (.cells 2 [[int 0, int 0]]), .dead, .one (.cells 2 [[int a12.2.code, int a12.2.index]]), .dead, .dead]) Z Z (by exact ⟨⟨_, Z, .inl ⟨Z, Z⟩⟩, ⟨_, Z, ⟨.inl ⟨Z, Z⟩, .inl ⟨Z, Z⟩, .inl ⟨Z, Z⟩, .inl ⟨Z, Z⟩, Y⟩⟩, ⟨_, Z, .inr Z⟩, Y⟩) Z (by exact ⟨⟨Z, .inl ⟨Z, Z⟩, .inl ⟨Z, Z⟩, .inl ⟨Z, Z⟩, .inl ⟨Z, Z⟩, Y⟩, ⟨Z, .inl ⟨Z, Z⟩, .inl ⟨Z, Z⟩, Y⟩, trivial, ⟨Z, .inl ⟨Z, Z⟩, .inl ⟨Z, Z⟩, Y⟩, trivial, trivial, Y⟩) ?_; refine AOps.frzB (id := 0) (e := [.val (.int .i64 ov.facts), .sl 1 (List.map intI ov.init), .sl 1 (List.map intI ov.goal), .sl 3 (List.map l8 ov.operators)]) (env2 := [(4, .c (.ptr 1 0 0)), (32, .agg (tO ov)), (33, .c (.fn 59 [.imm (.ipt [.sl 1 (List.map intI a21)]), .imm (.ipt [.sl 1 (List.map d6 a12.1)]), .imm (.ipt [.val (.int .i64 ov.facts), .sl 1 (List.map intI ov.init), .sl 1 (List.map intI ov.goal), .sl 3 (List.map l8 ov.operators)])]))]) (σ2 := [.dead, .one (.cells 2 [[int 0, int 0]]), .dead, .one (.cells 2 [[int a12.2.code, int a12.2.index]]), .dead, .dead]) Z Z (by exact ⟨⟨_, Z, .inl ⟨Z, Z⟩⟩, ⟨_, Z, ⟨.inl ⟨Z, Z⟩, .inl ⟨Z, Z⟩, .inl ⟨Z, Z⟩, .inl ⟨Z, Z⟩, Y⟩⟩, ⟨_, Z, .inr Z⟩, Y⟩) Z (by exact ⟨trivial, ⟨Z, .inl ⟨Z, Z⟩, .inl ⟨Z, Z⟩, Y⟩, trivial, ⟨Z, .inl ⟨Z, Z⟩, .inl ⟨Z, Z⟩, Y⟩, trivial, trivial, Y⟩) ?_; refine AOps.k Z Z Z Z (strong_Build_ok Z (fun hy => aj2 hy) ha34) Z ?_
   refine AOps.a Z Z (.u Z Z Z (.u Z Z Z (.f Z Z (.f Z Z (.nil (b5 (.d (.d (.e (.a Z Z (.not Z Z (.nil (b5 (.s Z h (fun hc4 h => ?_) (fun hc4 h => ?_)))))))))))))))
   ·refine AWP.d (.e (W.build Z Z Z Z (.f Z Z (.f Z Z (W.storeAgg Z Z Z Z Z Z Z (.nil (b5 (.nilrow 2 2 Z (.ret (e8 ?_))))))))))
    obtain rfl := oi h
    exact Done.ret Z Z
   ·refine AWP.skip (b5 (.d (.e (.a Z Z (W.build Z Z Z Z (.f Z Z (.f Z Z (W.storeAgg Z Z Z Z Z Z Z (.nil (b5 (.ret ?_)))))))))))
    obtain rfl := oi h
    exact Done.ret Z Z
theorem ai8 {r : b8} (h : aa6 = some r) : e9 Tryz.prog 62 [] (.agg (tO r)) := by
 unfold e9
 refine FnOk.enter (rs := [.cell 0 25 4]) Tryz.func62 Z Tryz.ntmps62 Tryz.results62 Z ⟨rv _ Z, Y⟩ (by kernel_rfl) Z ?_
 unfold aa6 at h
 refine AWP.d (.e (W.alloc Z Z Z Z (.nil (b5 (.d (.e (S.lit (f := intI) (l := [0]) (ess := [[int 0]]) Z Z Z Z Z Z Z ⟨⟨.inl Z, Y⟩, Y⟩ Z Z Z (S.lit (f := intI) (l := [0]) (ess := [[int 0]]) Z Z Z Z Z Z Z ⟨⟨.inl Z, Y⟩, Y⟩ Z Z Z (W.build Z Z Z Z (W.build Z Z Z Z (.frzV (id := 2) (l := [0]) (env2 := [(0, .c (.ptr 0 0 0)), (1, .c (.own 1 0 ([0].length))), (3, .agg [row 1 intI [0], .imm (.val (.slice none 0 0)), int 1]), (4, .agg [.imm (.val (.slice none 0 0)), .imm (.val (.slice none 0 0)), int 2])]) (σ2 := [.one (.cells 4 [[int 0, .imm (.val (.slice none 0 0)), .imm (.val (.slice none 0 0)), .imm (.val (.slice none 0 0))]]), .one (vec 1 intI [0]), .dead]) Z Z (by exact ⟨⟨_, Z, .inl ⟨Z, Z⟩⟩, ⟨_, Z, .inl ⟨Z, Z⟩⟩, ⟨_, Z, ⟨.inr ⟨_, Z, Z, Z⟩, .inl ⟨Z, Z⟩, .inl ⟨Z, Z⟩, Y⟩⟩, ⟨_, Z, ⟨.inl ⟨Z, Z⟩, .inl ⟨Z, Z⟩, .inl ⟨Z, Z⟩, Y⟩⟩, Y⟩) Z (by exact ⟨⟨Z, .inl ⟨Z, Z⟩, .inl ⟨Z, Z⟩, .inl ⟨Z, Z⟩, .inl ⟨Z, Z⟩, Y⟩, FrzB.vec, trivial, Y⟩) (S.lit (f := n8) (l := [(⟨[0], [], 1⟩ : j7), (⟨[], [], 2⟩ : j7)]) (ess := [[row 1 intI [0], .imm (.val (.slice none 0 0)), int 1], [.imm (.val (.slice none 0 0)), .imm (.val (.slice none 0 0)), int 2]]) Z Z Z Z Z Z Z ⟨⟨.inl Z, .inr ⟨Z, _, Z⟩, .inl Z, Y⟩, ⟨.inr ⟨Z, _, Z⟩, .inr ⟨Z, _, Z⟩, .inl Z, Y⟩, Y⟩ Z Z Z (W.build Z Z Z Z (.frzV (id := 3) (l := [(⟨[0], [], 1⟩ : j7), (⟨[], [], 2⟩ : j7)]) (env2 := [(0, .c (.ptr 0 0 0)), (1, .c (.own 1 0 ([0].length))), (6, .agg [.imm (.val (.slice none 0 0)), row 3 n8 ([(⟨[0], [], 1⟩ : j7), (⟨[], [], 2⟩ : j7)]), int 1])]) (σ2 := [.one (.cells 4 [[int 0, .imm (.val (.slice none 0 0)), .imm (.val (.slice none 0 0)), .imm (.val (.slice none 0 0))]]), .one (vec 1 intI [0]), .dead, .dead]) Z Z (by exact ⟨⟨_, Z, .inl ⟨Z, Z⟩⟩, ⟨_, Z, .inl ⟨Z, Z⟩⟩, ⟨_, Z, ⟨.inl ⟨Z, Z⟩, .inr ⟨_, Z, Z, Z⟩, .inl ⟨Z, Z⟩, Y⟩⟩, Y⟩) Z (by exact ⟨⟨Z, .inl ⟨Z, Z⟩, .inl ⟨Z, Z⟩, .inl ⟨Z, Z⟩, .inl ⟨Z, Z⟩, Y⟩, FrzB.vec, trivial, trivial, Y⟩) (S.lit (f := l8) (l := [(⟨[], [(⟨[0], [], 1⟩ : j7), (⟨[], [], 2⟩ : j7)], 1⟩ : i8)]) (ess := [[.imm (.val (.slice none 0 0)), row 3 n8 ([(⟨[0], [], 1⟩ : j7), (⟨[], [], 2⟩ : j7)]), int 1]]) Z Z Z Z Z Z Z ⟨⟨.inr ⟨Z, _, Z⟩, .inl Z, .inl Z, Y⟩, Y⟩ Z Z Z (W.build Z Z Z Z (W.storeAgg Z Z Z Z Z Z Z (.nil (b5 (.frzV (id := 1) (l := [0]) (env2 := [(0, .c (.ptr 0 0 0))]) (σ2 := [.one (.cells 4 [[int 1, .imm (.val (.slice none 0 0)), row 1 intI [0], .own 4 0 (([(⟨[], [(⟨[0], [], 1⟩ : j7), (⟨[], [], 2⟩ : j7)], 1⟩ : i8)]).length)]]), .dead, .dead, .dead, .one (vec 3 l8 ([(⟨[], [(⟨[0], [], 1⟩ : j7), (⟨[], [], 2⟩ : j7)], 1⟩ : i8)]))]) Z Z (by exact ⟨⟨_, Z, .inl ⟨Z, Z⟩⟩, Y⟩) Z (by exact ⟨⟨Z, .inl ⟨Z, Z⟩, .inl ⟨Z, Z⟩, .inr ⟨_, Z, Z, Z⟩, .inl ⟨Z, Z⟩, Y⟩, trivial, trivial, trivial, FrzB.vec, Y⟩) (.frzV (id := 4) (l := [(⟨[], [(⟨[0], [], 1⟩ : j7), (⟨[], [], 2⟩ : j7)], 1⟩ : i8)]) (env2 := [(0, .c (.ptr 0 0 0))]) (σ2 := [.one (.cells 4 [[int 1, .imm (.val (.slice none 0 0)), row 1 intI [0], row 3 l8 ([(⟨[], [(⟨[0], [], 1⟩ : j7), (⟨[], [], 2⟩ : j7)], 1⟩ : i8)])]]), .dead, .dead, .dead, .dead]) Z Z (by exact ⟨⟨_, Z, .inl ⟨Z, Z⟩⟩, Y⟩) Z (by exact ⟨⟨Z, .inl ⟨Z, Z⟩, .inl ⟨Z, Z⟩, .inl ⟨Z, Z⟩, .inr ⟨_, Z, Z, Z⟩, Y⟩, trivial, trivial, trivial, trivial, Y⟩) (.nilB (b := 0) [int 1, row 1 intI [], row 1 intI [0], row 3 l8 ([(⟨[], [(⟨[0], [], 1⟩ : j7), (⟨[], [], 2⟩ : j7)], 1⟩ : i8)])] Z (by exact ⟨.inl Z, .inr ⟨Z, _, Z⟩, .inl Z, .inl Z, Y⟩) Z Z (.ret ?_)))))))))))))))))))))))
 obtain rfl := oi h
 exact Done.ret Z Z
theorem cyclic_Holds_ok {ov : b8} {policy : List d9} {r : Bool} (h : Q9 ov policy = some r) : e9 Tryz.prog 65 [.agg (tO ov), .c (row 2 f9 policy)] (.c (bool r)) := by
 unfold e9
 refine FnOk.enter (rs := [.t 4]) Tryz.func65 Z Tryz.ntmps65 Tryz.results65 Z ⟨trivial, Y⟩ (by kernel_rfl) Z ?_
 unfold Q9 at h
 refine AWP.d (.e (W.box Z Z Z Z Z Z (.f Z Z (.nil (b5 (.d ?_))))))
 obtain ⟨a16, ha16, h⟩ := b7 h
 refine AWP.e (W.loadAgg Z Z Z Z Z Z Z (.a Z Z (S.fresh Z Z Z Z (open_Visited_ok ha16) Z Z (.f Z Z (.nil (b5 (.d ?_)))))))
 obtain ⟨a19, ha19, h⟩ := b7 h
 refine AWP.e (.a Z Z (S.lenO Z Z Z (fun hl18 => S.make (f := intI) ha19 (.val .nil) Z Z Z Z Z Z (.f Z Z (.nil (b5 (.d (.d (.e (.a Z Z (S.lenO Z Z Z (fun hl21 => .a Z Z (.nil (b5 (.m ?_)))))))))))))))
 obtain ⟨oo, ho1, h⟩ := b7 h
 refine AWP.rngS ho1 (fun t4 c3 => ⟨[(1, .c (row 2 f9 policy)), (2, .c (.ptr 0 0 0)), (5, .c (.own 1 0 a16.length)), (6, .c (.own 2 0 c3.length)), (21, .c (int (a16.length : Int))), (22, .c (int t4))], [.one (.cells 4 [(tO ov)]), .one (vec 1 d6 a16), .one (vec 1 intI c3)]⟩) (fun o e st => match o with | .inl c3 => e = .exit 0 ∧ Sub [] st ⟨[(6, .c (.own 2 0 c3.length))], [.one (.cells 4 [(tO ov)]), .one (vec 1 d6 a16), .one (vec 1 intI c3)]⟩ | .inr x => e = .ret ∧ Done [.t 4] (fun t _ => t = .c (bool x)) .ret st) ?_ ?_ ?_ ?_
 ·try dsimp only
  exact Sub.env ⟨Z, Z, Z, Z, Z, Z, Y⟩
 ·intro t4 c3 hlot4 hltt4 _
  try dsimp only
  refine AWP.d (.e (.j Z Z Z (.nil (b5 (.d (.q Z hltt4 (.exit (d8 (d8 ⟨Z, ?_⟩)))))))))
  exact Sub.env ⟨Z, Y⟩
 ·intro t4 c3 o hlot4 hltt4 h
  unfold F2 at h
  try dsimp only at h ⊢
  refine AWP.d (.e (.j Z Z Z (.nil (b5 (.d (.r Z hltt4 (.skip (b5 (.d (.m (.d (.e (.a Z Z (S.lenO Z Z Z (fun hl25 => .a Z Z (.nil (b5 (.m ?_))))))))))))))))))
  obtain ⟨oo, ho2, h⟩ := b7 h
  refine AWP.rngS ho2 (fun t6 c5 => ⟨[(1, .c (row 2 f9 policy)), (2, .c (.ptr 0 0 0)), (5, .c (.own 1 0 a16.length)), (6, .c (.own 2 0 c5.length)), (21, .c (int (a16.length : Int))), (22, .c (int t4)), (24, .c (.own 1 0 a16.length)), (25, .c (int (a16.length : Int))), (26, .c (int t6))], [.one (.cells 4 [(tO ov)]), .one (vec 1 d6 a16), .one (vec 1 intI c5)]⟩) (fun o e st => match o with | .inl c5 => e = .exit 2 ∧ Sub [] st ⟨[(1, .c (row 2 f9 policy)), (2, .c (.ptr 0 0 0)), (5, .c (.own 1 0 a16.length)), (6, .c (.own 2 0 c5.length)), (21, .c (int (a16.length : Int))), (22, .c (int t4))], [.one (.cells 4 [(tO ov)]), .one (vec 1 d6 a16), .one (vec 1 intI c5)]⟩ | .inr x => e = .ret ∧ Done [.t 4] (fun t _ => t = .c (bool x)) .ret st) ?_ ?_ ?_ ?_
  ·try dsimp only
   exact Sub.env ⟨Z, Z, Z, Z, Z, Z, Z, Z, Z, Y⟩
  ·intro t6 c5 hlot6 hltt6 _
   try dsimp only
   refine AWP.d (.e (.j Z Z Z (.nil (b5 (.d (.q Z hltt6 (.exit (d8 (d8 ⟨Z, ?_⟩)))))))))
   exact Sub.env ⟨Z, Z, Z, Z, Z, Z, Y⟩
  ·intro t6 c5 o hlot6 hltt6 h
   unfold E9 at h
   try dsimp only at h ⊢
   refine AWP.d (.e (.j Z Z Z (.nil (b5 (.d (.r Z hltt6 (.skip (b5 (.seqF (I8) o (fun c7 => ⟨[(1, .c (row 2 f9 policy)), (2, .c (.ptr 0 0 0)), (5, .c (.own 1 0 a16.length)), (6, .c (.own 2 0 c7.length)), (21, .c (int (a16.length : Int))), (22, .c (int t4)), (24, .c (.own 1 0 a16.length)), (25, .c (int (a16.length : Int))), (26, .c (int t6))], [.one (.cells 4 [(tO ov)]), .one (vec 1 d6 a16), .one (vec 1 intI c7)]⟩) (fun c7 h => ?_) ?_)))))))))
   ·unfold I8 at h
    try dsimp only at h ⊢
    refine AWP.e (.add Z Z Z (by omega) (.a Z Z (.nil ?_)))
    obtain rfl := oi h
    refine b5 ⟨_, Z, ?_⟩
    exact Sub.env ⟨Z, Z, Z, Z, Z, Z, Z, Z, Z, Y⟩
   ·refine AWP.m (.d ?_)
    obtain ⟨a29, ha29, h⟩ := b7 h
    refine AWP.e (.a Z Z (S.idxO ha29 Z Z Z Z Z (S.loadO ha29 Z Z Z Z Z (.f Z Z (.f Z Z (.nil (b5 (.d (.d ?_)))))))))
    obtain ⟨a34, ha34, h⟩ := b7 h
    refine AWP.e (.a Z Z (W.fieldAddr Z Z Z Z (.l Z Z Z Z Z Z (.k Z Z Z Z (B0 ha34) Z (.nil (b5 (.s Z h (fun hc8 h => ?_) (fun hc8 h => ?_))))))))
    ·refine AWP.d ?_
     obtain ⟨a37, ha37, h⟩ := b7 h
     refine AWP.e (.a Z Z (.a Z Z (S.idxO ha37 Z Z Z Z Z (S.storeO1 (f := intI) (a' := 1) (x9 ha37) (fun _ => ⟨_, Z⟩) Z Z Z Z Z ?_))))
     refine AOps.nil (b5 (.exit (d8 (g8 (b5 ⟨_, h, ?_⟩)))))
     exact Sub.env ⟨Z, Z, Z, (F1 (by first | rfl | simp only [List.length_set])), Z, Z, Z, Z, Z, Y⟩
    ·refine AWP.skip (b5 (.d ?_))
     obtain ⟨a40, ha40, h⟩ := b7 h
     refine AWP.e (.a Z Z (.a Z Z (.k Z Z Z Z (Y3 ha40) Z (.f Z Z (.nil (b5 (.d (.d (.e (.a Z Z (.j Z Z Z (.nil (b5 (.ite Z h (fun hc9 h => ?_) (fun hc9 h => ?_)))))))))))))))
     ·refine AWP.d (.e (.f Z Z (.nil (b5 (.ret (e8 (h9 (e8 ?_))))))))
      obtain rfl := oi h
      refine e8 ⟨_, Z, Z, ?_⟩
      exact Done.ret Z Z
     ·refine AWP.skip (b5 (.d ?_))
      obtain ⟨a47, ha47, h⟩ := b7 h
      refine AWP.e (W.loadAgg Z Z Z Z Z Z Z (.a Z Z (.a Z Z (.k Z Z Z Z (F0 ha47) Z (.a Z Z (.u Z Z Z (.u Z Z Z (.f Z Z (.f Z Z (.nil (b5 (.d (.e (.a Z Z (S.len Z Z (fun hl51 => .a Z Z (.nil (b5 (.m ?_)))))))))))))))))))
      obtain ⟨c10, ho4, h⟩ := b7 h
      refine AWP.forS ho4 (fun t11 c10 => ⟨[(1, .c (row 2 f9 policy)), (2, .c (.ptr 0 0 0)), (5, .c (.own 1 0 a16.length)), (6, .c (.own 2 0 c10.length)), (7, .c (int t6)), (21, .c (int (a16.length : Int))), (22, .c (int t4)), (24, .c (.own 1 0 a16.length)), (25, .c (int (a16.length : Int))), (26, .c (int t6)), (50, .c (row 1 d6 a47.1)), (51, .c (int (a47.1.length : Int))), (52, .c (int t11))], [.one (.cells 4 [(tO ov)]), .one (vec 1 d6 a16), .one (vec 1 intI c10)]⟩) (fun c10 e st => e = .exit 4 ∧ Sub [] st ⟨[(1, .c (row 2 f9 policy)), (2, .c (.ptr 0 0 0)), (5, .c (.own 1 0 a16.length)), (6, .c (.own 2 0 c10.length)), (21, .c (int (a16.length : Int))), (22, .c (int t4)), (24, .c (.own 1 0 a16.length)), (25, .c (int (a16.length : Int))), (26, .c (int t6))], [.one (.cells 4 [(tO ov)]), .one (vec 1 d6 a16), .one (vec 1 intI c10)]⟩) ?_ ?_ ?_ ?_
      ·try dsimp only
       exact Sub.env ⟨Z, Z, Z, Z, Z, Z, Z, Z, Z, Z, Z, Z, Z, Y⟩
      ·intro t11 c10 hlot11 hltt11 _
       try dsimp only
       refine AWP.d (.e (.j Z Z Z (.nil (b5 (.d (.q Z hltt11 (.exit (d8 (d8 ⟨Z, ?_⟩)))))))))
       exact Sub.env ⟨Z, Z, Z, Z, Z, Z, Z, Z, Z, Y⟩
      ·intro t11 c10 o hlot11 hltt11 h
       unfold P2 at h
       try dsimp only at h ⊢
       refine AWP.d (.e (.j Z Z Z (.nil (b5 (.d (.r Z hltt11 (.skip (b5 (.d (.m (.d ?_)))))))))))
       obtain ⟨a54, ha54, h⟩ := b7 h
       refine AWP.e (S.idx ha54 Z Z Z Z (.n Z Z Z Z (.f Z Z (.nil (b5 ?_)))))
       obtain ⟨a60, ha60, a65, ha65, a66, ha66, h⟩ := b3 h
       obtain ⟨a69, ha69, h⟩ := b7 h
       refine AWP.drawEI [14] mixed Z Z Z ?_
       refine i6.consN Z Z (fun E => AOps.a Z Z (.nil ⟨Z, Z⟩)) Z (.consN Z Z (fun E => AOps.a Z Z (.nil ⟨Z, Z⟩)) Z (.consN Z Z (fun E => AOps.a Z Z (.nil ⟨Z, Z⟩)) Z (.consN Z Z (fun E => AOps.a Z Z (.nil ⟨Z, Z⟩)) Z (.consN Z Z (fun E => S.idxO ha60 Z Z Z Z Z (.nil ⟨Z, Z⟩)) Z (.consN Z Z (fun E => S.loadO ha60 Z Z Z Z Z (.nil ⟨Z, Z⟩)) Z (.consN Z Z (fun E => AOps.a Z Z (.nil ⟨Z, Z⟩)) Z (.consN Z Z (fun E => AOps.a Z Z (.nil ⟨Z, Z⟩)) Z (.consN Z Z (fun E => AOps.a Z Z (.nil ⟨Z, Z⟩)) Z (.consN Z Z (fun E => AOps.callL Z Z (.cons (.c (.own Z Z)) (.cons (.c .imm) .nil)) Z (H3 ha65) Z (.nil ⟨Z, Z⟩)) Z (.consN Z Z (fun E => S.idxO ha66 Z Z Z Z Z (.nil ⟨Z, Z⟩)) Z (.consN Z Z (fun E => S.loadO ha66 Z Z Z Z Z (.nil ⟨Z, Z⟩)) Z (.consN Z Z (fun E => AOps.max2 Z Z Z (.nil ⟨Z, Z⟩)) Z (.consN Z Z (fun E => S.idxO ha69 Z Z Z Z Z (.nil ⟨Z, Z⟩)) Z ?_)))))))))))))
       apply i6.consE (v := .undef); exact Z; exact Z; intro E
       refine S.storeO1 (f := intI) (a' := max a60 a66) (x9 ha69) (fun _ => ⟨_, Z⟩) Z Z Z Z Z ?_
       exact AOps.nil ⟨Z, Z⟩
       exact Z
       exact Z
       refine i6.done Z ?_ ?_
       ·refine g9.cons Z Z ?_ ?_
        refine b9.go Z Z (fun E => AOps.a Z Z (AOps.nil ⟨Z, Z⟩)) ?_
        refine b9.skip Z (b9.nil)
        refine g9.cons Z Z ?_ ?_
        refine b9.go Z Z (fun E => AOps.a Z Z (AOps.nil ⟨Z, Z⟩)) ?_
        refine b9.skip Z (b9.nil)
        refine g9.cons Z Z ?_ ?_
        refine b9.go Z Z (fun E => AOps.a Z Z (AOps.nil ⟨Z, Z⟩)) ?_
        refine b9.skip Z (b9.nil)
        refine g9.cons Z Z ?_ ?_
        refine b9.go Z Z (fun E => AOps.a Z Z (AOps.nil ⟨Z, Z⟩)) ?_
        refine b9.skip Z (b9.nil)
        refine g9.cons Z Z ?_ ?_
        refine b9.go Z Z (fun E => S.idxO ha60 Z Z Z Z Z (AOps.nil ⟨Z, Z⟩)) ?_
        refine b9.skip Z (b9.nil)
        refine g9.cons Z Z ?_ ?_
        refine b9.go Z Z (fun E => S.loadO ha60 Z Z Z Z Z (AOps.nil ⟨Z, Z⟩)) ?_
        refine b9.skip Z (b9.nil)
        refine g9.cons Z Z ?_ ?_
        refine b9.go Z Z (fun E => AOps.a Z Z (AOps.nil ⟨Z, Z⟩)) ?_
        refine b9.skip Z (b9.nil)
        refine g9.cons Z Z ?_ ?_
        refine b9.go Z Z (fun E => AOps.a Z Z (AOps.nil ⟨Z, Z⟩)) ?_
        refine b9.skip Z (b9.nil)
        refine g9.cons Z Z ?_ ?_
        refine b9.go Z Z (fun E => AOps.a Z Z (AOps.nil ⟨Z, Z⟩)) ?_
        refine b9.skip Z (b9.nil)
        refine g9.cons Z Z ?_ ?_
        refine b9.go Z Z (fun E => AOps.callL Z Z (.cons (.c (.own Z Z)) (.cons (.c .imm) .nil)) Z (H3 ha65) Z (AOps.nil ⟨Z, Z⟩)) ?_
        refine b9.skip Z (b9.nil)
        refine g9.cons Z Z ?_ ?_
        refine b9.go Z Z (fun E => S.idxO ha66 Z Z Z Z Z (AOps.nil ⟨Z, Z⟩)) ?_
        refine b9.skip Z (b9.nil)
        refine g9.cons Z Z ?_ ?_
        refine b9.go Z Z (fun E => S.loadO ha66 Z Z Z Z Z (AOps.nil ⟨Z, Z⟩)) ?_
        refine b9.skip Z (b9.nil)
        refine g9.cons Z Z ?_ ?_
        refine b9.go Z Z (fun E => AOps.max2 Z Z Z (AOps.nil ⟨Z, Z⟩)) ?_
        refine b9.skip Z (b9.nil)
        refine g9.cons Z Z ?_ ?_
        refine b9.go Z Z (fun E => S.idxO ha69 Z Z Z Z Z (AOps.nil ⟨Z, Z⟩)) ?_
        refine b9.skip Z (b9.nil)
        refine g9.skip Z (g9.nil)
       dsimp only [j6]
       refine d7 (b5 (.e (.add Z Z Z (by omega) (.a Z Z (.nil ?_)))))
       obtain rfl := oi h
       refine b5 (Sub.env ⟨Z, Z, Z, (F1 (by first | rfl | simp only [List.length_set])), Z, Z, Z, Z, Z, Z, Z, Z, Z, Y⟩)
      ·intro e s hq
       obtain ⟨rfl, hs⟩ := hq
       refine ⟨_, hs, ?_⟩
       refine g8 (d7 (b5 ⟨_, h, ?_⟩))
       exact Sub.env ⟨Z, Z, Z, Z, Z, Z, Z, Z, Z, Y⟩
  ·intro e s hq
   rcases oo with c5 | x
   ·try dsimp only at h hq
    obtain ⟨rfl, hs⟩ := hq
    refine ⟨_, hs, ?_⟩
    refine g8 (d7 (b5 (.e (.add Z Z Z (by omega) (.a Z Z (.nil ?_))))))
    obtain rfl := oi h
    refine b5 ⟨_, Z, ?_⟩
    exact Sub.env ⟨Z, Z, Z, Z, Z, Z, Y⟩
   ·try dsimp only at h hq
    obtain ⟨rfl, hs⟩ := hq
    refine ⟨_, Sub.refl _ _, ?_⟩
    refine h9 (h9 (e8 ?_))
    obtain rfl := oi h
    refine e8 ⟨_, Z, Z, ?_⟩
    exact hs
 ·intro e s hq
  rcases oo with c3 | x
  ·try dsimp only at h hq
   obtain ⟨rfl, hs⟩ := hq
   refine ⟨_, hs, ?_⟩
   refine g8 (b5 (.d ?_))
   obtain ⟨a74, ha74, h⟩ := b7 h
   refine AWP.e (.a Z Z (.callL Z Z (.cons (.c (.own Z Z)) (.cons (.c .imm) .nil)) Z (aa9 ha74) Z (.not Z Z (.f Z Z (.nil (b5 (.ret ?_)))))))
   obtain rfl := oi h
   exact Done.ret Z Z
  ·try dsimp only at h hq
   obtain ⟨rfl, hs⟩ := hq
   refine ⟨_, Sub.refl _ _, ?_⟩
   refine h9 (e8 ?_)
   obtain rfl := oi h
   exact hs
theorem af1 {ov : b8} {policy : List d9} {r : Bool × l6} (h : z7 ov policy = some r) : e9 Tryz.prog 24 [.agg (tO ov), .c (row 2 f9 policy)] (.tup [.c (bool r.1), .agg [int r.2.code, int r.2.index]]) := by
 unfold e9
 refine FnOk.enter (rs := [.t 4, .cell 5 28 2]) Tryz.func24 Z Tryz.ntmps24 Tryz.results24 Z ⟨trivial, rv _ Z, Y⟩ (by kernel_rfl) Z ?_
 unfold z7 at h
 refine AWP.d (.e (W.box Z Z Z Z Z Z (.f Z Z (W.alloc Z Z Z Z (.nil (b5 (.d (.d ?_))))))))
 obtain ⟨a9, ha9, h⟩ := b7 h
 refine AWP.e (W.loadAgg Z Z Z Z Z Z Z (.a Z Z (.k Z Z Z Z (af3 ha9) Z (W.alloc Z Z Z Z (W.storeAgg Z Z Z Z Z Z Z (.nil (b5 (.d (.e (W.loadAgg Z Z Z Z Z Z Z (W.build Z Z Z Z (.neqP Z Z Z Z Z Z Z (.nil (b5 (.s Z h (fun hc3 h => ?_) (fun hc3 h => ?_))))))))))))))))
 ·refine AWP.d (.drawEI [2] mixed Z Z Z ?_)
  refine i6.consN Z Z (fun E => W.loadAgg Z Z Z Z Z Z Z (.nil ⟨Z, Z⟩)) Z (.consN Z Z (fun E => AOps.f Z Z (.nil ⟨Z, Z⟩)) Z ?_)
  apply i6.consE (v := .undef); exact Z; exact Z; intro E
  refine W.storeAgg Z Z Z Z Z Z Z (.nil ⟨Z, Z⟩)
  exact Z
  exact Z
  refine i6.done Z ?_ ?_
  ·refine g9.cons Z Z ?_ ?_
   refine b9.go Z Z (fun E => W.loadAgg Z Z Z Z Z Z Z (AOps.nil ⟨Z, Z⟩)) ?_
   refine b9.skip Z (b9.nil)
   refine g9.cons Z Z ?_ ?_
   refine b9.go Z Z (fun E => AOps.f Z Z (AOps.nil ⟨Z, Z⟩)) ?_
   refine b9.skip Z (b9.nil)
   refine g9.skip Z (g9.nil)
  dsimp only [j6]
  refine b5 (.ret (e8 ?_))
  obtain rfl := oi h
  exact Done.ret Z Z
 ·refine AWP.skip (b5 (.d ?_))
  obtain ⟨a16, ha16, h⟩ := b7 h
  refine AWP.e (W.loadAgg Z Z Z Z Z Z Z (.a Z Z (.k Z Z Z Z (cyclic_Holds_ok ha16) Z (W.build Z Z Z Z (.f Z Z (W.storeAgg Z Z Z Z Z Z Z (.nil (b5 (.ret ?_)))))))))
  obtain rfl := oi h
  exact Done.ret Z Z
theorem ac8 {r : Bool} (h : I0 = some r) : e9 Tryz.prog 22 [] (.c (bool r)) := by
 unfold e9
 refine FnOk.enter (rs := [.t 0]) Tryz.func22 Z Tryz.ntmps22 Tryz.results22 Z ⟨trivial, Y⟩ (by kernel_rfl) Z ?_
 unfold I0 at h
 refine AWP.d (.e (.f Z Z (.nil (b5 (.d ?_)))))
 obtain ⟨a7, ha7, a8, ha8, h⟩ := b2 h
 refine AWP.e (.k Z Z Z Z (ai8 ha7) Z (.k Z Z Z Z (ak8 ha8) Z (.a Z Z (.u Z Z Z (.u Z Z Z (.u Z Z Z (W.alloc Z Z Z Z (.f Z Z (.f Z Z (W.storeAgg Z Z Z Z Z Z Z (.nil (b5 (.d ?_)))))))))))))
 obtain ⟨a13, ha13, a15, ha15, h⟩ := b2 h
 refine AWP.e (.k Z Z Z Z (ai8 ha13) Z (.a Z Z (.k Z Z Z Z (af1 ha15) Z (.a Z Z (.u Z Z Z (.u Z Z Z (W.alloc Z Z Z Z (.f Z Z (W.storeAgg Z Z Z Z Z Z Z (.nil (b5 ?_)))))))))))
 obtain ⟨t1, hx2, h⟩ := b7 h
 refine AWP.seqJ (⟨[(0, .c (bool t1))], []⟩) ?_ ?_
 ·rcases bft (decide (a8.2.2.code = 0)) with hb3 | hb3
  ·replace hx2 := C9 hb3 hx2
   rcases bft (decide (a15.2.code = 0)) with hb4 | hb4
   ·replace hx2 := C9 hb4 hx2
    rcases bft (a8.2.1) with hb5 | hb5
    ·replace hx2 := B7 hb5 hx2
     rcases bft (a15.1) with hb6 | hb6
     ·replace hx2 := B7 hb6 hx2
      obtain ⟨a36, ha36, hx2⟩ := b7 hx2
      refine AWP.e (W.fieldAddr Z Z Z Z (.l Z Z Z Z Z Z (.eql Z Z Z (.a Z Z (.g Z Z Z hb3 (W.fieldAddr Z Z Z Z (.g Z Z Z hb3 (.l Z Z Z Z Z Z (.g Z Z Z hb3 (.eql Z Z Z (.p Z hb3 Z Z (.a Z Z (.g Z Z Z hb4 (.a Z Z (.p Z hb4 Z Z (.a Z Z (.g Z Z Z hb5 (.a Z Z (.p Z hb5 Z Z (.a Z Z (.g Z Z Z hb6 (.a Z Z (.g Z Z Z hb6 (W.build Z Z Z Z (.g Z Z Z hb6 (S.lit (f := f9) (l := [(⟨[], 0⟩ : d9)]) (ess := [[.imm (.val (.slice none 0 0)), int 0]]) Z Z Z Z Z Z Z ⟨⟨.inr ⟨Z, _, Z⟩, .inl Z, Y⟩, Y⟩ Z Z Z (.g Z Z Z hb6 (.callL Z Z (.cons (.c .imm) (.cons (.c (.own Z Z)) .nil)) Z (ref8_Choices_ok ha36) Z (.p Z hb6 Z Z (.f Z Z (.nil ?_)))))))))))))))))))))))))))))))
      obtain rfl := oi hx2
      refine b5 (Sub.cut ⟨Z, Y⟩ Z trivial Z)
     ·replace hx2 := B5 hb6 hx2
      refine AWP.e (W.fieldAddr Z Z Z Z (.l Z Z Z Z Z Z (.eql Z Z Z (.a Z Z (.g Z Z Z hb3 (W.fieldAddr Z Z Z Z (.g Z Z Z hb3 (.l Z Z Z Z Z Z (.g Z Z Z hb3 (.eql Z Z Z (.p Z hb3 Z Z (.a Z Z (.g Z Z Z hb4 (.a Z Z (.p Z hb4 Z Z (.a Z Z (.g Z Z Z hb5 (.a Z Z (.p Z hb5 Z Z (.a Z Z (.i Z Z Z hb6 (.i Z Z Z hb6 (.i Z Z Z hb6 (.i Z Z Z hb6 (.o Z hb6 Z Z (.f Z Z (.nil ?_)))))))))))))))))))))))))))
      obtain rfl := oi hx2
      refine b5 (Sub.cut ⟨Z, Y⟩ Z trivial Z)
    ·replace hx2 := B5 hb5 hx2
     refine AWP.e (W.fieldAddr Z Z Z Z (.l Z Z Z Z Z Z (.eql Z Z Z (.a Z Z (.g Z Z Z hb3 (W.fieldAddr Z Z Z Z (.g Z Z Z hb3 (.l Z Z Z Z Z Z (.g Z Z Z hb3 (.eql Z Z Z (.p Z hb3 Z Z (.a Z Z (.g Z Z Z hb4 (.a Z Z (.p Z hb4 Z Z (.a Z Z (.i Z Z Z hb5 (.o Z hb5 Z Z (.a Z Z (.i Z Z Z Z (.i Z Z Z Z (.i Z Z Z Z (.i Z Z Z Z (.o Z Z Z Z (.f Z Z (.nil ?_))))))))))))))))))))))))))
     obtain rfl := oi hx2
     refine b5 (Sub.cut ⟨Z, Y⟩ Z trivial Z)
   ·replace hx2 := D0 hb4 hx2
    refine AWP.e (W.fieldAddr Z Z Z Z (.l Z Z Z Z Z Z (.eql Z Z Z (.a Z Z (.g Z Z Z hb3 (W.fieldAddr Z Z Z Z (.g Z Z Z hb3 (.l Z Z Z Z Z Z (.g Z Z Z hb3 (.eql Z Z Z (.p Z hb3 Z Z (.a Z Z (.i Z Z Z hb4 (.o Z hb4 Z Z (.a Z Z (.i Z Z Z Z (.o Z Z Z Z (.a Z Z (.i Z Z Z Z (.i Z Z Z Z (.i Z Z Z Z (.i Z Z Z Z (.o Z Z Z Z (.f Z Z (.nil ?_)))))))))))))))))))))))))
    obtain rfl := oi hx2
    refine b5 (Sub.cut ⟨Z, Y⟩ Z trivial Z)
  ·replace hx2 := D0 hb3 hx2
   refine AWP.e (W.fieldAddr Z Z Z Z (.l Z Z Z Z Z Z (.eql Z Z Z (.a Z Z (.i Z Z Z hb3 (.i Z Z Z hb3 (.i Z Z Z hb3 (.o Z hb3 Z Z (.a Z Z (.i Z Z Z Z (.o Z Z Z Z (.a Z Z (.i Z Z Z Z (.o Z Z Z Z (.a Z Z (.i Z Z Z Z (.i Z Z Z Z (.i Z Z Z Z (.i Z Z Z Z (.o Z Z Z Z (.f Z Z (.nil ?_))))))))))))))))))))))
   obtain rfl := oi hx2
   refine b5 (Sub.cut ⟨Z, Y⟩ Z trivial Z)
 ·refine AWP.ret ?_
  obtain rfl := oi h
  exact Done.ret Z Z
theorem ai5 {ov : b8} {p : List d9} {r : l6} (h : H1 ov p = some r) : e9 Tryz.prog 25 [.agg (tO ov), .c (row 2 f9 p)] (.agg [int r.code, int r.index]) := by
 unfold e9
 refine FnOk.enter (rs := [.cell 4 28 2]) Tryz.func25 Z Tryz.ntmps25 Tryz.results25 Z ⟨rv _ Z, Y⟩ (by kernel_rfl) Z ?_
 unfold H1 at h
 refine AWP.d (.e (W.box Z Z Z Z Z Z (W.alloc Z Z Z Z (.nil (b5 (.d (.d ?_)))))))
 obtain ⟨a8, ha8, h⟩ := b7 h
 refine AWP.e (W.loadAgg Z Z Z Z Z Z Z (.k Z Z Z Z (ak3 ha8) Z (W.alloc Z Z Z Z (W.storeAgg Z Z Z Z Z Z Z (.nil (b5 (.d (.e (W.fieldAddr Z Z Z Z (.l Z Z Z Z Z Z (.neq Z Z Z (.nil (b5 (.iteN Z h (fun hc3 h => ?_) (fun hc3 h => ?_)))))))))))))))
 ·refine AWP.d (.e (W.loadAgg Z Z Z Z Z Z Z (W.storeAgg Z Z Z Z Z Z Z (.nil (b5 (.ret (e8 ?_)))))))
  obtain rfl := oi h
  exact Done.ret Z Z
 ·refine AWP.skip (b5 (.d (.d (.e (.a Z Z (S.len Z Z (fun hl14 => .gtr Z Z Z (.nil (b5 (.ite Z h (fun hc4 h => ?_) (fun hc4 h => ?_)))))))))))
  ·refine AWP.d ?_
   obtain ⟨a16, ha16, h⟩ := b7 h
   refine AWP.e (.k Z Z Z Z (F9 ha16) Z (W.storeAgg Z Z Z Z Z Z Z (.nil (b5 (.ret (e8 ?_))))))
   obtain rfl := oi h
   exact Done.ret Z Z
  ·refine AWP.skip (b5 (.d (.d (.e (.f Z Z (.nil (b5 (.m ?_))))))))
   obtain ⟨oo, ho1, h⟩ := b7 h
   refine AWP.rngS ho1 (fun iv5 _ => ⟨[(1, .c (row 2 f9 p)), (2, .c (.ptr 0 0 0)), (4, .c (.ptr 1 0 0)), (6, .c (int iv5))], [.one (.cells 4 [(tO ov)]), .one (.cells 2 [[int 0, int 0]])]⟩) (fun o e st => match o with | .inl _ => e = .exit 0 ∧ Sub [] st ⟨[(4, .c (.ptr 1 0 0))], [.one (.cells 4 [(tO ov)]), .one (.cells 2 [[int 0, int 0]])]⟩ | .inr x => e = .ret ∧ Done [.cell 4 28 2] (fun t _ => t = .agg [int x.code, int x.index]) .ret st) ?_ ?_ ?_ ?_
   ·try dsimp only
    exact Sub.cut ⟨Z, Z, Z, Z, Y⟩ Z ⟨.one Z, .one Z, Y⟩ Z
   ·intro iv5 s hloiv5 hltiv5 _
    try dsimp only
    refine AWP.d (.d (.e (.a Z Z (.a Z Z (S.len Z Z (fun hl19 => .j Z Z Z (.nil (b5 (.q Z hltiv5 (.exit (d8 (d8 ⟨Z, ?_⟩))))))))))))
    exact Sub.env ⟨Z, Y⟩
   ·intro iv5 s o hloiv5 hltiv5 h
    unfold y9 at h
    try dsimp only at h ⊢
    refine AWP.d (.d (.e (.a Z Z (.a Z Z (S.len Z Z (fun hl19 => .j Z Z Z (.nil (b5 (.r Z hltiv5 (.skip (b5 (.d (.m (.d ?_))))))))))))))
    obtain ⟨t6, hx7, h⟩ := b7 h
    refine AWP.seqJ (⟨[(1, .c (row 2 f9 p)), (2, .c (.ptr 0 0 0)), (4, .c (.ptr 1 0 0)), (6, .c (int iv5)), (50, .c (bool t6))], [.one (.cells 4 [(tO ov)]), .one (.cells 2 [[int 0, int 0]])]⟩) ?_ ?_
    ·obtain ⟨a25, ha25, a30, ha30, hx7⟩ := b2 hx7
     rcases bft (!a30) with hb8 | hb8
     ·replace hx7 := B7 hb8 hx7
      refine AWP.drawI mixed Z ?_
      refine g7.consF Z (fun E => AOps.a Z Z (.nil ⟨Z, Z⟩)) Z (.consF Z (fun E => AOps.a Z Z (.nil ⟨Z, Z⟩)) Z (.consF Z (fun E => S.idx ha25 Z Z Z Z (.nil ⟨Z, Z⟩)) Z (.consF Z (fun E => W.fieldAddrI Z Z Z Z (.nil ⟨Z, Z⟩)) Z (.consF Z (fun E => AOps.n Z Z Z Z (.nil ⟨Z, Z⟩)) Z (.consF Z (fun E => W.fieldAddr Z Z Z Z (.nil ⟨Z, Z⟩)) Z (.consF Z (fun E => AOps.l Z Z Z Z Z Z (.nil ⟨Z, Z⟩)) Z (.consF Z (fun E => AOps.k Z Z Z Z (u9 ha30) Z (.nil ⟨Z, Z⟩)) Z (.consF Z (fun E => AOps.not Z Z (.nil ⟨Z, Z⟩)) Z (.consF Z (fun E => AOps.a Z Z (.nil ⟨Z, Z⟩)) Z (.consF Z (fun E => AOps.i Z Z Z hb8 (.nil ⟨Z, Z⟩)) Z (.consF Z (fun E => AOps.i Z Z Z hb8 (.nil ⟨Z, Z⟩)) Z (.consF Z (fun E => AOps.i Z Z Z hb8 (.nil ⟨Z, Z⟩)) Z (.consF Z (fun E => AOps.v Z Z Z (.nil ⟨Z, Z⟩)) Z (.consF Z (fun E => AOps.v Z Z Z (.nil ⟨Z, Z⟩)) Z (.consF Z (fun E => AOps.v Z Z Z (.nil ⟨Z, Z⟩)) Z (.consF Z (fun E => AOps.v Z Z Z (.nil ⟨Z, Z⟩)) Z (.consF Z (fun E => AOps.v Z Z Z (.nil ⟨Z, Z⟩)) Z (.consF Z (fun E => AOps.v Z Z Z (.nil ⟨Z, Z⟩)) Z (.consF Z (fun E => AOps.v Z Z Z (.nil ⟨Z, Z⟩)) Z (.consF Z (fun E => AOps.v Z Z Z (.nil ⟨Z, Z⟩)) Z (.consF Z (fun E => AOps.v Z Z Z (.nil ⟨Z, Z⟩)) Z (.consF Z (fun E => AOps.v Z Z Z (.nil ⟨Z, Z⟩)) Z (.consF Z (fun E => AOps.v Z Z Z (.nil ⟨Z, Z⟩)) Z (.consF Z (fun E => AOps.v Z Z Z (.nil ⟨Z, Z⟩)) Z (.consF Z (fun E => AOps.v Z Z Z (.nil ⟨Z, Z⟩)) Z (.consF Z (fun E => AOps.i Z Z Z hb8 (.nil ⟨Z, Z⟩)) Z (.consF Z (fun E => AOps.p Z hb8 Z Z (.nil ⟨Z, Z⟩)) Z ?_)))))))))))))))))))))))))))
      refine g7.done ?_
      dsimp only [j6]
      obtain rfl := oi hx7
      refine b5 (Sub.env ⟨Z, Z, Z, Z, Z, Y⟩)
     ·replace hx7 := B5 hb8 hx7
      rcases bft (decide (0 < iv5)) with hb9 | hb9
      ·replace hx7 := C9 hb9 hx7
       obtain ⟨a39, ha39, a44, ha44, a47, ha47, hx7⟩ := b3 hx7
       refine AWP.drawI mixed Z ?_
       refine g7.consF Z (fun E => AOps.a Z Z (.nil ⟨Z, Z⟩)) Z (.consF Z (fun E => AOps.a Z Z (.nil ⟨Z, Z⟩)) Z (.consF Z (fun E => S.idx ha25 Z Z Z Z (.nil ⟨Z, Z⟩)) Z (.consF Z (fun E => W.fieldAddrI Z Z Z Z (.nil ⟨Z, Z⟩)) Z (.consF Z (fun E => AOps.n Z Z Z Z (.nil ⟨Z, Z⟩)) Z (.consF Z (fun E => W.fieldAddr Z Z Z Z (.nil ⟨Z, Z⟩)) Z (.consF Z (fun E => AOps.l Z Z Z Z Z Z (.nil ⟨Z, Z⟩)) Z (.consF Z (fun E => AOps.k Z Z Z Z (u9 ha30) Z (.nil ⟨Z, Z⟩)) Z (.consF Z (fun E => AOps.not Z Z (.nil ⟨Z, Z⟩)) Z (.consF Z (fun E => AOps.a Z Z (.nil ⟨Z, Z⟩)) Z (.consF Z (fun E => AOps.g Z Z Z hb8 (.a Z Z (.nil ⟨Z, Z⟩))) Z (.consF Z (fun E => AOps.g Z Z Z hb8 (.gtr Z Z Z (.nil ⟨Z, Z⟩))) Z (.consF Z (fun E => AOps.g Z Z Z hb8 (.a Z Z (.nil ⟨Z, Z⟩))) Z (.consF Z (fun E => AOps.g Z Z Z hb9 (.a Z Z (.nil ⟨Z, Z⟩))) Z (.consF Z (fun E => AOps.g Z Z Z hb9 (.a Z Z (.nil ⟨Z, Z⟩))) Z (.consF Z (fun E => AOps.g Z Z Z hb9 (.sub' Z Z Z (by omega) (.nil ⟨Z, Z⟩))) Z (.consF Z (fun E => AOps.g Z Z Z hb9 (S.idx ha39 Z Z Z Z (.nil ⟨Z, Z⟩))) Z (.consF Z (fun E => AOps.g Z Z Z hb9 (W.fieldAddrI Z Z Z Z (.nil ⟨Z, Z⟩))) Z (.consF Z (fun E => AOps.g Z Z Z hb9 (.n Z Z Z Z (.nil ⟨Z, Z⟩))) Z (.consF Z (fun E => AOps.g Z Z Z hb9 (.a Z Z (.nil ⟨Z, Z⟩))) Z (.consF Z (fun E => AOps.g Z Z Z hb9 (.a Z Z (.nil ⟨Z, Z⟩))) Z (.consF Z (fun E => AOps.g Z Z Z hb9 (S.idx ha44 Z Z Z Z (.nil ⟨Z, Z⟩))) Z (.consF Z (fun E => AOps.g Z Z Z hb9 (W.fieldAddrI Z Z Z Z (.nil ⟨Z, Z⟩))) Z (.consF Z (fun E => AOps.g Z Z Z hb9 (.n Z Z Z Z (.nil ⟨Z, Z⟩))) Z (.consF Z (fun E => AOps.g Z Z Z hb9 (.k Z Z Z Z (af8 ha47) Z (.nil ⟨Z, Z⟩))) Z (.consF Z (fun E => AOps.g Z Z Z hb9 (.not Z Z (.nil ⟨Z, Z⟩))) Z (.consF Z (fun E => AOps.g Z Z Z hb8 (.p Z hb9 Z Z (.nil ⟨Z, Z⟩))) Z (.consF Z (fun E => AOps.o Z hb8 Z Z (.nil ⟨Z, Z⟩)) Z ?_)))))))))))))))))))))))))))
       refine g7.done ?_
       dsimp only [j6]
       obtain rfl := oi hx7
       refine b5 (Sub.env ⟨Z, Z, Z, Z, Z, Y⟩)
      ·replace hx7 := D0 hb9 hx7
       refine AWP.drawI mixed Z ?_
       refine g7.consF Z (fun E => AOps.a Z Z (.nil ⟨Z, Z⟩)) Z (.consF Z (fun E => AOps.a Z Z (.nil ⟨Z, Z⟩)) Z (.consF Z (fun E => S.idx ha25 Z Z Z Z (.nil ⟨Z, Z⟩)) Z (.consF Z (fun E => W.fieldAddrI Z Z Z Z (.nil ⟨Z, Z⟩)) Z (.consF Z (fun E => AOps.n Z Z Z Z (.nil ⟨Z, Z⟩)) Z (.consF Z (fun E => W.fieldAddr Z Z Z Z (.nil ⟨Z, Z⟩)) Z (.consF Z (fun E => AOps.l Z Z Z Z Z Z (.nil ⟨Z, Z⟩)) Z (.consF Z (fun E => AOps.k Z Z Z Z (u9 ha30) Z (.nil ⟨Z, Z⟩)) Z (.consF Z (fun E => AOps.not Z Z (.nil ⟨Z, Z⟩)) Z (.consF Z (fun E => AOps.a Z Z (.nil ⟨Z, Z⟩)) Z (.consF Z (fun E => AOps.g Z Z Z hb8 (.a Z Z (.nil ⟨Z, Z⟩))) Z (.consF Z (fun E => AOps.g Z Z Z hb8 (.gtr Z Z Z (.nil ⟨Z, Z⟩))) Z (.consF Z (fun E => AOps.g Z Z Z hb8 (.a Z Z (.nil ⟨Z, Z⟩))) Z (.consF Z (fun E => AOps.i Z Z Z hb9 (.nil ⟨Z, Z⟩)) Z (.consF Z (fun E => AOps.i Z Z Z hb9 (.nil ⟨Z, Z⟩)) Z (.consF Z (fun E => AOps.i Z Z Z hb9 (.nil ⟨Z, Z⟩)) Z (.consF Z (fun E => AOps.i Z Z Z hb9 (.nil ⟨Z, Z⟩)) Z (.consF Z (fun E => AOps.i Z Z Z hb9 (.nil ⟨Z, Z⟩)) Z (.consF Z (fun E => AOps.i Z Z Z hb9 (.nil ⟨Z, Z⟩)) Z (.consF Z (fun E => AOps.i Z Z Z hb9 (.nil ⟨Z, Z⟩)) Z (.consF Z (fun E => AOps.i Z Z Z hb9 (.nil ⟨Z, Z⟩)) Z (.consF Z (fun E => AOps.i Z Z Z hb9 (.nil ⟨Z, Z⟩)) Z (.consF Z (fun E => AOps.i Z Z Z hb9 (.nil ⟨Z, Z⟩)) Z (.consF Z (fun E => AOps.i Z Z Z hb9 (.nil ⟨Z, Z⟩)) Z (.consF Z (fun E => AOps.i Z Z Z hb9 (.nil ⟨Z, Z⟩)) Z (.consF Z (fun E => AOps.i Z Z Z hb9 (.nil ⟨Z, Z⟩)) Z (.consF Z (fun E => AOps.g Z Z Z hb8 (.o Z hb9 Z Z (.nil ⟨Z, Z⟩))) Z (.consF Z (fun E => AOps.o Z hb8 Z Z (.nil ⟨Z, Z⟩)) Z ?_)))))))))))))))))))))))))))
       refine g7.done ?_
       dsimp only [j6]
       obtain rfl := oi hx7
       refine b5 (Sub.env ⟨Z, Z, Z, Z, Z, Y⟩)
    ·refine AWP.s Z h (fun hc10 h => ?_) (fun hc10 h => ?_)
     ·refine AWP.d ?_
      obtain ⟨a53, ha53, h⟩ := b7 h
      refine AWP.e (.a Z Z (S.sub Z Z Z (.k Z Z Z Z (F9 ha53) Z (W.storeAgg Z Z Z Z Z Z Z (.nil (b5 (.ret (e8 (h9 (e8 ?_))))))))))
      obtain rfl := oi h
      refine e8 ⟨_, Z, Z, ?_⟩
      exact Done.ret Z Z
     ·refine AWP.skip (b5 (.d (.d ?_)))
      obtain ⟨a56, ha56, a63, ha63, h⟩ := b2 h
      refine AWP.drawI mixed Z ?_
      refine g7.consF Z (fun E => AOps.a Z Z (.nil ⟨Z, Z⟩)) Z (.consF Z (fun E => AOps.a Z Z (.nil ⟨Z, Z⟩)) Z (.consF Z (fun E => S.idx ha56 Z Z Z Z (.nil ⟨Z, Z⟩)) Z (.consF Z (fun E => W.fieldAddrI Z Z Z Z (.nil ⟨Z, Z⟩)) Z (.consF Z (fun E => AOps.n Z Z Z Z (.nil ⟨Z, Z⟩)) Z (.consF Z (fun E => W.fieldAddr Z Z Z Z (.nil ⟨Z, Z⟩)) Z (.consF Z (fun E => AOps.l Z Z Z Z Z Z (.nil ⟨Z, Z⟩)) Z (.consF Z (fun E => S.len Z Z (fun hl61 => .nil ⟨Z, Z⟩)) Z (.consF Z (fun E => S.sub Z Z Z (.nil ⟨Z, Z⟩)) Z (.consF Z (fun E => AOps.k Z Z Z Z (J5 ha63) Z (.nil ⟨Z, Z⟩)) Z (.consF Z (fun E => AOps.not Z Z (.nil ⟨Z, Z⟩)) Z ?_))))))))))
      refine g7.done ?_
      dsimp only [j6]
      refine b5 (.s Z h (fun hc11 h => ?_) (fun hc11 h => ?_))
      ·refine AWP.d ?_
       obtain ⟨a67, ha67, h⟩ := b7 h
       refine AWP.e (.a Z Z (S.sub Z Z Z (.k Z Z Z Z (F9 ha67) Z (W.storeAgg Z Z Z Z Z Z Z (.nil (b5 (.ret (e8 (h9 (e8 ?_))))))))))
       obtain rfl := oi h
       refine e8 ⟨_, Z, Z, ?_⟩
       exact Done.ret Z Z
      ·refine AWP.skip (b5 (.d ?_))
       obtain ⟨a71, ha71, a76, ha76, a79, ha79, h⟩ := b3 h
       refine AWP.drawI mixed Z ?_
       refine g7.consF Z (fun E => W.loadAgg Z Z Z Z Z Z Z (.nil ⟨Z, Z⟩)) Z (.consF Z (fun E => AOps.a Z Z (.nil ⟨Z, Z⟩)) Z (.consF Z (fun E => AOps.a Z Z (.nil ⟨Z, Z⟩)) Z (.consF Z (fun E => S.idx ha71 Z Z Z Z (.nil ⟨Z, Z⟩)) Z (.consF Z (fun E => W.fieldAddrI Z Z Z Z (.nil ⟨Z, Z⟩)) Z (.consF Z (fun E => AOps.n Z Z Z Z (.nil ⟨Z, Z⟩)) Z (.consF Z (fun E => AOps.a Z Z (.nil ⟨Z, Z⟩)) Z (.consF Z (fun E => AOps.a Z Z (.nil ⟨Z, Z⟩)) Z (.consF Z (fun E => S.idx ha76 Z Z Z Z (.nil ⟨Z, Z⟩)) Z (.consF Z (fun E => W.fieldAddrI Z Z Z Z (.nil ⟨Z, Z⟩)) Z (.consF Z (fun E => AOps.n Z Z Z Z (.nil ⟨Z, Z⟩)) Z (.consF Z (fun E => AOps.k Z Z Z Z (ref8_Applies_ok ha79) Z (.nil ⟨Z, Z⟩)) Z (.consF Z (fun E => AOps.not Z Z (.nil ⟨Z, Z⟩)) Z ?_))))))))))))
       refine g7.done ?_
       dsimp only [j6]
       refine b5 (.s Z h (fun hc12 h => ?_) (fun hc12 h => ?_))
       ·refine AWP.d ?_
        obtain ⟨a83, ha83, h⟩ := b7 h
        refine AWP.e (.a Z Z (S.sub Z Z Z (.k Z Z Z Z (F9 ha83) Z (W.storeAgg Z Z Z Z Z Z Z (.nil (b5 (.ret (h9 (e8 ?_)))))))))
        obtain rfl := oi h
        refine e8 ⟨_, Z, Z, ?_⟩
        exact Done.ret Z Z
       ·refine AWP.skip (d7 (b5 (.e (.a Z Z (.add Z Z Z (by omega) (.f Z Z (.nil ?_)))))))
        obtain rfl := oi h
        refine b5 ⟨_, Z, ?_⟩
        exact Sub.env ⟨Z, Z, Z, Z, Y⟩
   ·intro e s hq
    rcases oo with u | x
    ·try dsimp only at h hq
     obtain ⟨rfl, hs⟩ := hq
     refine ⟨_, hs, ?_⟩
     refine g8 (b5 (.d (.e (W.build Z Z Z Z (W.storeAgg Z Z Z Z Z Z Z (.nil (b5 (.ret ?_))))))))
     obtain rfl := oi h
     exact Done.ret Z Z
    ·try dsimp only at h hq
     obtain ⟨rfl, hs⟩ := hq
     refine ⟨_, Sub.refl _ _, ?_⟩
     refine h9 (e8 ?_)
     obtain rfl := oi h
     exact hs
theorem ah8 {ov : b8} {p : List d9} {r : Bool} (h : X6 ov p = some r) : e9 Tryz.prog 26 [.agg (tO ov), .c (row 2 f9 p)] (.c (bool r)) := by
 unfold e9
 refine FnOk.enter (rs := [.t 4]) Tryz.func26 Z Tryz.ntmps26 Tryz.results26 Z ⟨trivial, Y⟩ (by kernel_rfl) Z ?_
 unfold X6 at h
 refine AWP.d (.e (W.box Z Z Z Z Z Z (.f Z Z (.nil (b5 (.d ?_))))))
 obtain ⟨a15, ha15, h⟩ := b7 h
 refine AWP.e (W.loadAgg Z Z Z Z Z Z Z (.a Z Z (.k Z Z Z Z (ref8_Visited_ok ha15) Z (.f Z Z (.nil (b5 (.d ?_)))))))
 obtain ⟨a18, ha18, h⟩ := b7 h
 refine AWP.e (.a Z Z (S.len Z Z (fun hl17 => S.make (f := intI) ha18 (.val .nil) Z Z Z Z Z Z (.f Z Z (.nil (b5 (.d (.d (.e (.f Z Z (.nil (b5 (.m ?_)))))))))))))
 obtain ⟨c3, ho1, h⟩ := b7 h
 refine AWP.forS ho1 (fun iv4 c3 => ⟨[(1, .c (row 2 f9 p)), (2, .c (.ptr 0 0 0)), (5, .c (row 1 d6 a15)), (6, .c (.own 1 0 c3.length)), (7, .c (int iv4))], [.one (.cells 4 [(tO ov)]), .one (vec 1 intI c3)]⟩) (fun c3 e st => e = .exit 0 ∧ Sub [] st ⟨[(1, .c (row 2 f9 p)), (2, .c (.ptr 0 0 0)), (5, .c (row 1 d6 a15)), (6, .c (.own 1 0 c3.length))], [.one (.cells 4 [(tO ov)]), .one (vec 1 intI c3)]⟩) ?_ ?_ ?_ ?_
 ·try dsimp only
  exact Sub.env ⟨Z, Z, Z, Z, Z, Y⟩
 ·intro iv4 c3 hloiv4 hltiv4 _
  try dsimp only
  refine AWP.d (.d (.e (.a Z Z (.a Z Z (S.len Z Z (fun hl21 => .j Z Z Z (.nil (b5 (.q Z hltiv4 (.exit (d8 (d8 ⟨Z, ?_⟩))))))))))))
  exact Sub.env ⟨Z, Z, Z, Z, Y⟩
 ·intro iv4 c3 o hloiv4 hltiv4 h
  unfold T8 at h
  try dsimp only at h ⊢
  refine AWP.d (.d (.e (.a Z Z (.a Z Z (S.len Z Z (fun hl21 => .j Z Z Z (.nil (b5 (.r Z hltiv4 (.skip (b5 ?_)))))))))))
  obtain ⟨c5, hx6, h⟩ := b7 h
  refine AWP.seqJ (⟨[(1, .c (row 2 f9 p)), (2, .c (.ptr 0 0 0)), (5, .c (row 1 d6 a15)), (6, .c (.own 1 0 c5.length)), (7, .c (int iv4))], [.one (.cells 4 [(tO ov)]), .one (vec 1 intI c5)]⟩) ?_ ?_
  ·refine AWP.m (.d ?_)
   obtain ⟨a28, ha28, a30, ha30, hx6⟩ := b2 hx6
   refine AWP.drawI mixed Z ?_
   refine g7.consF Z (fun E => W.loadAgg Z Z Z Z Z Z Z (.nil ⟨Z, Z⟩)) Z (.consF Z (fun E => AOps.a Z Z (.nil ⟨Z, Z⟩)) Z (.consF Z (fun E => AOps.a Z Z (.nil ⟨Z, Z⟩)) Z (.consF Z (fun E => S.idx ha28 Z Z Z Z (.nil ⟨Z, Z⟩)) Z (.consF Z (fun E => AOps.n Z Z Z Z (.nil ⟨Z, Z⟩)) Z (.consF Z (fun E => AOps.k Z Z Z Z (X3 ha30) Z (.nil ⟨Z, Z⟩)) Z (.consF Z (fun E => AOps.not Z Z (.nil ⟨Z, Z⟩)) Z ?_))))))
   refine g7.done ?_
   dsimp only [j6]
   refine b5 (.s Z hx6 (fun hc7 hx6 => ?_) (fun hc7 hx6 => ?_))
   ·obtain ⟨a34, ha34, hx6⟩ := b7 hx6
    refine AWP.e (.a Z Z (.a Z Z (S.idxO ha34 Z Z Z Z Z (S.storeO1 (f := intI) (a' := 1000000000) (x9 ha34) (fun _ => ⟨_, Z⟩) Z Z Z Z Z ?_))))
    refine AOps.nil (d7 ?_)
    obtain rfl := oi hx6
    refine b5 (Sub.env ⟨Z, Z, Z, (F1 (by first | rfl | simp only [List.length_set])), Z, Y⟩)
   ·refine AWP.skip (d7 ?_)
    obtain rfl := oi hx6
    refine b5 (Sub.env ⟨Z, Z, Z, Z, Z, Y⟩)
  ·refine AWP.e (.a Z Z (.add Z Z Z (by omega) (.f Z Z (.nil ?_))))
   obtain rfl := oi h
   refine b5 (Sub.env ⟨Z, Z, Z, Z, Z, Y⟩)
 ·intro e s hq
  obtain ⟨rfl, hs⟩ := hq
  refine ⟨_, hs, ?_⟩
  refine g8 (b5 (.d (.d (.e (.f Z Z (.nil (b5 (.m ?_))))))))
  obtain ⟨c10, ho2, h⟩ := b7 h
  refine AWP.loopS ho2 (fun (c8, again9) => ⟨[(1, .c (row 2 f9 p)), (2, .c (.ptr 0 0 0)), (5, .c (row 1 d6 a15)), (6, .c (.own 1 0 c8.length)), (8, .c (bool again9))], [.one (.cells 4 [(tO ov)]), .one (vec 1 intI c8)]⟩) (fun c10 e st => e = .exit 2 ∧ Sub [] st ⟨[(5, .c (row 1 d6 a15)), (6, .c (.own 1 0 c10.length))], [.dead, .one (vec 1 intI c10)]⟩) ?_ ?_ ?_
  ·try dsimp only
   exact Sub.env ⟨Z, Z, Z, Z, Z, Y⟩
  ·intro s o h
   obtain ⟨c8, again9⟩ := s
   unfold T7 at h
   try dsimp only at h ⊢
   refine AWP.d (.d (.e (.a Z Z (.nil (b5 (.s Z h (fun hc11 h => ?_) (fun hc11 h => ?_)))))))
   ·refine AWP.skip (b5 (.m (.d (.e (.f Z Z (.nil (b5 (.d (.e (.f Z Z (.nil (b5 (.m ?_)))))))))))))
    obtain ⟨⟨c12, again13⟩, ho3, h⟩ := b7 h
    try dsimp only at h
    refine AWP.forS ho3 (fun iv14 (c12, again13) => ⟨[(1, .c (row 2 f9 p)), (2, .c (.ptr 0 0 0)), (5, .c (row 1 d6 a15)), (6, .c (.own 1 0 c12.length)), (8, .c (bool again13)), (9, .c (int iv14))], [.one (.cells 4 [(tO ov)]), .one (vec 1 intI c12)]⟩) (fun (c12, again13) e st => e = .exit 4 ∧ Sub [] st ⟨[(1, .c (row 2 f9 p)), (2, .c (.ptr 0 0 0)), (5, .c (row 1 d6 a15)), (6, .c (.own 1 0 c12.length)), (8, .c (bool again13))], [.one (.cells 4 [(tO ov)]), .one (vec 1 intI c12)]⟩) ?_ ?_ ?_ ?_
    ·try dsimp only
     exact Sub.env ⟨Z, Z, Z, Z, Z, Z, Y⟩
    ·intro iv14 s hloiv14 hltiv14 _
     obtain ⟨c12, again13⟩ := s
     try dsimp only
     refine AWP.d (.d (.e (.a Z Z (.a Z Z (S.len Z Z (fun hl38 => .j Z Z Z (.nil (b5 (.q Z hltiv14 (.exit (d8 (d8 ⟨Z, ?_⟩))))))))))))
     exact Sub.env ⟨Z, Z, Z, Z, Z, Y⟩
    ·intro iv14 s o hloiv14 hltiv14 h
     obtain ⟨c12, again13⟩ := s
     unfold T6 at h
     try dsimp only at h ⊢
     refine AWP.d (.d (.e (.a Z Z (.a Z Z (S.len Z Z (fun hl38 => .j Z Z Z (.nil (b5 (.r Z hltiv14 (.skip (b5 ?_)))))))))))
     obtain ⟨⟨c15, again16⟩, hx17, h⟩ := b7 h
     refine AWP.seqJ (⟨[(1, .c (row 2 f9 p)), (2, .c (.ptr 0 0 0)), (5, .c (row 1 d6 a15)), (6, .c (.own 1 0 c15.length)), (8, .c (bool again16)), (9, .c (int iv14))], [.one (.cells 4 [(tO ov)]), .one (vec 1 intI c15)]⟩) ?_ ?_
     ·refine AWP.m (.d ?_)
      obtain ⟨a45, ha45, a47, ha47, hx17⟩ := b2 hx17
      refine AWP.e (.a Z Z (.a Z Z (.a Z Z (S.idx ha45 Z Z Z Z (.n Z Z Z Z (.k Z Z Z Z (ag1 ha47) Z (.f Z Z (.nil (b5 (.d ?_))))))))))
      obtain ⟨a51, ha51, a53, ha53, hx17⟩ := b2 hx17
      refine AWP.seqJ (⟨[(1, .c (row 2 f9 p)), (2, .c (.ptr 0 0 0)), (5, .c (row 1 d6 a15)), (6, .c (.own 1 0 c12.length)), (8, .c (bool again13)), (9, .c (int iv14)), (10, .c (int a47)), (57, .c (bool (a53 || (decide (a47 < 0)))))], [.one (.cells 4 [(tO ov)]), .one (vec 1 intI c12)]⟩) ?_ ?_
      ·rcases bft (a53) with hb1 | hb1
       ·refine AWP.drawI mixed Z ?_
        refine g7.consF Z (fun E => W.loadAgg Z Z Z Z Z Z Z (.nil ⟨Z, Z⟩)) Z (.consF Z (fun E => AOps.a Z Z (.nil ⟨Z, Z⟩)) Z (.consF Z (fun E => AOps.a Z Z (.nil ⟨Z, Z⟩)) Z (.consF Z (fun E => S.idx ha51 Z Z Z Z (.nil ⟨Z, Z⟩)) Z (.consF Z (fun E => AOps.n Z Z Z Z (.nil ⟨Z, Z⟩)) Z (.consF Z (fun E => AOps.k Z Z Z Z (X3 ha53) Z (.nil ⟨Z, Z⟩)) Z (.consF Z (fun E => AOps.a Z Z (.nil ⟨Z, Z⟩)) Z (.consF Z (fun E => AOps.i Z Z Z hb1 (.nil ⟨Z, Z⟩)) Z (.consF Z (fun E => AOps.i Z Z Z hb1 (.nil ⟨Z, Z⟩)) Z (.consF Z (fun E => AOps.p Z hb1 Z Z (.nil ⟨Z, Z⟩)) Z ?_)))))))))
        refine g7.done ?_
        dsimp only [j6]
        refine b5 ?_
        simp only [and_t hb1, or_t hb1, Bool.false_or, Bool.true_or, Bool.false_and, Bool.true_and]
        exact Sub.env ⟨Z, Z, Z, Z, Z, Z, Z, Z, Y⟩
       ·refine AWP.drawI mixed Z ?_
        refine g7.consF Z (fun E => W.loadAgg Z Z Z Z Z Z Z (.nil ⟨Z, Z⟩)) Z (.consF Z (fun E => AOps.a Z Z (.nil ⟨Z, Z⟩)) Z (.consF Z (fun E => AOps.a Z Z (.nil ⟨Z, Z⟩)) Z (.consF Z (fun E => S.idx ha51 Z Z Z Z (.nil ⟨Z, Z⟩)) Z (.consF Z (fun E => AOps.n Z Z Z Z (.nil ⟨Z, Z⟩)) Z (.consF Z (fun E => AOps.k Z Z Z Z (X3 ha53) Z (.nil ⟨Z, Z⟩)) Z (.consF Z (fun E => AOps.a Z Z (.nil ⟨Z, Z⟩)) Z (.consF Z (fun E => AOps.g Z Z Z hb1 (.a Z Z (.nil ⟨Z, Z⟩))) Z (.consF Z (fun E => AOps.g Z Z Z hb1 (.j Z Z Z (.nil ⟨Z, Z⟩))) Z (.consF Z (fun E => AOps.o Z hb1 Z Z (.nil ⟨Z, Z⟩)) Z ?_)))))))))
        refine g7.done ?_
        dsimp only [j6]
        refine b5 ?_
        simp only [and_f hb1, or_f hb1, Bool.false_or, Bool.true_or, Bool.false_and, Bool.true_and]
        exact Sub.env ⟨Z, Z, Z, Z, Z, Z, Z, Z, Y⟩
      ·refine AWP.s Z hx17 (fun hc18 hx17 => ?_) (fun hc18 hx17 => ?_)
       ·refine AWP.exit (d8 (g8 ?_))
        obtain ⟨ej0, ej1⟩ := o2 hx17
        subst ej0 ej1
        refine b5 (Sub.env ⟨Z, Z, Z, Z, Z, Z, Y⟩)
       ·refine AWP.skip (b5 (.d ?_))
        obtain ⟨a63, ha63, a66, ha66, hx17⟩ := b2 hx17
        refine AWP.drawI mixed Z ?_
        refine g7.consF Z (fun E => W.loadAgg Z Z Z Z Z Z Z (.nil ⟨Z, Z⟩)) Z (.consF Z (fun E => AOps.a Z Z (.nil ⟨Z, Z⟩)) Z (.consF Z (fun E => AOps.a Z Z (.nil ⟨Z, Z⟩)) Z (.consF Z (fun E => AOps.a Z Z (.nil ⟨Z, Z⟩)) Z (.consF Z (fun E => AOps.a Z Z (.nil ⟨Z, Z⟩)) Z (.consF Z (fun E => S.idx ha63 Z Z Z Z (.nil ⟨Z, Z⟩)) Z (.consF Z (fun E => AOps.n Z Z Z Z (.nil ⟨Z, Z⟩)) Z (.consF Z (fun E => AOps.a Z Z (.nil ⟨Z, Z⟩)) Z (.consF Z (fun E => AOps.callL Z Z (.cons (.agg (.cons .imm (.cons .imm (.cons .imm (.cons .imm .nil))))) (.cons (.c .imm) (.cons (.c (.own Z Z)) (.cons (.c .imm) (.cons (.c .imm) .nil))))) Z (ref8_Least_ok ha66) Z (.nil ⟨Z, Z⟩)) Z (.consF Z (fun E => AOps.f Z Z (.nil ⟨Z, Z⟩)) Z ?_)))))))))
        refine g7.done ?_
        dsimp only [j6]
        refine b5 (.d ?_)
        obtain ⟨a71, ha71, hx17⟩ := b7 hx17
        refine AWP.e (.a Z Z (S.add Z Z Z (.a Z Z (.a Z Z (S.idxO ha71 Z Z Z Z Z (S.loadO ha71 Z Z Z Z Z (.j Z Z Z (.nil (b5 (.ite Z hx17 (fun hc19 hx17 => ?_) (fun hc19 hx17 => ?_)))))))))))
        ·refine AWP.d ?_
         obtain ⟨a78, ha78, hx17⟩ := b7 hx17
         refine AWP.e (.a Z Z (.a Z Z (.a Z Z (S.add Z Z Z (S.idxO ha78 Z Z Z Z Z (S.storeO1 (f := intI) (a' := w64 (a66 + 1)) (x9 ha78) (fun _ => ⟨_, Z⟩) Z Z Z Z Z ?_))))))
         refine AOps.nil (b5 (.e (.f Z Z (.nil (d7 ?_)))))
         obtain ⟨ej0, ej1⟩ := o2 hx17
         subst ej0 ej1
         refine b5 (Sub.env ⟨Z, Z, Z, (F1 (by first | rfl | simp only [List.length_set])), Z, Z, Y⟩)
        ·refine AWP.skip (d7 ?_)
         obtain ⟨ej0, ej1⟩ := o2 hx17
         subst ej0 ej1
         refine b5 (Sub.env ⟨Z, Z, Z, Z, Z, Z, Y⟩)
     ·try dsimp only at h
      refine AWP.e (.a Z Z (.add Z Z Z (by omega) (.f Z Z (.nil ?_))))
      obtain rfl := oi h
      refine b5 (Sub.env ⟨Z, Z, Z, Z, Z, Z, Y⟩)
    ·intro e s hq
     obtain ⟨rfl, hs⟩ := hq
     refine ⟨_, hs, ?_⟩
     refine g8 (d7 ?_)
     obtain rfl := oi h
     refine b5 ⟨_, Z, ?_⟩
     exact Sub.env ⟨Z, Z, Z, Z, Z, Y⟩
   ·refine AWP.exit (d8 ?_)
    obtain rfl := oi h
    refine d8 ⟨_, Z, Z, ?_⟩
    exact Sub.cut ⟨Z, Z, Y⟩ Z ⟨.dead, .vec, Y⟩ Z
  ·intro e s hq
   obtain ⟨rfl, hs⟩ := hq
   refine ⟨_, hs, ?_⟩
   refine g8 (b5 (.d (.d (.e (.f Z Z (.nil (b5 (.m ?_))))))))
   obtain ⟨oo, ho4, h⟩ := b7 h
   refine AWP.rngS ho4 (fun iv20 _ => ⟨[(5, .c (row 1 d6 a15)), (6, .c (.own 1 0 c10.length)), (12, .c (int iv20))], [.dead, .one (vec 1 intI c10)]⟩) (fun o e st => match o with | .inl _ => e = .exit 6 ∧ Sub [] st ⟨[], [.dead, .one (vec 1 intI c10)]⟩ | .inr x => e = .ret ∧ Done [.t 4] (fun t _ => t = .c (bool x)) .ret st) ?_ ?_ ?_ ?_
   ·try dsimp only
    exact Sub.env ⟨Z, Z, Z, Y⟩
   ·intro iv20 s hloiv20 hltiv20 _
    try dsimp only
    refine AWP.d (.d (.e (.a Z Z (.a Z Z (S.len Z Z (fun hl81 => .j Z Z Z (.nil (b5 (.q Z hltiv20 (.exit (d8 (d8 ⟨Z, ?_⟩))))))))))))
    exact Sub.env trivial
   ·intro iv20 s o hloiv20 hltiv20 h
    unfold U5 at h
    try dsimp only at h ⊢
    refine AWP.d (.d (.e (.a Z Z (.a Z Z (S.len Z Z (fun hl81 => .j Z Z Z (.nil (b5 (.r Z hltiv20 (.skip (b5 (.d (.m (.d ?_))))))))))))))
    obtain ⟨a87, ha87, h⟩ := b7 h
    refine AWP.e (.a Z Z (.a Z Z (S.idxO ha87 Z Z Z Z Z (S.loadO ha87 Z Z Z Z Z (.geq Z Z Z (.nil (b5 (.ite Z h (fun hc21 h => ?_) (fun hc21 h => ?_)))))))))
    ·refine AWP.d (.e (.f Z Z (.nil (b5 (.ret (h9 (e8 ?_)))))))
     obtain rfl := oi h
     refine e8 ⟨_, Z, Z, ?_⟩
     exact Done.ret Z Z
    ·refine AWP.skip (d7 (b5 (.e (.a Z Z (.add Z Z Z (by omega) (.f Z Z (.nil ?_)))))))
     obtain rfl := oi h
     refine b5 ⟨_, Z, ?_⟩
     exact Sub.env ⟨Z, Z, Z, Y⟩
   ·intro e s hq
    rcases oo with u | x
    ·try dsimp only at h hq
     obtain ⟨rfl, hs⟩ := hq
     refine ⟨_, hs, ?_⟩
     refine g8 (b5 (.d (.e (.f Z Z (.nil (b5 (.ret ?_)))))))
     obtain rfl := oi h
     exact Done.ret Z Z
    ·try dsimp only at h hq
     obtain ⟨rfl, hs⟩ := hq
     refine ⟨_, Sub.refl _ _, ?_⟩
     refine h9 (e8 ?_)
     obtain rfl := oi h
     exact hs
theorem W9 {ov : b8} {p : List d9} {r : Bool} (h : y7 ov p = some r) : e9 Tryz.prog 7 [.agg (tO ov), .c (row 2 f9 p)] (.c (bool r)) := by
 unfold e9
 refine FnOk.enter (rs := [.t 4]) Tryz.func7 Z Tryz.ntmps7 Tryz.results7 Z ⟨trivial, Y⟩ (by kernel_rfl) Z ?_
 unfold y7 at h
 refine AWP.d (.e (W.box Z Z Z Z Z Z (.f Z Z (.nil (b5 (.d ?_))))))
 obtain ⟨a11, ha11, h⟩ := b7 h
 refine AWP.e (W.loadAgg Z Z Z Z Z Z Z (.a Z Z (.k Z Z Z Z (af1 ha11) Z (.a Z Z (.u Z Z Z (.u Z Z Z (W.alloc Z Z Z Z (.f Z Z (W.storeAgg Z Z Z Z Z Z Z (.nil (b5 (.d ?_))))))))))))
 obtain ⟨a16, ha16, h⟩ := b7 h
 refine AWP.e (W.loadAgg Z Z Z Z Z Z Z (.a Z Z (.k Z Z Z Z (ai5 ha16) Z (W.alloc Z Z Z Z (W.storeAgg Z Z Z Z Z Z Z (.nil (b5 (.d (.d (.e (W.fieldAddr Z Z Z Z (.l Z Z Z Z Z Z (.neq Z Z Z (.nil (b5 (.iteN Z h (fun hc3 h => ?_) (fun hc3 h => ?_)))))))))))))))))
 ·obtain ⟨t4, hx5, h⟩ := b7 h
  refine AWP.seqJ (⟨[(4, .c (bool t4))], []⟩) ?_ ?_
  ·rcases bft ((decide (a11.2.code = a16.code)) && (decide (a11.2.index = a16.index))) with hb6 | hb6
   ·replace hx5 := B7 hb6 hx5
    rcases bft (!a11.1) with hb7 | hb7
    ·replace hx5 := B7 hb7 hx5
     obtain ⟨a28, ha28, hx5⟩ := b7 hx5
     refine AWP.e (W.loadAgg Z Z Z Z Z Z Z (W.loadAgg Z Z Z Z Z Z Z (.eqlP Z Z Z Z Z Z Z (.a Z Z (.g Z Z Z hb6 (.a Z Z (.g Z Z Z hb6 (.not Z Z (.p Z hb6 Z Z (.a Z Z (.g Z Z Z hb7 (.k Z Z Z Z (ac8 ha28) Z (.p Z hb7 Z Z (.f Z Z (.nil ?_)))))))))))))))
     obtain rfl := oi hx5
     refine b5 (Sub.cut ⟨Z, Y⟩ Z trivial Z)
    ·replace hx5 := B5 hb7 hx5
     refine AWP.e (W.loadAgg Z Z Z Z Z Z Z (W.loadAgg Z Z Z Z Z Z Z (.eqlP Z Z Z Z Z Z Z (.a Z Z (.g Z Z Z hb6 (.a Z Z (.g Z Z Z hb6 (.not Z Z (.p Z hb6 Z Z (.a Z Z (.i Z Z Z hb7 (.o Z hb7 Z Z (.f Z Z (.nil ?_))))))))))))))
     obtain rfl := oi hx5
     refine b5 (Sub.cut ⟨Z, Y⟩ Z trivial Z)
   ·replace hx5 := B5 hb6 hx5
    refine AWP.e (W.loadAgg Z Z Z Z Z Z Z (W.loadAgg Z Z Z Z Z Z Z (.eqlP Z Z Z Z Z Z Z (.a Z Z (.i Z Z Z hb6 (.i Z Z Z hb6 (.o Z hb6 Z Z (.a Z Z (.i Z Z Z Z (.o Z Z Z Z (.f Z Z (.nil ?_))))))))))))
    obtain rfl := oi hx5
    refine b5 (Sub.cut ⟨Z, Y⟩ Z trivial Z)
  ·refine AWP.ret (e8 ?_)
   obtain rfl := oi h
   exact Done.ret Z Z
 ·refine AWP.skip (b5 ?_)
  obtain ⟨t8, hx9, h⟩ := b7 h
  refine AWP.seqJ (⟨[(4, .c (bool t8))], []⟩) ?_ ?_
  ·rcases bft (decide (a11.2.code = 0)) with hb10 | hb10
   ·replace hx9 := C9 hb10 hx9
    obtain ⟨a37, ha37, hx9⟩ := b7 hx9
    rcases bft (decide (a11.1 = a37)) with hb11 | hb11
    ·replace hx9 := C9 hb11 hx9
     obtain ⟨a41, ha41, hx9⟩ := b7 hx9
     refine AWP.e (W.fieldAddr Z Z Z Z (.l Z Z Z Z Z Z (.eql Z Z Z (.a Z Z (.g Z Z Z hb10 (.a Z Z (.g Z Z Z hb10 (W.loadAgg Z Z Z Z Z Z Z (.g Z Z Z hb10 (.a Z Z (.g Z Z Z hb10 (.k Z Z Z Z (ah8 ha37) Z (.g Z Z Z hb10 (.eqlB Z Z Z (.p Z hb10 Z Z (.a Z Z (.g Z Z Z hb11 (.k Z Z Z Z (ac8 ha41) Z (.p Z hb11 Z Z (.f Z Z (.nil ?_)))))))))))))))))))))
     obtain rfl := oi hx9
     refine b5 (Sub.cut ⟨Z, Y⟩ Z trivial Z)
    ·replace hx9 := D0 hb11 hx9
     refine AWP.e (W.fieldAddr Z Z Z Z (.l Z Z Z Z Z Z (.eql Z Z Z (.a Z Z (.g Z Z Z hb10 (.a Z Z (.g Z Z Z hb10 (W.loadAgg Z Z Z Z Z Z Z (.g Z Z Z hb10 (.a Z Z (.g Z Z Z hb10 (.k Z Z Z Z (ah8 ha37) Z (.g Z Z Z hb10 (.eqlB Z Z Z (.p Z hb10 Z Z (.a Z Z (.i Z Z Z hb11 (.o Z hb11 Z Z (.f Z Z (.nil ?_))))))))))))))))))))
     obtain rfl := oi hx9
     refine b5 (Sub.cut ⟨Z, Y⟩ Z trivial Z)
   ·replace hx9 := D0 hb10 hx9
    refine AWP.e (W.fieldAddr Z Z Z Z (.l Z Z Z Z Z Z (.eql Z Z Z (.a Z Z (.i Z Z Z hb10 (.i Z Z Z hb10 (.i Z Z Z hb10 (.i Z Z Z hb10 (.i Z Z Z hb10 (.o Z hb10 Z Z (.a Z Z (.i Z Z Z Z (.o Z Z Z Z (.f Z Z (.nil ?_)))))))))))))))
    obtain rfl := oi hx9
    refine b5 (Sub.cut ⟨Z, Y⟩ Z trivial Z)
  ·refine AWP.ret ?_
   obtain rfl := oi h
   exact Done.ret Z Z
end Ab
end
section
namespace Ab
open Go
theorem R2 {α : Type} {l : List α} {k : Nat} : ix l (k : Int) = l[k]? := by simp [ix]
theorem i7 {α : Type} {l : List α} {i : Int} (h0 : 0 ≤ i) (h1 : i < l.length) : ∃ a, ix l i = some a ∧ l[i.toNat]? = some a := by
 have h : i.toNat < l.length := by omega
 exact ⟨l[i.toNat], by simp [ix, h0, h], by simp [h]⟩
theorem j8 {α : Type} {l : List α} {i : Int} {a : α} (h : ix l i = some a) : 0 ≤ i ∧ i < l.length ∧ l[i.toNat]? = some a := by
 unfold ix at h
 split at h
 ·have := (List.getElem?_eq_some_iff.1 h).1
  exact ⟨by assumption, by omega, h⟩
 ·cases h
theorem q9 {n : Int} (h1 : -9223372036854775808 ≤ n) (h2 : n ≤ 9223372036854775807) : w64 n = n := w64_eq ⟨h1, h2⟩
theorem forN_inv {S : Type} {body : Int → S → Option S} (P : Int → S → Prop) : ∀ (k : Nat) (i : Int) (s : S), P i s →
  (∀ j s, i ≤ j → j < i + k → P j s → ∃ s', body j s = some s' ∧ P (j + 1) s') → ∃ s', forN body k i s = some s' ∧ P (i + k) s'
 | 0, i, s, h, _ => ⟨s, rfl, by simpa using h⟩
 | k + 1, i, s, h, hb => by
  obtain ⟨s1, h1, h2⟩ := hb i s (Int.le_refl _) (by omega) h
  obtain ⟨s2, h3, h4⟩ := forN_inv P k (i + 1) s1 h2 (fun j s g1 g2 => hb j s (by omega) (by omega))
  exact ⟨s2, by simp only [forN, h1]; exact h3, by rw [show i + ((k + 1 : Nat) : Int) = i + 1 + k by omega]; exact h4⟩
theorem p9 {S : Type} {body : Int → S → Option S} {n : Int} (P : Int → S → Prop) {s : S} (hn : 0 ≤ n) (h0 : P 0 s)
  (hb : ∀ j s, 0 ≤ j → j < n → P j s → ∃ s', body j s = some s' ∧ P (j + 1) s') : ∃ s', forR 0 n body s = some s' ∧ P n s' := by
 obtain ⟨s', h1, h2⟩ := forN_inv P (n - 0).toNat 0 s h0 (fun j s g1 g2 => hb j s g1 (by omega))
 exact ⟨s', h1, by rwa [show (0 : Int) + ((n - 0).toNat : Int) = n by omega] at h2⟩
theorem rngN_inv {S O : Type} {body : Int → S → Option (S ⊕ O)} (P : Int → S → Prop) (Q : O → Prop) : ∀ (k : Nat) (i : Int) (s : S), P i s →
  (∀ j s, i ≤ j → j < i + k → P j s → (∃ s', body j s = some (.inl s') ∧ P (j + 1) s') ∨ ∃ o, body j s = some (.inr o) ∧ Q o) →
  (∃ s', rngN body k i s = some (.inl s') ∧ P (i + k) s') ∨ ∃ o, rngN body k i s = some (.inr o) ∧ Q o
 | 0, i, s, h, _ => .inl ⟨s, rfl, by simpa using h⟩
 | k + 1, i, s, h, hb => by
  rcases hb i s (Int.le_refl _) (by omega) h with ⟨s1, h1, h2⟩ | ⟨o, h1, h2⟩
  ·rcases rngN_inv P Q k (i + 1) s1 h2 (fun j s g1 g2 => hb j s (by omega) (by omega)) with ⟨s2, h3, h4⟩ | ⟨o, h3, h4⟩
   ·exact .inl ⟨s2, by simp only [rngN, h1]; exact h3, by rw [show i + ((k + 1 : Nat) : Int) = i + 1 + k by omega]; exact h4⟩
   ·exact .inr ⟨o, by simp only [rngN, h1]; exact h3, h4⟩
  ·exact .inr ⟨o, by simp only [rngN, h1], h2⟩
theorem V4 {S O : Type} {body : Int → S → Option (S ⊕ O)} {n : Int} (P : Int → S → Prop) (Q : O → Prop) {s : S} (hn : 0 ≤ n) (h0 : P 0 s)
  (hb : ∀ j s, 0 ≤ j → j < n → P j s → (∃ s', body j s = some (.inl s') ∧ P (j + 1) s') ∨ ∃ o, body j s = some (.inr o) ∧ Q o) :
  (∃ s', rngX 0 n body s = some (.inl s') ∧ P n s') ∨ ∃ o, rngX 0 n body s = some (.inr o) ∧ Q o := by
 rcases rngN_inv P Q (n - 0).toNat 0 s h0 (fun j s g1 g2 => hb j s g1 (by omega)) with ⟨s', h1, h2⟩ | h
 ·exact .inl ⟨s', h1, by rwa [show (0 : Int) + ((n - 0).toNat : Int) = n by omega] at h2⟩
 ·exact .inr h
theorem rngX_all {O : Type} {body : Int → Unit → Option (Unit ⊕ O)} {n : Int} (hn : 0 ≤ n) (hb : ∀ j, 0 ≤ j → j < n → body j () = some (.inl ())) : rngX 0 n body () = some (.inl ()) := by
 rcases V4 (body := body) (fun _ _ => True) (fun _ => False) (s := ()) hn trivial (fun j s g1 g2 _ => .inl ⟨(), hb j g1 g2, trivial⟩) with ⟨s', h, _⟩ | ⟨o, _, h⟩
 ·exact h
 ·exact h.elim
theorem LoopN_inv {S O : Type} {body : S → Option (S ⊕ O)} (P : S → Prop) (Q : O → Prop) (μ : S → Nat) (hb : ∀ s, P s → (∃ s', body s = some (.inl s') ∧ P s' ∧ μ s' < μ s) ∨ ∃ o, body s = some (.inr o) ∧ Q o) :
  ∀ (k : Nat) (s : S), μ s < k → P s → ∃ o, I6 body k s = some o ∧ Q o
 | 0, s, h, _ => by omega
 | k + 1, s, h, hs => by
  rcases hb s hs with ⟨s', h1, h2, h3⟩ | ⟨o, h1, h2⟩
  ·obtain ⟨o, g1, g2⟩ := LoopN_inv P Q μ hb k s' (by omega) h2
   exact ⟨o, by simp only [I6, h1]; exact g1, g2⟩
  ·exact ⟨o, by simp only [I6, h1], h2⟩
theorem D5 {S O : Type} {body : S → Option (S ⊕ O)} (P : S → Prop) (Q : O → Prop) (μ : S → Nat) {s : S} (hs : P s)
  (hb : ∀ s, P s → (∃ s', body s = some (.inl s') ∧ P s' ∧ μ s' < μ s) ∨ ∃ o, body s = some (.inr o) ∧ Q o) : ∃ o, Loop body s = some o ∧ Q o := by
 obtain ⟨o, h1, h2⟩ := LoopN_inv P Q μ hb (μ s + 1) s (by omega) hs
 exact ⟨o, ad3.2 ⟨_, h1⟩, h2⟩
/-! ### Two loops that do the same -/
theorem rngN_eq {S O : Type} {b1 b2 : Int → S → Option (S ⊕ O)} (P : Int → S → Prop) : ∀ (k : Nat) (i : Int) (s : S), P i s →
  (∀ j s, i ≤ j → j < i + k → P j s → b1 j s = b2 j s ∧ b1 j s ≠ none ∧ ∀ s', b1 j s = some (.inl s') → P (j + 1) s') →
  rngN b1 k i s = rngN b2 k i s ∧ rngN b1 k i s ≠ none ∧ ∀ s', rngN b1 k i s = some (.inl s') → P (i + k) s'
 | 0, i, s, h, _ => ⟨rfl, by simp [rngN], fun s' hs => by simp only [rngN, Option.some.injEq, Sum.inl.injEq] at hs; subst hs; simpa using h⟩
 | k + 1, i, s, h, hb => by
  obtain ⟨h1, h2, h3⟩ := hb i s (Int.le_refl _) (by omega) h
  simp only [rngN]
  rw [← h1]
  cases hc : b1 i s with
  | none => exact absurd hc h2
  | some x =>
   cases x with
   | inr o => exact ⟨rfl, by simp, fun s' hs => by simp at hs⟩
   | inl s1 =>
    dsimp only
    have := rngN_eq (b1 := b1) (b2 := b2) P k (i + 1) s1 (h3 s1 hc) (fun j s g1 g2 => hb j s (by omega) (by omega))
    rwa [show i + 1 + (k : Int) = i + ((k + 1 : Nat) : Int) by omega] at this
theorem rngX_eq {S O : Type} {b1 b2 : Int → S → Option (S ⊕ O)} {n : Int} (P : Int → S → Prop) {s : S} (hn : 0 ≤ n) (h0 : P 0 s)
  (hb : ∀ j s, 0 ≤ j → j < n → P j s → b1 j s = b2 j s ∧ b1 j s ≠ none ∧ ∀ s', b1 j s = some (.inl s') → P (j + 1) s') :
  rngX 0 n b1 s = rngX 0 n b2 s ∧ rngX 0 n b1 s ≠ none ∧ ∀ s', rngX 0 n b1 s = some (.inl s') → P n s' := by
 have := rngN_eq P (n - 0).toNat 0 s h0 (fun j s g1 g2 => hb j s g1 (by omega))
 rwa [show (0 : Int) + ((n - 0).toNat : Int) = n by omega] at this
end Ab
end
section
namespace Ab
open Go
noncomputable def dec (p : Prop) : Bool := @decide p (Classical.propDecidable p)
@[simp] theorem k7 {p : Prop} : dec p = true ↔ p := by simp [dec]
@[simp] theorem dec_false {p : Prop} : dec p = false ↔ ¬ p := by simp [dec]
@[simp] theorem r7 {p : Prop} : (!dec p) = dec (¬ p) := by by_cases h : p <;> simp [dec, h]
theorem B6 {p : Prop} [Decidable p] : decide p = dec p := by by_cases h : p <;> simp [dec, h]
theorem k8 {p : Prop} (h : p) : dec p = true := k7.2 h
theorem o4 {p : Prop} (h : ¬ p) : dec p = false := dec_false.2 h
theorem o6 {p q : Prop} (h : p ↔ q) : dec p = dec q := by rw [propext h]
theorem dec_inj {p q : Prop} : dec p = dec q ↔ (p ↔ q) := ⟨fun h => ⟨fun hp => k7.1 (h ▸ k8 hp), fun hq => k7.1 (h.symm ▸ k8 hq)⟩, o6⟩
theorem dec_and {p q : Prop} : (dec p && dec q) = dec (p ∧ q) := by by_cases h : p <;> by_cases g : q <;> simp [dec, h, g]
theorem dec_or {p q : Prop} : (dec p || dec q) = dec (p ∨ q) := by by_cases h : p <;> by_cases g : q <;> simp [dec, h, g]
theorem ifP {α : Type} {p : Prop} {a b : α} (h : p) : (if dec p = true then a else b) = a := if_pos (k8 h)
theorem ifN {α : Type} {p : Prop} {a b : α} (h : ¬ p) : (if dec p = true then a else b) = b := if_neg fun g => h (k7.1 g)
theorem ifNN {α : Type} {p : Prop} {a b : α} (h : p) : (if dec (¬ p) = true then a else b) = b := ifN (not_not_intro h)
theorem j3 {α : Type} {l : List α} {i : Int} {a : α} (h : ix l i = some a) : a ∈ l := List.mem_of_getElem? (j8 h).2.2
theorem k9 {α : Type} {l : List α} {a : α} (h : a ∈ l) : ∃ i : Int, 0 ≤ i ∧ i < l.length ∧ ix l i = some a := by
 obtain ⟨k, hk⟩ := List.getElem?_of_mem h
 exact ⟨k, by omega, by have := (List.getElem?_eq_some_iff.1 hk).1; omega, by rw [R2, hk]⟩
theorem ix_put {α : Type} {l : List α} {i j : Int} {x : α} (h0 : 0 ≤ i) (h1 : i < l.length) (hj : 0 ≤ j) : ix (l.set i.toNat x) j = if j = i then some x else ix l j := by
 simp only [ix, hj, if_true, List.getElem?_set]
 by_cases h : j = i
 ·subst h; rw [if_pos rfl, if_pos rfl, if_pos (by omega)]
 ·rw [if_neg h, if_neg (by omega)]
theorem s9 {O : Type} {body : Int → Unit → Option (Unit ⊕ O)} {n : Int} (g : Int → Option O) (hn : 0 ≤ n)
  (hb : ∀ j, 0 ≤ j → j < n → (∀ i, 0 ≤ i → i < j → g i = none) → body j () = some (match g j with | none => .inl () | some o => .inr o)) :
  (rngX 0 n body () = some (.inl ()) ∧ ∀ j, 0 ≤ j → j < n → g j = none) ∨ ∃ j o, 0 ≤ j ∧ j < n ∧ g j = some o ∧ (∀ i, 0 ≤ i → i < j → g i = none) ∧ rngX 0 n body () = some (.inr o) := by
 rcases V4 (body := body) (n := n) (fun j _ => ∀ i, 0 ≤ i → i < j → g i = none) (fun o => ∃ j, 0 ≤ j ∧ j < n ∧ g j = some o ∧ ∀ i, 0 ≤ i → i < j → g i = none) (s := ()) hn (fun i h1 h2 => by omega) (fun j s h0 h1 hP => by
  have := hb j h0 h1 hP
  cases hg : g j with
  | none => rw [hg] at this; exact .inl ⟨(), this, fun i h2 h3 => by
    rcases Int.lt_or_eq_of_le (Int.le_of_lt_add_one h3) with h | h
    ·exact hP i h2 h
    ·rw [h, hg]⟩
  | some o => rw [hg] at this; exact .inr ⟨o, this, j, h0, h1, hg, hP⟩) with ⟨s', h1, h2⟩ | ⟨o, h1, j, h2, h3, h4, h5⟩
 ·exact .inl ⟨h1, h2⟩
 ·exact .inr ⟨j, o, h2, h3, h4, h5, h1⟩
theorem rng_list {α O : Type} {l : List α} {body : Int → Unit → Option (Unit ⊕ O)} (q : α → Prop) (b : O)
  (hb : ∀ j a, ix l j = some a → (q a ∧ body j () = some (.inl ())) ∨ (¬ q a ∧ body j () = some (.inr b))) :
  rngX 0 (l.length : Int) body () = some (if dec (∀ a ∈ l, q a) = true then .inl () else .inr b) := by
 rcases s9 (body := body) (n := (l.length : Int)) (fun j => match ix l j with | some a => if dec (q a) = true then none else some b | none => none) (by omega) (fun j h0 h1 _ => by
  obtain ⟨a, h2, _⟩ := i7 h0 h1
  rw [h2]
  rcases hb j a h2 with ⟨h3, h4⟩ | ⟨h3, h4⟩
  ·rw [h4]; simp [h3]
  ·rw [h4]; simp [h3]) with ⟨h1, h2⟩ | ⟨j, o, h0, h1, h2, _, h4⟩
 ·rw [h1, if_pos]
  rw [k7]
  intro a ha
  obtain ⟨i, g1, g2, g3⟩ := k9 ha
  have := h2 i g1 g2
  rw [g3] at this
  simpa using this
 ·rw [h4]
  obtain ⟨a, g1, _⟩ := i7 h0 h1
  rw [g1] at h2
  simp only [k7] at h2
  split at h2
  ·cases h2
  ·rename_i hq
   cases h2
   rw [if_neg]
   rw [k7]
   exact fun h => hq (k8 (h a (j3 g1)))
abbrev Inc (l : List Int) : Prop := l.Pairwise (· < ·)
theorem inc_of_adj : ∀ {l : List Int}, (∀ (k : Nat) a b, l[k]? = some a → l[k + 1]? = some b → a < b) → Inc l
 | [], _ => .nil
 | [_], _ => by simp
 | a :: b :: l, h => by
  have ih : Inc (b :: l) := inc_of_adj fun k x y h1 h2 => h (k + 1) x y (by simpa using h1) (by simpa using h2)
  have hab : a < b := h 0 a b rfl rfl
  refine List.pairwise_cons.2 ⟨fun c hc => ?_, ih⟩
  rcases List.mem_cons.1 hc with rfl | hc
  ·exact hab
  ·exact Int.lt_trans hab ((List.pairwise_cons.1 ih).1 c hc)
theorem Inc.get {l : List Int} (h : Inc l) {i j : Nat} {a b : Int} (hi : l[i]? = some a) (hj : l[j]? = some b) (hij : i < j) : a < b := by
 obtain ⟨h1, rfl⟩ := List.getElem?_eq_some_iff.1 hi
 obtain ⟨h2, rfl⟩ := List.getElem?_eq_some_iff.1 hj
 exact List.pairwise_iff_getElem.1 h i j h1 h2 hij
theorem Inc.ext : ∀ {l m : List Int}, Inc l → Inc m → (∀ x, x ∈ l ↔ x ∈ m) → l = m
 | [], [], _, _, _ => rfl
 | [], b :: m, _, _, h => absurd ((h b).2 (by simp)) (by simp)
 | a :: l, [], _, _, h => absurd ((h a).1 (by simp)) (by simp)
 | a :: l, b :: m, hl, hm, h => by
  obtain ⟨l1, l2⟩ := List.pairwise_cons.1 hl
  obtain ⟨m1, m2⟩ := List.pairwise_cons.1 hm
  have hab : a = b := by
   rcases List.mem_cons.1 ((h a).1 (by simp)) with e | e
   ·exact e
   ·rcases List.mem_cons.1 ((h b).2 (by simp)) with e' | e'
    ·exact e'.symm
    ·have := l1 b e'; have := m1 a e; omega
  subst hab
  rw [Inc.ext l2 m2 fun x => ⟨fun hx => ?_, fun hx => ?_⟩]
  ·rcases List.mem_cons.1 ((h x).1 (by simp [hx])) with e | e
   ·have := l1 x hx; omega
   ·exact e
  ·rcases List.mem_cons.1 ((h x).2 (by simp [hx])) with e | e
   ·have := m1 x hx; omega
   ·exact e
theorem Inc.filter {l : List Int} (h : Inc l) (p : Int → Bool) : Inc (l.filter p) := List.Pairwise.filter p h
def nums (lo : Int) : Nat → List Int
 | 0 => []
 | k + 1 => lo :: nums (lo + 1) k
theorem ag4 {x : Int} : ∀ {k : Nat} {lo : Int}, x ∈ nums lo k ↔ lo ≤ x ∧ x < lo + k
 | 0, lo => by simp [nums]
 | k + 1, lo => by
  rw [nums, List.mem_cons, ag4 (k := k)]
  omega
theorem inc_nums : ∀ (k : Nat) (lo : Int), Inc (nums lo k)
 | 0, _ => .nil
 | k + 1, lo => List.pairwise_cons.2 ⟨fun x hx => by have := ag4.1 hx; omega, inc_nums k (lo + 1)⟩
theorem len_nums : ∀ (k : Nat) (lo : Int), (nums lo k).length = k
 | 0, _ => rfl
 | k + 1, lo => by simp [nums, len_nums k]
noncomputable def K8 (p : Int → Prop) (n : Int) : List Int := (nums 0 n.toNat).filter fun x => dec (p x)
theorem V7 {p : Int → Prop} {n x : Int} : x ∈ K8 p n ↔ 0 ≤ x ∧ x < n ∧ p x := by
 rw [K8, List.mem_filter, ag4, k7]
 constructor
 ·rintro ⟨⟨h1, h2⟩, h3⟩; exact ⟨h1, by omega, h3⟩
 ·rintro ⟨h1, h2, h3⟩; exact ⟨⟨h1, by omega⟩, h3⟩
theorem ae8 (p : Int → Prop) (n : Int) : Inc (K8 p n) := (inc_nums _ _).filter _
theorem setOf_congr {p q : Int → Prop} {n : Int} (h : ∀ x, 0 ≤ x → x < n → (p x ↔ q x)) : K8 p n = K8 q n := by
 refine List.filter_congr fun x hx => o6 ?_
 have := ag4.1 hx
 exact h x (by omega) (by omega)
def SetN (l : List Int) (n : Int) : Prop := Inc l ∧ ∀ x ∈ l, 0 ≤ x ∧ x < n
theorem setN_setOf (p : Int → Prop) (n : Int) : SetN (K8 p n) n := ⟨ae8 p n, fun x hx => by have := V7.1 hx; exact ⟨this.1, this.2.1⟩⟩
theorem SetN.eq {l : List Int} {n : Int} (h : SetN l n) : l = K8 (· ∈ l) n :=
 h.1.ext (ae8 _ _) fun x => ⟨fun hx => V7.2 ⟨(h.2 x hx).1, (h.2 x hx).2, hx⟩, fun hx => (V7.1 hx).2.2⟩
theorem SetN.eq_of {l : List Int} {n : Int} (h : SetN l n) {p : Int → Prop} (hp : ∀ x, 0 ≤ x → x < n → (x ∈ l ↔ p x)) : l = K8 p n :=
 h.eq.trans (setOf_congr hp)
theorem SetN.len {l : List Int} {n : Int} (h : SetN l n) : l.length ≤ n.toNat := by
 rw [h.eq, K8]
 exact Nat.le_trans (List.length_filter_le _ _) (Nat.le_of_eq (len_nums _ _))
theorem P7 (n : Int) : SetN [] n := ⟨.nil, by simp⟩
theorem forR_filter {α : Type} {l : List α} {b : Nat} {body : Int → List α → Option (List α)} (q : α → Prop)
  (hb : ∀ j a c, ix l j = some a → (q a → body j c = app b c [a]) ∧ (¬ q a → body j c = some c)) (c0 : List α) (hl : (c0.length + l.length) * b ≤ 140737488355328) :
  forR 0 (l.length : Int) body c0 = some (c0 ++ l.filter fun a => dec (q a)) := by
 obtain ⟨s', h1, h2⟩ := p9 (body := body) (n := (l.length : Int)) (s := c0) (fun j c => c = c0 ++ (l.take j.toNat).filter fun a => dec (q a)) (by omega) (by simp) (fun j c h0 h1 hP => by
  obtain ⟨a, g1, g2⟩ := i7 h0 h1
  have e : (j + 1).toNat = j.toNat + 1 := by omega
  have ht : l.take (j + 1).toNat = l.take j.toNat ++ [a] := by rw [e, List.take_add_one, g2]; rfl
  by_cases hq : q a
  ·have happ : app b c [a] = some (c ++ [a]) := by
    rw [app, if_pos]
    have h3 : ((l.take j.toNat).filter fun a => dec (q a)).length ≤ (l.take j.toNat).length := List.length_filter_le _ _
    rw [List.length_take] at h3
    have h5 : c.length + 1 ≤ c0.length + l.length := by rw [hP, List.length_append]; omega
    refine Nat.le_trans (Nat.mul_le_mul_right b ?_) hl
    simpa using h5
   refine ⟨c ++ [a], by rw [(hb j a c g1).1 hq, happ], ?_⟩
   rw [ht, List.filter_append, hP]
   simp [hq]
  ·refine ⟨c, (hb j a c g1).2 hq, ?_⟩
   rw [ht, List.filter_append, hP]
   simp [hq])
 rw [h1, h2]
 simp
theorem forR_setOf {b : Nat} {n : Int} {body : Int → List Int → Option (List Int)} (q : Int → Prop) (hn : 0 ≤ n) (hl : n.toNat * b ≤ 140737488355328)
  (hb : ∀ j c, 0 ≤ j → j < n → (q j → body j c = app b c [j]) ∧ (¬ q j → body j c = some c)) : forR 0 n body [] = some (K8 q n) := by
 obtain ⟨s', h1, h2⟩ := p9 (body := body) (n := n) (s := []) (fun j c => c = K8 q j) hn (by simp [K8, nums]) (fun j c h0 h1 hP => by
  have hs : K8 q (j + 1) = K8 q j ++ if dec (q j) = true then [j] else [] := by
   refine (ae8 q (j + 1)).ext ?_ fun x => ?_
   ·refine List.pairwise_append.2 ⟨ae8 _ _, by split <;> simp, fun a ha b hb => ?_⟩
    have := V7.1 ha
    split at hb
    ·simp at hb; omega
    ·cases hb
   ·rw [List.mem_append, V7, V7]
    by_cases hq : q j
    ·rw [if_pos (k8 hq)]
     simp only [List.mem_singleton]
     refine ⟨fun h => ?_, fun h => ?_⟩
     ·by_cases e : x = j
      ·exact .inr e
      ·exact .inl ⟨h.1, by omega, h.2.2⟩
     ·rcases h with h | rfl
      ·exact ⟨h.1, by omega, h.2.2⟩
      ·exact ⟨h0, by omega, hq⟩
    ·rw [if_neg (by simpa using hq)]
     simp only [List.not_mem_nil, or_false]
     refine ⟨fun h => ⟨h.1, ?_, h.2.2⟩, fun h => ⟨h.1, by omega, h.2.2⟩⟩
     rcases Int.lt_or_eq_of_le (Int.le_of_lt_add_one h.2.1) with e | e
     ·exact e
     ·rw [e] at h; exact absurd h.2.2 hq
  by_cases hq : q j
  ·refine ⟨c ++ [j], ?_, by rw [hs, hP, if_pos (k8 hq)]⟩
   rw [(hb j c h0 h1).1 hq, app, if_pos]
   have h3 : c.length ≤ j.toNat := by rw [hP]; exact (setN_setOf q j).len
   refine Nat.le_trans (Nat.mul_le_mul_right b ?_) hl
   simp; omega
  ·refine ⟨c, (hb j c h0 h1).2 hq, ?_⟩
   rw [hs, hP, if_neg (by simpa using hq), List.append_nil])
 rw [h1, h2]
end Ab
end
section
namespace Ab
open Go
theorem has_eq (l : List Int) (n : Int) : K5 l n = some (dec (n ∈ l)) := by
 unfold K5
 rw [rng_list (l := l) (fun a => a ≠ n) true (fun j a h => by
  unfold af5
  rw [h]
  by_cases e : a = n <;> simp [e])]
 by_cases h : n ∈ l
 ·rw [if_neg (by simp only [k7]; exact fun g => g n h rfl)]
  simp [h]
 ·rw [if_pos (by simp only [k7]; exact fun a ha e => h (e ▸ ha))]
  simp [h]
theorem subset_eq (part l : List Int) : O0 part l = some (dec (∀ x ∈ part, x ∈ l)) := by
 unfold O0
 rw [rng_list (l := part) (fun a => a ∈ l) false (fun j a h => by
  unfold Y1
  rw [h]
  by_cases e : a ∈ l <;> simp [e, has_eq])]
 by_cases h : ∀ x ∈ part, x ∈ l
 ·rw [if_pos (k8 h), k8 h]; rfl
 ·rw [if_neg (by rw [o4 h]; simp), o4 h]; rfl
theorem disjoint_eq (a b : List Int) : N3 a b = some (dec (∀ x ∈ a, x ∉ b)) := by
 unfold N3
 rw [rng_list (l := a) (fun x => x ∉ b) false (fun j x h => by
  unfold V0
  rw [h]
  by_cases e : x ∈ b <;> simp [e, has_eq])]
 by_cases h : ∀ x ∈ a, x ∉ b
 ·rw [if_pos (k8 h), k8 h]; rfl
 ·rw [if_neg (by rw [o4 h]; simp), o4 h]; rfl
theorem in_eq (n lo hi : Int) : N5 n lo hi = some (dec (lo ≤ n ∧ n ≤ hi)) := by
 unfold N5; rw [B6, B6, dec_and]
theorem at_eq (c i : Int) : I2 c i = some ⟨c, i⟩ := rfl
def stepOk (l : List Int) (n j : Int) : Prop := ∀ a, ix l j = some a → (0 ≤ a ∧ a < n) ∧ ∀ b, 0 < j → ix l (j - 1) = some b → b < a
theorem ab5 {l : List Int} {n : Int} : (∀ j : Int, 0 ≤ j → j < l.length → stepOk l n j) ↔ SetN l n := by
 constructor
 ·intro h
  refine ⟨inc_of_adj fun k a b h1 h2 => ?_, fun x hx => ?_⟩
  ·have hk := (List.getElem?_eq_some_iff.1 h2).1
   have := (h ((k + 1 : Nat) : Int) (by omega) (by omega) b (by rw [R2]; exact h2)).2 a (by omega)
   rw [show ((k + 1 : Nat) : Int) - 1 = (k : Nat) by omega] at this
   exact this (by rw [R2]; exact h1)
  ·obtain ⟨i, h1, h2, h3⟩ := k9 hx
   exact (h i h1 h2 x h3).1
 ·intro h j h0 h1 a ha
  refine ⟨h.2 a (j3 ha), fun b hj hb => ?_⟩
  obtain ⟨_, _, ga⟩ := j8 ha
  obtain ⟨_, _, gb⟩ := j8 hb
  exact h.1.get gb ga (by omega)
theorem ah1 (l : List Int) (n : Int) : A0 l n = some (dec (SetN l n)) := by
 unfold A0
 rcases s9 (body := O9 l n) (n := (l.length : Int)) (fun j => if dec (stepOk l n j) = true then none else some false) (by omega) (fun j h0 h1 _ => by
  obtain ⟨a, ha, _⟩ := i7 (l := l) h0 h1
  unfold O9
  rw [ha]
  simp only [ob]
  by_cases c1 : a < 0
  ·rw [if_pos c1, if_neg]
   ·rfl
   ·rw [k7]; intro h; have := (h a ha).1; omega
  ·rw [if_neg c1]
   by_cases c2 : n ≤ a
   ·rw [if_pos c2, if_neg]
    ·rfl
    ·rw [k7]; intro h; have := (h a ha).1; omega
   ·rw [if_neg c2]
    by_cases c3 : 0 < j
    ·obtain ⟨b, hb, _⟩ := i7 (l := l) (i := j - 1) (by omega) (by omega)
     rw [if_pos c3, hb]
     simp only [ob]
     by_cases c4 : a ≤ b
     ·rw [if_pos (by simpa using c4), if_neg]
      rw [k7]; intro h; have := (h a ha).2 b c3 hb; omega
     ·rw [if_neg (by simpa using c4), if_pos]
      rw [k7]; intro x hx
      rw [ha] at hx; cases hx
      exact ⟨by omega, fun y _ hy => by rw [hb] at hy; cases hy; omega⟩
    ·rw [if_neg c3]
     simp only [ob]
     rw [if_neg (by simp), if_pos]
     rw [k7]; intro x hx
     rw [ha] at hx; cases hx
     exact ⟨by omega, fun y hy => absurd hy c3⟩) with ⟨h1, h2⟩ | ⟨j, o, h0, h1, h2, _, h4⟩
 ·rw [h1, k8]
  ·rfl
  ·exact ab5.1 fun j g1 g2 => by have := h2 j g1 g2; simpa using this
 ·rw [h4]
  split at h2
  ·cases h2
  ·rename_i hs
   cases h2
   rw [o4]
   ·rfl
   ·exact fun h => hs (k8 (ab5.2 h j h0 h1))
theorem ae3 (l : List Int) {n : Int} (hn : -9223372036854775808 < n) (hn' : n ≤ 9223372036854775807) : D8 l n = some (dec (SetN l n)) := by
 unfold D8
 rcases s9 (body := U6 l n) (n := (l.length : Int)) (fun j => if dec (stepOk l n j) = true then none else some false) (by omega) (fun j h0 h1 _ => by
  obtain ⟨a, ha, _⟩ := i7 (l := l) h0 h1
  unfold U6
  rw [ha]
  simp only [ob, in_eq, q9 (n := n - 1) (by omega) (by omega), r7]
  by_cases c1 : 0 ≤ a ∧ a ≤ n - 1
  ·rw [if_neg (by simpa using c1)]
   by_cases c3 : 0 < j
   ·obtain ⟨b, hb, _⟩ := i7 (l := l) (i := j - 1) (by omega) (by omega)
    rw [if_pos c3, hb]
    simp only [ob]
    by_cases c4 : a ≤ b
    ·rw [if_pos (by simpa using c4), if_neg]
     rw [k7]; intro h; have := (h a ha).2 b c3 hb; omega
    ·rw [if_neg (by simpa using c4), if_pos]
     rw [k7]; intro x hx
     rw [ha] at hx; cases hx
     exact ⟨by omega, fun y _ hy => by rw [hb] at hy; cases hy; omega⟩
   ·rw [if_neg c3]
    simp only [ob]
    rw [if_neg (by simp), if_pos]
    rw [k7]; intro x hx
    rw [ha] at hx; cases hx
    exact ⟨by omega, fun y hy => absurd hy c3⟩
  ·rw [if_pos (by simpa using c1), if_neg]
   ·rfl
   ·rw [k7]; intro h; have := (h a ha).1; omega) with ⟨h1, h2⟩ | ⟨j, o, h0, h1, h2, _, h4⟩
 ·rw [h1, k8]
  ·rfl
  ·exact ab5.1 fun j g1 g2 => by have := h2 j g1 g2; simpa using this
 ·rw [h4]
  split at h2
  ·cases h2
  ·rename_i hs
   cases h2
   rw [o4]
   ·rfl
   ·exact fun h => hs (k8 (ab5.2 h j h0 h1))
theorem containsLoop {s : List Int} (hs : Inc s) (hl : s.length ≤ 1000000) (x : Int) {i : Int} (h0 : 0 ≤ i) (h1 : i ≤ s.length) (hlt : ∀ k a, 0 ≤ k → k < i → ix s k = some a → a < x) :
  ∃ i', Loop (E3 s x) i = some i' ∧ i ≤ i' ∧ i' ≤ s.length ∧ (∀ k a, 0 ≤ k → k < i' → ix s k = some a → a < x) ∧ (∀ a, ix s i' = some a → x ≤ a) := by
 obtain ⟨o, h2, h3⟩ := D5 (body := E3 s x) (fun j => i ≤ j ∧ j ≤ s.length ∧ ∀ k a, 0 ≤ k → k < j → ix s k = some a → a < x) (fun i' => i ≤ i' ∧ i' ≤ s.length ∧ (∀ k a, 0 ≤ k → k < i' → ix s k = some a → a < x) ∧ (∀ a, ix s i' = some a → x ≤ a)) (fun j => (s.length - j).toNat) (s := i) ⟨Int.le_refl _, h1, hlt⟩ (fun j ⟨g1, g2, g3⟩ => by
  unfold E3
  by_cases c : j < s.length
  ·obtain ⟨a, ha, _⟩ := i7 (l := s) (i := j) (by omega) c
   rw [if_pos c, ha]
   simp only [ob, decide_eq_true_eq]
   by_cases c2 : a < x
   ·rw [if_pos c2]
    rw [q9 (by omega) (by omega)]
    refine .inl ⟨j + 1, rfl, ⟨by omega, by omega, fun k b k0 k1 hb => ?_⟩, by omega⟩
    by_cases e : k = j
    ·subst e; rw [ha] at hb; cases hb; exact c2
    ·exact g3 k b k0 (by omega) hb
   ·rw [if_neg c2]
    exact .inr ⟨j, rfl, g1, g2, g3, fun b hb => by rw [ha] at hb; cases hb; omega⟩
  ·rw [if_neg c]
   exact .inr ⟨j, rfl, g1, g2, g3, fun b hb => by have := (j8 hb).2.1; omega⟩)
 exact ⟨o, h2, h3⟩
theorem T3 {s part : List Int} (hs : Inc s) (hp : Inc part) (hl : s.length ≤ 1000000) : w9 s part = some (dec (∀ x ∈ part, x ∈ s)) := by
 unfold w9
 rcases V4 (body := I9 s part) (n := (part.length : Int)) (fun j i => (0 ≤ i ∧ i ≤ s.length ∧ ∀ k a, 0 ≤ k → k < i → ix s k = some a → ∀ m x, j ≤ m → ix part m = some x → a < x) ∧ ∀ m x, 0 ≤ m → m < j → ix part m = some x → x ∈ s) (fun o => o = false ∧ ¬ ∀ x ∈ part, x ∈ s) (s := 0) (by omega) ⟨⟨by omega, by omega, fun k a h1 h2 => by omega⟩, fun m x h1 h2 => by omega⟩ (fun j i h0 h1 ⟨⟨g1, g2, g3⟩, g4⟩ => by
  obtain ⟨x, hx, gx⟩ := i7 (l := part) h0 h1
  unfold I9
  obtain ⟨i', e1, e2, e3, e4, e5⟩ := containsLoop hs hl x g1 g2 (fun k a k0 k1 ha => g3 k a k0 k1 ha j x (Int.le_refl _) hx)
  rw [hx]
  simp only [ob, e1]
  have nin : (∀ a, ix s i' = some a → x < a) → x ∉ s := fun hgt hin => by
   obtain ⟨k, k0, k1, hk⟩ := k9 hin
   rcases Int.lt_trichotomy k i' with c | c | c
   ·have := e4 k x k0 c hk; omega
   ·subst c; have := hgt x hk; omega
   ·obtain ⟨b, hb, gb⟩ := i7 (l := s) (i := i') (by omega) (by omega)
    obtain ⟨_, _, gk⟩ := j8 hk
    have := hs.get gb gk (by omega)
    have := e5 b hb
    omega
  by_cases c : i' = s.length
  ·rw [if_pos c]
   refine .inr ⟨false, rfl, rfl, fun h => ?_⟩
   exact nin (fun a ha => by have := (j8 ha).2.1; omega) (h x (j3 hx))
  ·rw [if_neg c]
   obtain ⟨b, hb, gb⟩ := i7 (l := s) (i := i') (by omega) (by omega)
   rw [hb]
   simp only [ob]
   have hxb := e5 b hb
   by_cases c2 : b = x
   ·subst c2
    rw [if_neg (by simp)]
    refine .inl ⟨i', rfl, ⟨by omega, e3, fun k a k0 k1 ha m y hm hy => ?_⟩, fun m y m0 m1 hy => ?_⟩
    ·obtain ⟨_, _, gy⟩ := j8 hy
     have := hp.get gx gy (by omega)
     have := e4 k a k0 k1 ha
     omega
    ·by_cases e : m = j
     ·subst e; rw [hx] at hy; cases hy; exact j3 hb
     ·exact g4 m y m0 (by omega) hy
   ·rw [if_pos (by simpa using c2)]
    refine .inr ⟨false, rfl, rfl, fun h => ?_⟩
    exact nin (fun a ha => by rw [hb] at ha; cases ha; omega) (h x (j3 hx))) with ⟨s', h1, _, h2⟩ | ⟨o, h1, rfl, h2⟩
 ·rw [h1, k8]
  ·rfl
  ·intro x hx
   obtain ⟨m, m0, m1, hm⟩ := k9 hx
   exact h2 m x m0 m1 hm
 ·rw [h1, o4 h2]; rfl
end Ab
end
section
namespace Ab
open Go
theorem half_eq {i j : Int} (h0 : 0 ≤ i) (h1 : i ≤ j) (h2 : j ≤ 1000000) : w64 (shrW .u64 ((IntKind.u64).wrap (w64 (i + j))) 1) = (i + j) / 2 := by
 rw [q9 (n := i + j) (by omega) (by omega), IntKind.wrap_u64, Int.emod_eq_of_lt (by omega) (by omega)]
 have : shrW .u64 (i + j) 1 = (i + j) / 2 := by
  simp only [shrW, IntKind.bits]
  rw [show min (1 : Int).toNat 64 = 1 by rfl, Int.fdiv_eq_ediv_of_nonneg _ (by decide)]
  rfl
 rw [this]
 exact q9 (by omega) (by omega)
theorem less_eq (a b : Int) : Q0 a b = some (decide (a < b)) := by simp [Q0, C5]
theorem bsearch_eq {xs : List Int} (hs : Inc xs) (hl : xs.length ≤ 500000) (t : Int) : ∃ i, n9 xs t = some (i, dec (t ∈ xs)) ∧ 0 ≤ i ∧ i ≤ xs.length ∧ (∀ k a, 0 ≤ k → k < i → ix xs k = some a → a < t) ∧ (∀ k a, i ≤ k → ix xs k = some a → t ≤ a) := by
 unfold n9
 obtain ⟨i, h1, h2, h3, h4, h5⟩ := D5 (body := w7 xs t) (fun p => (0 ≤ p.1 ∧ p.1 ≤ p.2 ∧ p.2 ≤ xs.length) ∧ (∀ k a, 0 ≤ k → k < p.1 → ix xs k = some a → a < t) ∧ (∀ k a, p.2 ≤ k → ix xs k = some a → t ≤ a))
  (fun i => 0 ≤ i ∧ i ≤ xs.length ∧ (∀ k a, 0 ≤ k → k < i → ix xs k = some a → a < t) ∧ (∀ k a, i ≤ k → ix xs k = some a → t ≤ a)) (fun p => (p.2 - p.1).toNat) (s := (0, (xs.length : Int)))
  ⟨⟨by simp, by simp, by simp⟩, fun k a h1 h2 => by simp at h2; omega, fun k a h1 h2 => by have := (j8 h2).2.1; simp at h1; omega⟩ (fun ⟨i, j⟩ ⟨⟨g1, g2, g3⟩, g4, g5⟩ => by
  dsimp only at g1 g2 g3 g4 g5 ⊢
  unfold w7
  dsimp only
  by_cases c : i < j
  ·rw [if_pos c, half_eq g1 g2 (by omega)]
   obtain ⟨a, ha, ga⟩ := i7 (l := xs) (i := (i + j) / 2) (by omega) (by omega)
   rw [ha]
   simp only [ob, less_eq, decide_eq_true_eq]
   by_cases c2 : a < t
   ·rw [if_pos c2, q9 (by omega) (by omega)]
    refine .inl ⟨_, rfl, ⟨⟨by dsimp only; omega, by dsimp only; omega, g3⟩, fun k b k0 k1 hb => ?_, g5⟩, by dsimp only; omega⟩
    dsimp only at k1
    obtain ⟨_, _, gb⟩ := j8 hb
    by_cases e : k = (i + j) / 2
    ·subst e; rw [ha] at hb; cases hb; exact c2
    ·have := hs.get gb ga (by omega); omega
   ·rw [if_neg c2]
    refine .inl ⟨_, rfl, ⟨⟨g1, by dsimp only; omega, by dsimp only; omega⟩, g4, fun k b k0 hb => ?_⟩, by dsimp only; omega⟩
    dsimp only at k0
    obtain ⟨_, _, gb⟩ := j8 hb
    by_cases e : k = (i + j) / 2
    ·subst e; rw [ha] at hb; cases hb; omega
    ·have := hs.get ga gb (by omega); omega
  ·rw [if_neg c]
   have : i = j := by omega
   subst this
   exact .inr ⟨i, rfl, g1, g3, g4, g5⟩)
 rw [h1]
 simp only [ob]
 refine ⟨i, ?_, h2, h3, h4, h5⟩
 have nin : (∀ a, ix xs i = some a → a ≠ t) → t ∉ xs := fun hne hin => by
  obtain ⟨k, k0, k1, hk⟩ := k9 hin
  rcases Int.lt_trichotomy k i with c | c | c
  ·have := h4 k t k0 c hk; omega
  ·subst c; exact hne t hk rfl
  ·obtain ⟨b, hb, gb⟩ := i7 (l := xs) (i := i) (by omega) (by omega)
   obtain ⟨_, _, gk⟩ := j8 hk
   have := hs.get gb gk (by omega)
   have := h5 i b (Int.le_refl _) hb
   omega
 by_cases c : i < xs.length
 ·obtain ⟨a, ha, ga⟩ := i7 (l := xs) (i := i) (by omega) c
  rw [if_pos c, ha]
  simp only [ob]
  by_cases c2 : a = t
  ·subst c2
   rw [if_pos rfl, k8 (j3 ha)]
   rfl
  ·rw [if_neg c2]
   simp only [G9, decide_true, Bool.not_true, Bool.false_eq_true, if_false, ob]
   rw [o4 (nin fun b hb => by rw [ha] at hb; cases hb; exact c2)]
 ·rw [if_neg c]
  simp only [ob]
  rw [o4 (nin fun b hb => by have := (j8 hb).2.1; omega)]
theorem bsearch2 {xs : List Int} (hs : Inc xs) (hl : xs.length ≤ 500000) (t : Int) : ∃ i, n9 xs t = some (i, dec (t ∈ xs)) :=
 let ⟨i, h, _⟩ := bsearch_eq hs hl t
 ⟨i, h⟩
theorem containsFunc_eq {l : List Int} {f : Int → Option Bool} (p : Int → Prop) (hf : ∀ x ∈ l, f x = some (dec (p x))) : l7 l f = some (dec (∃ x ∈ l, p x)) := by
 unfold l7 x7
 rcases s9 (body := o8 l f) (n := (l.length : Int)) (fun j => if dec (∀ a, ix l j = some a → ¬ p a) = true then none else some j) (by omega) (fun j h0 h1 _ => by
  obtain ⟨a, ha, _⟩ := i7 (l := l) h0 h1
  unfold o8
  rw [ha]
  simp only [ob, hf a (j3 ha)]
  by_cases c : p a
  ·rw [if_pos (k8 c), if_neg (by rw [k7]; exact fun h => h a rfl c)]
  ·rw [if_neg (by rw [o4 c]; simp), if_pos (k8 fun b hb => by cases hb; exact c)]) with ⟨h1, h2⟩ | ⟨j, o, h0, h1, h2, _, h4⟩
 ·rw [h1]
  simp only [ob]
  rw [o4]
  ·rfl
  ·rintro ⟨x, hx, hp⟩
   obtain ⟨i, g1, g2, g3⟩ := k9 hx
   have := h2 i g1 g2
   split at this
   ·rename_i h; exact k7.1 h x g3 hp
   ·cases this
 ·rw [h4]
  split at h2
  ·cases h2
  ·rename_i h
   cases h2
   simp only [ob]
   rw [k8]
   ·simp [h0]
   ·simp only [k7] at h
    obtain ⟨a, g1, _⟩ := i7 (l := l) h0 h1
    refine ⟨a, j3 g1, ?_⟩
    rcases Classical.em (p a) with c | c
    ·exact c
    ·exact absurd (fun b hb => by rw [g1] at hb; cases hb; exact c) h
theorem meets_eq {a b : List Int} (hb : Inc b) (hl : b.length ≤ 500000) : Q3 a b = some (dec (∃ x ∈ a, x ∈ b)) := by
 unfold Q3
 rw [containsFunc_eq (fun x => x ∈ b) (fun x _ => by
  unfold R9
  obtain ⟨i, h⟩ := bsearch2 hb hl x
  rw [h]; rfl)]
 rfl
/-! ### Sorted, and equal neighbours made one -/
theorem compact_spec {l : List Int} (hs : l.Pairwise (· ≤ ·)) : Inc (U7 l) ∧ ∀ x, x ∈ U7 l ↔ x ∈ l := by
 have key : ∀ m, m ≤ l.length → Inc (Go.Lib.compactUpTo l.toArray m) ∧ (∀ x, x ∈ Go.Lib.compactUpTo l.toArray m ↔ x ∈ l.take m) := by
  intro m
  induction m with
  | zero => intro _; simp [Go.Lib.compactUpTo]
  | succ m ih =>
   intro hm
   obtain ⟨h1, h2⟩ := ih (by omega)
   have hlt : m < l.length := by omega
   have hd : l.toArray[m]! = l[m] := by simp [hlt]
   have ht : l.take (m + 1) = l.take m ++ [l[m]] := by rw [List.take_add_one]; simp [hlt]
   rw [Go.Lib.compactUpTo_succ, ht]
   by_cases hk : Go.Lib.keeps l.toArray m = true
   ·rw [if_pos hk, hd]
    refine ⟨List.pairwise_append.2 ⟨h1, by simp, fun a ha b hb => ?_⟩, fun x => by rw [List.mem_append, List.mem_append, h2]⟩
    simp only [List.mem_singleton] at hb
    subst hb
    have ha' := (h2 a).1 ha
    obtain ⟨i, hi, rfl⟩ := List.mem_iff_getElem.1 ha'
    rw [List.length_take] at hi
    rw [List.getElem_take]
    simp only [Go.Lib.keeps, decide_eq_true_eq] at hk
    rcases hk with hk | hk
    ·omega
    ·have hm1 : l.toArray[m - 1]! = l[m - 1] := by simp [show m - 1 < l.length by omega]
     rw [hd, hm1] at hk
     have e1 : l[m - 1] ≤ l[m] := List.pairwise_iff_getElem.1 hs (m - 1) m (by omega) hlt (by omega)
     have e2 : l[i] ≤ l[m - 1] := by
      rcases Nat.lt_or_ge i (m - 1) with c | c
      ·exact List.pairwise_iff_getElem.1 hs i (m - 1) (by omega) (by omega) c
      ·have : i = m - 1 := by omega
       subst this; exact Int.le_refl _
     omega
   ·rw [if_neg hk, List.append_nil]
    refine ⟨h1, fun x => ?_⟩
    rw [h2, List.mem_append]
    refine ⟨.inl, fun h => ?_⟩
    rcases h with h | h
    ·exact h
    ·simp only [List.mem_singleton] at h
     subst h
     have hm0 : m ≠ 0 := fun e => hk (by simp [Go.Lib.keeps, e])
     have hm1 : l.toArray[m - 1]! = l[m - 1] := by simp [show m - 1 < l.length by omega]
     have he : l[m] = l[m - 1] := by
      simp only [Go.Lib.keeps, decide_eq_true_eq, not_or] at hk
      have h3 : l.toArray[m]! = l.toArray[m - 1]! := Classical.not_not.1 (fun h => hk.2 h)
      rw [hd, hm1] at h3; exact h3
     rw [he, List.mem_take_iff_getElem]
     exact ⟨m - 1, by omega, rfl⟩
 obtain ⟨h1, h2⟩ := key l.length (Nat.le_refl _)
 refine ⟨?_, fun x => ?_⟩
 ·simpa [U7, Go.Lib.compact] using h1
 ·have := h2 x
  rw [List.take_length] at this
  simpa [U7, Go.Lib.compact] using this
theorem srt_spec (l : List Int) : (srt l).Pairwise (· ≤ ·) ∧ ∀ x, x ∈ srt l ↔ x ∈ l := by
 refine ⟨?_, fun x => by simp [srt]⟩
 have := List.pairwise_mergeSort (le := fun x y : Int => decide (x ≤ y)) (fun a b c h1 h2 => by simp at h1 h2 ⊢; omega) (fun a b => by simp; omega) l
 refine this.imp fun h => by simpa using h
theorem sortL_eq {l : List Int} (h : l.length < 4611686018427387904) : sortL l = some (srt l) := by rw [sortL, if_pos h]
theorem update_inc {s add del : List Int} (hd : Inc del) (hl : del.length ≤ 500000) (h1 : s.length ≤ 500000) (h2 : add.length ≤ 500000) :
  ∃ r, F4 s add del = some r ∧ Inc r ∧ ∀ x, x ∈ r ↔ (x ∈ s ∧ x ∉ del) ∨ x ∈ add := by
 unfold F4
 rw [forR_filter (l := s) (b := 8) (fun a => a ∉ del) (fun j a c h => by
  obtain ⟨i, hi⟩ := bsearch2 hd hl a
  unfold V2
  rw [h]
  simp only [ob, hi, r7]
  refine ⟨fun hq => ?_, fun hq => ?_⟩
  ·rw [if_pos (k8 hq)]
   cases app 8 c [a] <;> rfl
  ·rw [if_neg (by simpa using hq)]; rfl) [] (by simp; omega)]
 simp only [ob, List.nil_append]
 have hle : (s.filter fun a => dec (a ∉ del)).length ≤ s.length := List.length_filter_le _ _
 rw [show app 8 (s.filter fun a => dec (a ∉ del)) add = some ((s.filter fun a => dec (a ∉ del)) ++ add) by rw [app, if_pos]; omega]
 simp only [ob]
 rw [sortL_eq (by rw [List.length_append]; omega)]
 simp only [ob]
 obtain ⟨e1, e2⟩ := srt_spec ((s.filter fun a => dec (a ∉ del)) ++ add)
 obtain ⟨e3, e4⟩ := compact_spec e1
 refine ⟨_, rfl, e3, fun x => ?_⟩
 rw [e4, e2, List.mem_append, List.mem_filter, k7]
theorem update_eq {s add del : List Int} {n : Int} (hn : n ≤ 1000) (hd : Inc del) (hl : del.length ≤ 500000) (hs : SetN s n) (ha : SetN add n) :
  F4 s add del = some (K8 (fun x => (x ∈ s ∧ x ∉ del) ∨ x ∈ add) n) := by
 have h1 := hs.len; have h2 := ha.len
 obtain ⟨r, e1, e2, e3⟩ := update_inc (s := s) (add := add) hd hl (by omega) (by omega)
 rw [e1, SetN.eq_of (n := n) ⟨e2, fun x hx => ?_⟩ (fun x _ _ => e3 x)]
 rcases (e3 x).1 hx with h | h
 ·exact hs.2 x h.1
 ·exact ha.2 x h
end Ab
end
section
namespace Ab
open Go
theorem fault_no {f : l6} (h : f.code ≠ 0) : (!((decide (f.code = 0)) && (decide (f.index = 0)))) = true := by simp [h]
theorem ah6 {s : List Int} (h : s.length ≤ 1000000) : u5 s = some s := by
 rw [u5, app, if_pos (by simp; omega)]; rfl
end Ab
end
section
namespace Ab
open Go
theorem setN1 (a : Int) {n : Int} (h0 : 0 ≤ a) (h1 : a < n) : SetN [a] n := ⟨by simp, by simp [h0, h1]⟩
theorem subL_drop {α : Type} {l : List α} {i : Int} (h0 : 0 ≤ i) (h1 : i ≤ l.length) : subL l i (l.length : Int) = some (l.drop i.toNat) := by
 rw [subL, if_pos (by omega)]
 rw [show ((l.length : Int)).toNat = l.length by omega, List.take_length]
theorem subL_take {α : Type} {l : List α} {i : Int} (h0 : 0 ≤ i) (h1 : i ≤ l.length) : subL l 0 i = some (l.take i.toNat) := by
 rw [subL, if_pos (by omega)]; rfl
end Ab
end
section
namespace Ab
open Go
def llt : List Int → List Int → Prop
 | [], [] => False
 | [], _ :: _ => True
 | _ :: _, [] => False
 | a :: l, b :: m => a < b ∨ a = b ∧ llt l m
theorem D9 : ∀ l : List Int, ¬ llt l l
 | [] => id
 | a :: l => fun h => by
  rcases h with h | ⟨_, h⟩
  ·omega
  ·exact D9 l h
theorem C6 : ∀ {a b c : List Int}, llt a b → llt b c → llt a c
 | [], [], _, h, _ => h.elim
 | [], _ :: _, [], _, h => h.elim
 | [], _ :: _, _ :: _, _, _ => trivial
 | _ :: _, [], _, h, _ => h.elim
 | _ :: _, _ :: _, [], _, h => h.elim
 | x :: a, y :: b, z :: c, h, g => by
  rcases h with h | ⟨rfl, h⟩ <;> rcases g with g | ⟨rfl, g⟩
  ·exact .inl (by omega)
  ·exact .inl h
  ·exact .inl g
  ·exact .inr ⟨rfl, C6 h g⟩
theorem M4 : ∀ a b : List Int, llt a b ∨ a = b ∨ llt b a
 | [], [] => .inr (.inl rfl)
 | [], _ :: _ => .inl trivial
 | _ :: _, [] => .inr (.inr trivial)
 | x :: a, y :: b => by
  rcases Int.lt_trichotomy x y with h | rfl | h
  ·exact .inl (.inl h)
  ·rcases M4 a b with h | rfl | h
   ·exact .inl (.inr ⟨rfl, h⟩)
   ·exact .inr (.inl rfl)
   ·exact .inr (.inr (.inr ⟨rfl, h⟩))
  ·exact .inr (.inr (.inl h))
theorem llt_asymm {a b : List Int} (h : llt a b) (g : llt b a) : False := D9 a (C6 h g)
noncomputable def cmpL (a b : List Int) : Int := if dec (llt a b) = true then -1 else if dec (a = b) = true then 0 else 1
theorem M2 {a b : List Int} : cmpL a b < 0 ↔ llt a b := by
 unfold cmpL
 by_cases h : llt a b
 ·rw [ifP h]; simp [h]
 ·rw [ifN h]
  split <;> simp [h]
theorem cmpL_eq {a b : List Int} : cmpL a b = 0 ↔ a = b := by
 unfold cmpL
 by_cases h : llt a b
 ·rw [ifP h]
  constructor
  ·intro e; omega
  ·rintro rfl; exact absurd h (D9 _)
 ·rw [ifN h]
  by_cases g : a = b
  ·rw [ifP g]; simp [g]
  ·rw [ifN g]; simp [g]
theorem cmpL_ge {a b : List Int} : 0 ≤ cmpL a b ↔ ¬ llt a b := by rw [← M2]; omega
theorem cmpInt_eq (x y : Int) : J4 x y = some (if x < y then -1 else if y < x then 1 else 0) := by
 unfold J4 C5
 simp only [decide_true, Bool.not_true, ob, Bool.false_eq_true, if_false]
 split
 ·rfl
 ·split <;> rfl
theorem ah5 : ∀ {a b : List Int} (k : Nat), k ≤ a.length → k ≤ b.length → a.take k = b.take k → (llt a b ↔ llt (a.drop k) (b.drop k))
 | _, _, 0, _, _, _ => by simp
 | [], _, k + 1, h, _, _ => by simp at h
 | _ :: _, [], k + 1, _, h, _ => by simp at h
 | x :: a, y :: b, k + 1, h1, h2, h3 => by
  simp only [List.take_succ_cons, List.cons.injEq] at h3
  obtain ⟨rfl, h3⟩ := h3
  simp only [List.drop_succ_cons]
  rw [← ah5 k (by simpa using h1) (by simpa using h2) h3]
  simp [llt]
theorem W8 (a b : List Int) : slices_Compare_int_int a b = some (cmpL a b) := by
 unfold slices_Compare_int_int
 rcases V4 (body := B2 a b) (n := (a.length : Int)) (s := ()) (fun j _ => j ≤ b.length ∧ a.take j.toNat = b.take j.toNat) (fun o => o = cmpL a b) (by omega) ⟨by omega, by simp⟩ (fun j _ j0 j1 ⟨k1, k2⟩ => by
  obtain ⟨x, hx, gx⟩ := i7 (l := a) j0 j1
  have hxl := (List.getElem?_eq_some_iff.1 gx).2
  unfold B2
  rw [hx]
  simp only [ob]
  have hd := ah5 (a := a) (b := b) j.toNat (by omega) (by omega) k2
  have da : a.drop j.toNat = x :: a.drop (j.toNat + 1) := by rw [← hxl]; exact List.drop_eq_getElem_cons (by omega)
  by_cases c : (b.length : Int) ≤ j
  ·rw [if_pos c]
   refine .inr ⟨_, rfl, ?_⟩
   have db : b.drop j.toNat = [] := List.drop_of_length_le (by omega)
   rw [da, db] at hd
   unfold cmpL
   rw [ifN (fun h => (hd.1 h).elim), ifN]
   rintro rfl; omega
  ·rw [if_neg c]
   obtain ⟨y, hy, gy⟩ := i7 (l := b) (i := j) j0 (by omega)
   have hyl := (List.getElem?_eq_some_iff.1 gy).2
   have db : b.drop j.toNat = y :: b.drop (j.toNat + 1) := by rw [← hyl]; exact List.drop_eq_getElem_cons (by omega)
   rw [hy]
   simp only [ob, cmpInt_eq]
   rw [da, db] at hd
   have hne : x ≠ y → a ≠ b := fun h e => by subst e; rw [hx] at hy; cases hy; exact h rfl
   rcases Int.lt_trichotomy x y with h | rfl | h
   ·rw [if_pos h, if_neg (by decide)]
    refine .inr ⟨_, rfl, ?_⟩
    unfold cmpL
    rw [ifP (hd.2 (.inl h))]
   ·simp only [Int.lt_irrefl, if_false, if_true]
    refine .inl ⟨(), trivial, by omega, ?_⟩
    rw [show (j + 1).toNat = j.toNat + 1 by omega, List.take_add_one, List.take_add_one, gx, gy, k2]
   ·rw [if_neg (show ¬ x < y by omega), if_pos h, if_neg (by decide)]
    refine .inr ⟨_, rfl, ?_⟩
    unfold cmpL
    rw [ifN, ifN (hne (by omega))]
    intro g
    rcases hd.1 g with g | ⟨g, _⟩ <;> omega) with ⟨_, r1, r2, r3⟩ | ⟨o, r1, rfl⟩
 ·rw [r1]
  simp only [ob]
  have hd := ah5 (a := a) (b := b) a.length (Nat.le_refl _) (by omega) (by simpa using r3)
  have da : a.drop a.length = [] := by simp
  rw [da] at hd
  have e3 : a = b.take a.length := by simpa using r3
  by_cases c : (a.length : Int) < b.length
  ·rw [if_pos c]
   have : b.drop a.length ≠ [] := by simp; omega
   unfold cmpL
   rw [ifP]
   rw [hd]
   cases h : b.drop a.length with
   | nil => exact absurd h this
   | cons x l => trivial
  ·rw [if_neg c]
   have : a = b := by rw [e3, List.take_of_length_le (by omega)]
   rw [cmpL_eq.2 this]
 ·rw [r1]; rfl
theorem cmp_ok : CmpOk slices_Compare_int_int cmpL := by
 refine ⟨W8, ⟨fun x => ?_, fun x y z h1 h2 => ?_, fun x y z h1 h2 => ?_⟩, fun a b h1 h2 => ?_⟩
 ·simp only [Go.Proofs.ltOf, decide_eq_false_iff_not, M2]
  exact D9 x
 ·simp only [Go.Proofs.ltOf, decide_eq_true_eq, M2] at h1 h2 ⊢
  exact C6 h1 h2
 ·simp only [Go.Proofs.ltOf, decide_eq_false_iff_not, M2] at h1 h2 ⊢
  intro h
  rcases M4 x y with g | rfl | g
  ·exact h1 g
  ·exact h2 h
  ·exact h2 (C6 g h)
 ·rw [M2] at h1 h2
  rcases M4 a b with g | g | g
  ·exact absurd g h1
  ·exact g
  ·exact absurd g h2
/-! ### Lists compared -/
theorem listEq {α : Type} {a b : List α} {body : Int → Unit → Option (Unit ⊕ Bool)} (hl : a.length = b.length) (hb : ∀ j x y, ix a j = some x → ix b j = some y → (x = y ∧ body j () = some (.inl ())) ∨ (x ≠ y ∧ body j () = some (.inr false))) :
  (Option.bind (rngX 0 (a.length : Int) body ()) fun | .inl _ => some true | .inr x => some x) = some (dec (a = b)) := by
 rcases s9 (body := body) (n := (a.length : Int)) (fun j => if dec (ix a j = ix b j) = true then none else some false) (by omega) (fun j h0 h1 _ => by
  obtain ⟨x, hx, _⟩ := i7 (l := a) h0 h1
  obtain ⟨y, hy, _⟩ := i7 (l := b) (i := j) h0 (by omega)
  rcases hb j x y hx hy with ⟨e, h⟩ | ⟨e, h⟩
  ·rw [h, ifP (by rw [hx, hy, e])]
  ·rw [h, ifN (by rw [hx, hy]; simpa using e)]) with ⟨h1, h2⟩ | ⟨j, o, h0, h1, h2, _, h4⟩
 ·rw [h1, k8]
  ·rfl
  ·refine List.ext_getElem? fun k => ?_
   by_cases hk : k < a.length
   ·have := h2 k (by omega) (by omega)
    split at this
    ·rename_i e
     have := k7.1 e
     rwa [R2, R2] at this
    ·cases this
   ·rw [List.getElem?_eq_none (by omega), List.getElem?_eq_none (by omega)]
 ·rw [h4]
  split at h2
  ·cases h2
  ·rename_i e
   cases h2
   rw [o4 (fun h => e (k8 (by rw [h])))]; rfl
theorem ints_eq (a b : List Int) : G3 a b = some (dec (a = b)) := by
 unfold G3
 by_cases hl : (a.length : Int) = b.length
 ·rw [if_pos hl]
  refine listEq (by omega) fun j x y hx hy => ?_
  unfold ac9
  simp only [hx, hy, ob]
  by_cases e : x = y
  ·rw [if_pos e]; exact .inl ⟨e, rfl⟩
  ·rw [if_neg e]; exact .inr ⟨e, rfl⟩
 ·rw [if_neg hl, o4 (fun h => hl (by rw [h]))]
theorem equal_eq (a b : List Int) : u4 a b = some (dec (a = b)) := by
 unfold u4
 by_cases hl : (a.length : Int) = b.length
 ·rw [if_pos hl]
  refine listEq (by omega) fun j x y hx hy => ?_
  unfold H8
  simp only [hx, hy, ob]
  by_cases e : x = y
  ·rw [if_pos e]; exact .inl ⟨e, rfl⟩
  ·rw [if_neg e]; exact .inr ⟨e, rfl⟩
 ·rw [if_neg hl, o4 (fun h => hl (by rw [h]))]
theorem place_eq (l : LL) (s : List Int) : ∃ r, J1 l s = some r ∧ ((r = -1 ∧ s ∉ l) ∨ (0 ≤ r ∧ r < l.length ∧ ix l r = some s ∧ ∀ j, 0 ≤ j → j < r → ix l j ≠ some s)) := by
 unfold J1
 rcases s9 (body := T9 l s) (n := (l.length : Int)) (fun j => if dec (ix l j = some s) = true then some j else none) (by omega) (fun j h0 h1 _ => by
  obtain ⟨x, hx, _⟩ := i7 (l := l) h0 h1
  unfold T9
  simp only [hx, ob, ints_eq]
  by_cases e : x = s
  ·rw [ifP e, ifP (by rw [e])]
  ·rw [ifN e, ifN (by simpa using e)]) with ⟨h1, h2⟩ | ⟨j, o, h0, h1, h2, h3, h4⟩
 ·rw [h1]
  refine ⟨-1, rfl, .inl ⟨rfl, fun hs => ?_⟩⟩
  obtain ⟨i, i0, i1, hi⟩ := k9 hs
  have := h2 i i0 i1
  rw [ifP hi] at this
  cases this
 ·rw [h4]
  split at h2
  ·rename_i e
   cases h2
   refine ⟨_, rfl, .inr ⟨h0, h1, k7.1 e, fun i i0 i1 => ?_⟩⟩
   have := h3 i i0 i1
   split at this
   ·cases this
   ·rename_i e
    exact fun h => e (k8 h)
  ·cases h2
/-! ### Ordered lists -/
abbrev Ord (l : LL) : Prop := l.Pairwise llt
theorem Ord.ext : ∀ {l m : LL}, Ord l → Ord m → (∀ x, x ∈ l ↔ x ∈ m) → l = m
 | [], [], _, _, _ => rfl
 | [], b :: m, _, _, h => absurd ((h b).2 (by simp)) (by simp)
 | a :: l, [], _, _, h => absurd ((h a).1 (by simp)) (by simp)
 | a :: l, b :: m, hl, hm, h => by
  obtain ⟨l1, l2⟩ := List.pairwise_cons.1 hl
  obtain ⟨m1, m2⟩ := List.pairwise_cons.1 hm
  have hab : a = b := by
   rcases List.mem_cons.1 ((h a).1 (by simp)) with e | e
   ·exact e
   ·rcases List.mem_cons.1 ((h b).2 (by simp)) with e' | e'
    ·exact e'.symm
    ·exact (llt_asymm (l1 b e') (m1 a e)).elim
  subst hab
  rw [Ord.ext l2 m2 fun x => ⟨fun hx => ?_, fun hx => ?_⟩]
  ·rcases List.mem_cons.1 ((h x).1 (by simp [hx])) with e | e
   ·subst e; exact absurd (l1 x hx) (D9 x)
   ·exact e
  ·rcases List.mem_cons.1 ((h x).2 (by simp [hx])) with e | e
   ·subst e; exact absurd (m1 x hx) (D9 x)
   ·exact e
theorem Ord.get {l : LL} (h : Ord l) {i j : Int} {a b : List Int} (hi : ix l i = some a) (hj : ix l j = some b) (hij : i < j) : llt a b := by
 obtain ⟨i0, i1, hi⟩ := j8 hi
 obtain ⟨j0, j1, hj⟩ := j8 hj
 obtain ⟨h1, rfl⟩ := List.getElem?_eq_some_iff.1 hi
 obtain ⟨h2, rfl⟩ := List.getElem?_eq_some_iff.1 hj
 exact List.pairwise_iff_getElem.1 h _ _ h1 h2 (by omega)
theorem Ord.inj {l : LL} (h : Ord l) {i j : Int} {a : List Int} (hi : ix l i = some a) (hj : ix l j = some a) : i = j := by
 rcases Int.lt_trichotomy i j with e | e | e
 ·exact absurd (h.get hi hj e) (D9 a)
 ·exact e
 ·exact absurd (h.get hj hi e) (D9 a)
def ddN (l : LL) : Nat → LL
 | 0 => []
 | m + 1 => ddN l m ++ if decide (m = 0 ∨ l[m]? ≠ l[m - 1]?) = true then l[m]?.toList else []
theorem ddN_spec {l : LL} (hs : l.Pairwise fun a b => ¬ llt b a) : ∀ m, m ≤ l.length → Ord (ddN l m) ∧ ∀ x, x ∈ ddN l m ↔ x ∈ l.take m := by
 intro m
 induction m with
 | zero => intro _; simp [ddN]
 | succ m ih =>
  intro hm
  obtain ⟨h1, h2⟩ := ih (by omega)
  have hlt : m < l.length := by omega
  have ht : l.take (m + 1) = l.take m ++ [l[m]] := by rw [List.take_add_one]; simp [hlt]
  rw [ddN, ht]
  by_cases hk : m = 0 ∨ l[m]? ≠ l[m - 1]?
  ·rw [if_pos (by simpa using hk)]
   simp only [List.getElem?_eq_getElem hlt, Option.toList_some]
   refine ⟨List.pairwise_append.2 ⟨h1, by simp, fun a ha b hb => ?_⟩, fun x => by rw [List.mem_append, List.mem_append, h2]⟩
   simp only [List.mem_singleton] at hb
   subst hb
   have ha' := (h2 a).1 ha
   obtain ⟨i, hi, rfl⟩ := List.mem_iff_getElem.1 ha'
   rw [List.length_take] at hi
   rw [List.getElem_take]
   rcases hk with hk | hk
   ·omega
   ·have hm1 : m - 1 < l.length := by omega
    rw [List.getElem?_eq_getElem hlt, List.getElem?_eq_getElem hm1] at hk
    have e1 : ¬ llt l[m] l[m - 1] := List.pairwise_iff_getElem.1 hs (m - 1) m hm1 hlt (by omega)
    have e2 : llt l[m - 1] l[m] := by
     rcases M4 l[m - 1] l[m] with h | h | h
     ·exact h
     ·exact absurd (by rw [h]) hk
     ·exact absurd h e1
    by_cases hi2 : i = m - 1
    ·subst hi2; exact e2
    ·have e3 : ¬ llt l[m - 1] l[i] := List.pairwise_iff_getElem.1 hs i (m - 1) (by omega) hm1 (by omega)
     rcases M4 l[i] l[m] with h | h | h
     ·exact h
     ·rw [h] at e3; exact absurd e2 e3
     ·exact absurd (C6 e2 h) e3
  ·rw [if_neg (by simpa using hk), List.append_nil]
   refine ⟨h1, fun x => ?_⟩
   rw [h2, List.mem_append]
   refine ⟨.inl, fun h => ?_⟩
   rcases h with h | h
   ·exact h
   ·simp only [List.mem_singleton] at h
    subst h
    have hm0 : m ≠ 0 := fun e => hk (.inl e)
    have he : l[m]? = l[m - 1]? := Classical.not_not.1 fun e => hk (.inr e)
    rw [List.getElem?_eq_getElem hlt, List.getElem?_eq_getElem (show m - 1 < l.length by omega)] at he
    rw [Option.some.inj he, List.mem_take_iff_getElem]
    exact ⟨m - 1, by omega, rfl⟩
theorem ddN_len (l : LL) : ∀ m, (ddN l m).length ≤ m
 | 0 => by simp [ddN]
 | m + 1 => by
  have := ddN_len l m
  rw [ddN, List.length_append]
  split
  ·have : (l[m]?.toList).length ≤ 1 := by cases l[m]? <;> simp
   omega
  ·simp; omega
theorem ddN_all {l : LL} : ∀ m, m ≤ l.length → (∀ i, 0 < i → i < m → l[i]? ≠ l[i - 1]?) → ddN l m = l.take m
 | 0, _, _ => by simp [ddN]
 | m + 1, hm, h => by
  rw [ddN, ddN_all m (by omega) fun i h0 h1 => h i h0 (by omega), if_pos, List.take_add_one]
  rw [decide_eq_true_eq]
  by_cases e : m = 0
  ·exact .inl e
  ·exact .inr (h m (by omega) (by omega))
theorem compactF_eq {l : LL} (hl : l.length ≤ 1000000) : r8 l = some (ddN l l.length) := by
 unfold r8
 by_cases c0 : (l.length : Int) < 2
 ·rw [if_pos c0, ddN_all l.length (Nat.le_refl _) fun i h0 h1 => by omega, List.take_length]
 ·rw [if_neg c0]
  have key := rngN_inv (body := n7 l) (fun j _ => ∀ i : Nat, 0 < i → (i : Int) < j → l[i]? ≠ l[i - 1]?) (fun o => o = ddN l l.length) ((l.length : Int) - 1).toNat 1 () (fun i h0 h1 => by omega) (fun j _ j0 j1 hP => by
   obtain ⟨a, ha, ga⟩ := i7 (l := l) (i := j) (by omega) (by omega)
   obtain ⟨b, hb, gb⟩ := i7 (l := l) (i := j - 1) (by omega) (by omega)
   unfold n7
   simp only [ha, hb, ob, equal_eq]
   have ej : (j - 1).toNat = j.toNat - 1 := by omega
   rw [ej] at gb
   by_cases c : a = b
   ·rw [ifP c]
    subst c
    right
    rw [show cutV (l.length : Int) j (l.length : Int) = some () by rw [cutV, if_pos (by omega)]]
    simp only [ob]
    obtain ⟨⟨cs, kv⟩, r1, r2, r3, r4, r5, r6⟩ := forN_inv (body := o9 l j) (fun k2 p => p.1.length = l.length ∧ j ≤ p.2 ∧ p.2 ≤ j + k2 - 1 ∧ p.1.take p.2.toNat = ddN l (j + k2).toNat ∧ ∀ i : Nat, j + k2 - 1 ≤ i → p.1[i]? = l[i]?) ((l.length : Int) - j - 1).toNat 1 (l, j) ⟨rfl, by simp, by dsimp only; omega, by
      dsimp only
      rw [show (j + 1).toNat = j.toNat + 1 by omega, ddN, if_neg, List.append_nil, ddN_all j.toNat (by omega) fun i h0 h1 => hP i h0 (by omega)]
      rw [decide_eq_true_eq]
      rintro (h | h)
      ·omega
      ·exact h (ga.trans gb.symm), fun i _ => rfl⟩ (fun k2 ⟨cs, kv⟩ k0 k1 ⟨g1, g2, g3, g4, g5⟩ => by
      dsimp only at g1 g2 g3 g4 g5 ⊢
      obtain ⟨x, hx, gx⟩ := i7 (l := l) (i := j + k2) (by omega) (by omega)
      obtain ⟨y, hy, gy⟩ := i7 (l := l) (i := j + k2 - 1) (by omega) (by omega)
      have iv : ∀ i : Int, 0 ≤ i → i < (l.length : Int) - j → ixV cs (0 + j) ((l.length : Int) - j) i = ix cs (j + i) := fun i h0 h1 => by
       rw [ixV, if_pos (by omega), Int.zero_add]
      have same : ∀ i : Int, j + k2 - 1 ≤ i → ix cs i = ix l i := fun i hi => by
       have := g5 i.toNat (by omega)
       simp only [ix]
       rw [this]
      unfold o9
      dsimp only
      rw [iv k2 (by omega) (by omega), iv (k2 - 1) (by omega) (by omega), show j + (k2 - 1) = j + k2 - 1 by omega, same _ (by omega), same _ (by omega), hx, hy]
      simp only [ob, equal_eq, r7]
      have ek : (j + (k2 + 1)).toNat = (j + k2).toNat + 1 := by omega
      have ek1 : (j + k2 - 1).toNat = (j + k2).toNat - 1 := by omega
      rw [ek1] at gy
      by_cases cx : x = y
      ·rw [ifNN cx]
       refine ⟨_, rfl, g1, g2, by omega, ?_, fun i hi => g5 i (by omega)⟩
       dsimp only
       rw [ek, ddN, if_neg, List.append_nil]
       ·exact g4
       ·rw [decide_eq_true_eq]
        rintro (h | h)
        ·omega
        ·exact h (by rw [gx, gy, cx])
      ·rw [ifP cx]
       obtain ⟨z, hz, gz⟩ := i7 (l := cs) (i := kv) (by omega) (by omega)
       simp only [hz, ob]
       rw [q9 (by omega) (by omega)]
       refine ⟨_, rfl, by rw [List.length_set]; exact g1, by omega, by omega, ?_, fun i hi => ?_⟩
       ·dsimp only
        rw [ek, ddN, if_pos, gx, show (kv + 1).toNat = kv.toNat + 1 by omega, List.take_add_one, List.getElem?_set, if_pos rfl, if_pos (by omega), List.take_set_of_le (Nat.le_refl _), g4]
        rw [decide_eq_true_eq]
        exact .inr (by rw [gx, gy]; simpa using cx)
       ·dsimp only
        rw [List.getElem?_set, if_neg (by omega)]
        exact g5 i (by omega))
    have ef : forR 1 ((l.length : Int) - j) (o9 l j) (l, j) = some (cs, kv) := r1
    dsimp only at r2 r3 r4 r5 r6
    rw [ef]
    simp only [ob]
    have hcl : (clrL cs (0 + kv) ((cs.length : Int) - kv) []).length = cs.length := by simp [clrL]; omega
    rw [show cutV (cs.length : Int) kv (cs.length : Int) = some () by rw [cutV, if_pos (by omega)]]
    simp only [ob, hcl]
    rw [show cutV (cs.length : Int) 0 kv = some () by rw [cutV, if_pos (by omega)]]
    refine ⟨_, rfl, ?_⟩
    have e1 : w5 (clrL cs (0 + kv) ((cs.length : Int) - kv) []) 0 kv = cs.take kv.toNat := by
     simp only [w5, clrL, Int.zero_add, Int.toNat_zero, List.drop_zero]
     rw [List.append_assoc, List.take_append_of_le_length (by simp; omega), List.take_take, Nat.min_self]
    rw [e1, r5]
    congr 1
    omega
   ·rw [ifN c]
    left
    refine ⟨(), rfl, fun i h0 h1 => ?_⟩
    by_cases e : (i : Int) = j
    ·have : i = j.toNat := by omega
     subst this
     rw [ga, gb]
     simpa using c
    ·exact hP i h0 (by omega))
  rcases key with ⟨_, h1, h2⟩ | ⟨o, h1, rfl⟩
  ·have : rngX 1 (l.length : Int) (n7 l) () = some (.inl ()) := h1
   rw [this]
   simp only [ob]
   rw [ddN_all l.length (Nat.le_refl _) fun i h0 h1 => h2 i h0 (by omega), List.take_length]
  ·have : rngX 1 (l.length : Int) (n7 l) () = some (.inr (ddN l l.length)) := h1
   rw [this]; rfl
theorem af2 {l : LL} (hl : l.length ≤ 1000000) : ∃ r, C0 l = some r ∧ Ord r ∧ (∀ x, x ∈ r ↔ x ∈ l) ∧ r.length ≤ l.length := by
 unfold C0
 rw [sortFL_eq (by omega) cmp_ok]
 simp only [ob]
 have hlen : (l.mergeSort fun x y => decide (¬ cmpL y x < 0)).length = l.length := by simp
 rw [compactF_eq (by rw [hlen]; exact hl)]
 have hs : (l.mergeSort fun x y => decide (¬ cmpL y x < 0)).Pairwise fun a b => ¬ llt b a := by
  have := List.pairwise_mergeSort (le := fun x y : List Int => decide (¬ cmpL y x < 0)) (fun a b c h1 h2 => by
   simp only [decide_eq_true_eq, M2] at h1 h2 ⊢
   intro h
   rcases M4 b a with g | g | g
   ·exact h1 g
   ·subst g; exact h2 h
   ·exact h2 (C6 h g)) (fun a b => by
   simp only [Bool.or_eq_true, decide_eq_true_eq, M2]
   by_cases h : llt b a
   ·exact .inr fun g => llt_asymm h g
   ·exact .inl h) l
  exact this.imp fun h => by simpa [M2] using h
 obtain ⟨h1, h2⟩ := ddN_spec hs _ (Nat.le_refl _)
 refine ⟨_, rfl, h1, fun x => ?_, ?_⟩
 ·rw [h2, List.take_length]; simp
 ·have := ddN_len (l.mergeSort fun x y => decide (¬ cmpL y x < 0)) (l.mergeSort fun x y => decide (¬ cmpL y x < 0)).length
  rw [hlen] at this
  rw [hlen]; exact this
end Ab
end
section
namespace Ab
open Go
theorem forN_congr {S : Type} {b1 b2 : Int → S → Option S} : ∀ (k : Nat) (i : Int) (s : S), (∀ j s, i ≤ j → j < i + k → b1 j s = b2 j s) → forN b1 k i s = forN b2 k i s
 | 0, _, _, _ => rfl
 | k + 1, i, s, h => by
  simp only [forN]
  rw [h i s (by omega) (by omega)]
  cases b2 i s with
  | none => rfl
  | some s' => exact forN_congr k (i + 1) s' fun j s g1 g2 => h j s (by omega) (by omega)
theorem forR_congr {S : Type} {b1 b2 : Int → S → Option S} {lo n : Int} {s : S} (h : ∀ j s, lo ≤ j → j < n → b1 j s = b2 j s) : forR lo n b1 s = forR lo n b2 s :=
 forN_congr _ _ _ fun j s g1 g2 => h j s g1 (by omega)
/-! ### Binary search by a key -/
def bsl {A B : Type} (xv : List A) (target : B) (cmp : A → B → Option Int) : (Int × Int) → Option ((Int × Int) ⊕ Int) := fun (iv4, j5) => if iv4 < j5 then Option.bind (ix xv (w64 (shrW .u64 ((IntKind.u64).wrap (w64 (iv4 + j5))) 1))) fun a27 => Option.bind (cmp a27 target) fun a30 => if a30 < 0 then some (.inl (w64 ((w64 (shrW .u64 ((IntKind.u64).wrap (w64 (iv4 + j5))) 1)) + 1), j5)) else some (.inl (iv4, w64 (shrW .u64 ((IntKind.u64).wrap (w64 (iv4 + j5))) 1))) else some (.inr iv4)
noncomputable def bsf {A B : Type} (xv : List A) (target : B) (cmp : A → B → Option Int) : Option (Int × Bool) := Option.bind (Loop (bsl xv target cmp) (0, (xv.length : Int))) fun iv6 => Option.bind (if iv6 < (xv.length : Int) then Option.bind (ix xv iv6) fun a43 => Option.bind (cmp a43 target) fun a46 => some (decide (a46 = 0)) else some false) fun t9 => some (iv6, t9)
theorem ab6 {A : Type} {key : A → List Int} {xs : List A} (h : Ord (xs.map key)) {i j : Int} {a b : A} (hi : ix xs i = some a) (hj : ix xs j = some b) (hij : i < j) : llt (key a) (key b) := by
 obtain ⟨i0, i1, hi⟩ := j8 hi
 obtain ⟨j0, j1, hj⟩ := j8 hj
 refine h.get (i := i) (j := j) ?_ ?_ hij
 ·rw [ix, if_pos i0, List.getElem?_map, hi]; rfl
 ·rw [ix, if_pos j0, List.getElem?_map, hj]; rfl
theorem bsf_full {A : Type} {key : A → List Int} {xs : List A} {t : List Int} {cmp : A → List Int → Option Int} (hs : Ord (xs.map key)) (hl : xs.length ≤ 500000) (hc : ∀ a, cmp a t = some (cmpL (key a) t)) :
  ∃ i, bsf xs t cmp = some (i, dec (∃ a ∈ xs, key a = t)) ∧ 0 ≤ i ∧ (∀ k a, ix xs k = some a → key a = t → k = i) ∧ i ≤ xs.length ∧ (∀ k a, 0 ≤ k → k < i → ix xs k = some a → llt (key a) t) ∧ (∀ k a, i ≤ k → ix xs k = some a → ¬ llt (key a) t) := by
 unfold bsf
 obtain ⟨i, h1, h2, h3, h4, h5⟩ := D5 (body := bsl xs t cmp) (fun p => (0 ≤ p.1 ∧ p.1 ≤ p.2 ∧ p.2 ≤ xs.length) ∧ (∀ k a, 0 ≤ k → k < p.1 → ix xs k = some a → llt (key a) t) ∧ (∀ k a, p.2 ≤ k → ix xs k = some a → ¬ llt (key a) t))
  (fun i => 0 ≤ i ∧ i ≤ xs.length ∧ (∀ k a, 0 ≤ k → k < i → ix xs k = some a → llt (key a) t) ∧ (∀ k a, i ≤ k → ix xs k = some a → ¬ llt (key a) t)) (fun p => (p.2 - p.1).toNat) (s := (0, (xs.length : Int)))
  ⟨⟨by simp, by simp, by simp⟩, fun k a h1 h2 => by simp at h2; omega, fun k a h1 h2 => by have := (j8 h2).2.1; simp at h1; omega⟩ (fun ⟨i, j⟩ ⟨⟨g1, g2, g3⟩, g4, g5⟩ => by
  dsimp only at g1 g2 g3 g4 g5 ⊢
  unfold bsl
  dsimp only
  by_cases c : i < j
  ·rw [if_pos c, half_eq g1 g2 (by omega)]
   obtain ⟨a, ha, ga⟩ := i7 (l := xs) (i := (i + j) / 2) (by omega) (by omega)
   rw [ha]
   simp only [ob, hc, M2]
   by_cases c2 : llt (key a) t
   ·rw [if_pos (M2.2 c2), q9 (by omega) (by omega)]
    refine .inl ⟨_, rfl, ⟨⟨by dsimp only; omega, by dsimp only; omega, g3⟩, fun k b k0 k1 hb => ?_, g5⟩, by dsimp only; omega⟩
    dsimp only at k1
    by_cases e : k = (i + j) / 2
    ·subst e; rw [ha] at hb; cases hb; exact c2
    ·exact C6 (ab6 hs hb ha (by omega)) c2
   ·rw [if_neg (fun h => c2 (M2.1 h))]
    refine .inl ⟨_, rfl, ⟨⟨g1, by dsimp only; omega, by dsimp only; omega⟩, g4, fun k b k0 hb => ?_⟩, by dsimp only; omega⟩
    dsimp only at k0
    by_cases e : k = (i + j) / 2
    ·subst e; rw [ha] at hb; cases hb; exact c2
    ·exact fun h => c2 (C6 (ab6 hs ha hb (by omega)) h)
  ·rw [if_neg c]
   have : i = j := by omega
   subst this
   exact .inr ⟨i, rfl, g1, g3, g4, g5⟩)
 rw [h1]
 simp only [ob]
 have uniq : ∀ k a, ix xs k = some a → key a = t → k = i := fun k a hk he => by
  rcases Int.lt_trichotomy k i with c | c | c
  ·have := h4 k a (j8 hk).1 c hk; rw [he] at this; exact absurd this (D9 t)
  ·exact c
  ·obtain ⟨b, hb, gb⟩ := i7 (l := xs) (i := i) h2 (by have := (j8 hk).2.1; omega)
   have := ab6 hs hb hk c
   rw [he] at this
   exact absurd this (h5 i b (Int.le_refl _) hb)
 refine ⟨i, ?_, h2, uniq, h3, h4, h5⟩
 by_cases c : i < xs.length
 ·obtain ⟨a, ha, ga⟩ := i7 (l := xs) (i := i) (by omega) c
  rw [if_pos c, ha]
  simp only [ob, hc]
  by_cases c2 : key a = t
  ·rw [decide_eq_true (cmpL_eq.2 c2), k8 ⟨a, j3 ha, c2⟩]
  ·rw [decide_eq_false (fun h => c2 (cmpL_eq.1 h)), o4]
   rintro ⟨b, hb, e⟩
   obtain ⟨k, k0, k1, hk⟩ := k9 hb
   have := uniq k b hk e
   subst this
   rw [hk] at ha; cases ha; exact c2 e
 ·rw [if_neg c]
  simp only [ob]
  rw [o4]
  rintro ⟨b, hb, e⟩
  obtain ⟨k, k0, k1, hk⟩ := k9 hb
  have := uniq k b hk e
  omega
theorem bsf_eq {A : Type} {key : A → List Int} {xs : List A} {t : List Int} {cmp : A → List Int → Option Int} (hs : Ord (xs.map key)) (hl : xs.length ≤ 500000) (hc : ∀ a, cmp a t = some (cmpL (key a) t)) :
  ∃ i, bsf xs t cmp = some (i, dec (∃ a ∈ xs, key a = t)) ∧ 0 ≤ i ∧ ∀ k a, ix xs k = some a → key a = t → k = i := by
 obtain ⟨i, h1, h2, h3, _⟩ := bsf_full hs hl hc
 exact ⟨i, h1, h2, h3⟩
theorem bsets_eq {xs : LL} {t : List Int} (hs : Ord xs) (hl : xs.length ≤ 500000) : ∃ i, m7 xs t slices_Compare_int_int = some (i, dec (t ∈ xs)) ∧ 0 ≤ i ∧ ∀ k, ix xs k = some t → k = i := by
 obtain ⟨i, h1, h2, h3⟩ := bsf_eq (key := fun a => a) (xs := xs) (t := t) (cmp := slices_Compare_int_int) (by simpa using hs) hl (fun a => W8 a t)
 refine ⟨i, ?_, h2, fun k hk => h3 k t hk rfl⟩
 have : m7 xs t slices_Compare_int_int = bsf xs t slices_Compare_int_int := rfl
 rw [this, h1]
 simp
/-! ### The order that the specification tells -/
theorem before_eq {a b : List Int} (ha : a.length ≤ 1000000) : K4 a b = some (dec (llt a b)) := by
 unfold K4
 obtain ⟨o, h1, h2⟩ := D5 (body := R5 a b) (fun k => 0 ≤ k ∧ k ≤ a.length ∧ k ≤ b.length ∧ a.take k.toNat = b.take k.toNat) (fun o => (match o with | .inl _ => some (decide ((a.length : Int) < (b.length : Int))) | .inr x => some x) = some (dec (llt a b))) (fun k => (a.length - k).toNat) (s := 0) ⟨by omega, by omega, by omega, by simp⟩ (fun k ⟨g0, g1, g2, g3⟩ => by
  have hd := ah5 (a := a) (b := b) k.toNat (by omega) (by omega) g3
  unfold R5
  by_cases c : k < a.length ∧ k < b.length
  ·rw [if_pos (by simpa using c)]
   obtain ⟨x, hx, gx⟩ := i7 (l := a) g0 c.1
   obtain ⟨y, hy, gy⟩ := i7 (l := b) g0 c.2
   have da : a.drop k.toNat = x :: a.drop (k.toNat + 1) := by
    obtain ⟨hlt, rfl⟩ := List.getElem?_eq_some_iff.1 gx
    exact List.drop_eq_getElem_cons hlt
   have db : b.drop k.toNat = y :: b.drop (k.toNat + 1) := by
    obtain ⟨hlt, rfl⟩ := List.getElem?_eq_some_iff.1 gy
    exact List.drop_eq_getElem_cons hlt
   rw [da, db] at hd
   simp only [hx, hy, ob]
   by_cases e : x = y
   ·subst e
    rw [if_pos rfl, q9 (by omega) (by omega)]
    refine .inl ⟨k + 1, rfl, ⟨by omega, by omega, by omega, ?_⟩, by omega⟩
    rw [show (k + 1).toNat = k.toNat + 1 by omega, List.take_add_one, List.take_add_one, gx, gy, g3]
   ·rw [if_neg e]
    refine .inr ⟨_, rfl, ?_⟩
    dsimp only
    rw [B6]
    refine congrArg some (o6 ?_)
    rw [hd]
    exact ⟨fun h => .inl h, fun h => h.resolve_right fun g => e g.1⟩
  ·rw [if_neg (by simpa using c)]
   refine .inr ⟨_, rfl, ?_⟩
   dsimp only
   rw [B6]
   refine congrArg some (o6 ?_)
   rw [hd]
   by_cases ca : k < a.length
   ·have db : b.drop k.toNat = [] := List.drop_of_length_le (by omega)
    rw [db]
    constructor
    ·intro h; omega
    ·intro h; cases h' : a.drop k.toNat with
     | nil => rw [h'] at h; exact h.elim
     | cons z l => rw [h'] at h; exact h.elim
   ·have da : a.drop k.toNat = [] := List.drop_of_length_le (by omega)
    rw [da]
    constructor
    ·intro h
     cases h' : b.drop k.toNat with
     | nil => have := List.drop_eq_nil_iff.1 h'; omega
     | cons z l => trivial
    ·intro h
     cases h' : b.drop k.toNat with
     | nil => rw [h'] at h; exact h.elim
     | cons z l =>
      have : ¬ b.length ≤ k.toNat := fun g => by rw [List.drop_of_length_le g] at h'; cases h'
      omega)
 rw [h1]
 simp only [ob]
 exact h2
theorem ord_append {l m : LL} (hl : Ord l) (hm : Ord m) (h : ∀ a ∈ l, ∀ b ∈ m, llt a b) : Ord (l ++ m) := List.pairwise_append.2 ⟨hl, hm, h⟩
theorem insert_eq {l : LL} (h : Ord l) (hl : l.length ≤ 1000000) (hw : ∀ x ∈ l, x.length ≤ 1000000) (s : List Int) : ∃ r, K6 l s = some r ∧ Ord r ∧ (∀ x, x ∈ r ↔ x = s ∨ x ∈ l) ∧ r.length ≤ l.length + 1 := by
 unfold K6
 obtain ⟨k, h1, k0, k1, k2, k3⟩ := D5 (body := S0 l s) (fun k => 0 ≤ k ∧ k ≤ l.length ∧ ∀ i a, i < k → ix l i = some a → llt a s) (fun k => 0 ≤ k ∧ k ≤ l.length ∧ (∀ i a, i < k → ix l i = some a → llt a s) ∧ ∀ a, ix l k = some a → ¬ llt a s) (fun k => (l.length - k).toNat) (s := 0) ⟨by omega, by omega, fun i a hi ha => by have := (j8 ha).1; omega⟩ (fun k ⟨g0, g1, g2⟩ => by
  unfold S0
  by_cases c : k < l.length
  ·obtain ⟨a, ha, ga⟩ := i7 (l := l) g0 c
   rw [if_pos c, ha]
   simp only [ob, before_eq (hw a (j3 ha))]
   by_cases c2 : llt a s
   ·rw [ifP c2, q9 (by omega) (by omega)]
    refine .inl ⟨_, rfl, ⟨by omega, by omega, fun i b hi hb => ?_⟩, by omega⟩
    by_cases e : i = k
    ·subst e; rw [ha] at hb; cases hb; exact c2
    ·exact g2 i b (by omega) hb
   ·rw [ifN c2]
    exact .inr ⟨k, rfl, g0, g1, g2, fun b hb => by rw [ha] at hb; cases hb; exact c2⟩
  ·rw [if_neg c]
   exact .inr ⟨k, rfl, g0, g1, g2, fun b hb => by have := (j8 hb).2.1; omega⟩)
 rw [h1]
 simp only [ob]
 have step : (Option.bind (if k < (l.length : Int) then Option.bind (ix l k) fun a27 => Option.bind (G3 a27 s) fun a30 => some a30 else some false) fun t9 => if t9 = true then some l else Option.bind (subL l 0 k) fun a36 => Option.bind (app 24 ([] : LL) a36) fun a37 => Option.bind (app 24 a37 [s]) fun a40 => Option.bind (subL l k (l.length : Int)) fun a43 => Option.bind (app 24 a40 a43) fun a44 => some a44) = if dec (ix l k = some s) = true then some l else some (l.take k.toNat ++ [s] ++ l.drop k.toNat) := by
  have e : (if k < (l.length : Int) then Option.bind (ix l k) fun a27 => Option.bind (G3 a27 s) fun a30 => some a30 else some false) = some (dec (ix l k = some s)) := by
   by_cases c : k < l.length
   ·obtain ⟨a, ha, ga⟩ := i7 (l := l) k0 c
    rw [if_pos c, ha]
    simp only [ob, ints_eq]
    exact congrArg some (o6 (by simp))
   ·rw [if_neg c, o4]
    intro h; have := (j8 h).2.1; omega
  rw [e]
  simp only [ob]
  by_cases c : ix l k = some s
  ·rw [ifP c, ifP c]
  ·rw [ifN c, ifN c, subL_take k0 (by omega), subL_drop k0 (by omega)]
   simp only [ob]
   rw [app, if_pos (by simp; omega)]
   simp only [ob, List.nil_append]
   rw [app, if_pos (by simp; omega)]
   simp only [ob]
   rw [app, if_pos (by simp; omega)]
   rfl
 rw [step]
 by_cases c : ix l k = some s
 ·rw [ifP c]
  exact ⟨l, rfl, h, fun x => ⟨.inr, fun g => g.elim (fun e => e ▸ j3 c) id⟩, by omega⟩
 ·rw [ifN c]
  refine ⟨_, rfl, ?_, fun x => ?_, by simp; omega⟩
  ·have ht : Ord (l.take k.toNat) := h.sublist (List.take_sublist _ _)
   have hd : Ord (l.drop k.toNat) := h.sublist (List.drop_sublist _ _)
   have b1 : ∀ a ∈ l.take k.toNat, llt a s := fun a ha => by
    obtain ⟨i, hi, e⟩ := List.mem_take_iff_getElem.1 ha
    exact k2 (i : Int) a (by omega) (by rw [R2, ← e]; exact List.getElem?_eq_getElem _)
   have b2 : ∀ a ∈ l.drop k.toNat, llt s a := fun a ha => by
    obtain ⟨i, hi, e⟩ := List.mem_drop_iff_getElem.1 ha
    have hlk : k < l.length := by omega
    obtain ⟨z, hz, gz⟩ := i7 (l := l) k0 hlk
    have nz := k3 z hz
    have nz2 : llt s z := by
     rcases M4 z s with g | g | g
     ·exact absurd g nz
     ·exact absurd (g ▸ hz) c
     ·exact g
    by_cases i0 : i = 0
    ·subst i0
     obtain ⟨q1, q2⟩ := List.getElem?_eq_some_iff.1 gz
     have : a = z := by rw [← e, ← q2]; simp
     rw [this]; exact nz2
    ·refine C6 nz2 (h.get hz (j := k + i) ?_ (by omega))
     rw [show k + (i : Int) = ((k.toNat + i : Nat) : Int) by omega, R2, ← e]
     exact List.getElem?_eq_getElem _
   refine ord_append (ord_append ht (by simp) fun a ha b hb => ?_) hd fun a ha b hb => ?_
   ·simp only [List.mem_singleton] at hb; subst hb; exact b1 a ha
   ·rcases List.mem_append.1 ha with ha | ha
    ·exact C6 (b1 a ha) (b2 b hb)
    ·simp only [List.mem_singleton] at ha; subst ha; exact b2 b hb
  ·rw [List.mem_append, List.mem_append, List.mem_singleton]
   have := List.take_append_drop k.toNat l
   constructor
   ·rintro ((g | g) | g)
    ·exact .inr (List.mem_of_mem_take g)
    ·exact .inl g
    ·exact .inr (List.mem_of_mem_drop g)
   ·rintro (g | g)
    ·exact .inl (.inr g)
    ·rw [← this] at g
     rcases List.mem_append.1 g with g | g
     ·exact .inl (.inl g)
     ·exact .inr g
end Ab
end
section
namespace Ab
open Go
def P1 (x : j7) (n : Int) : Prop := SetN x.add n ∧ SetN x.del n ∧ ∀ a ∈ x.add, a ∉ x.del
def xWt (x : j7) : Prop := 1 ≤ x.weight ∧ x.weight ≤ 6
noncomputable def O5 (n : Int) (x : j7) : Int := if dec (P1 x n) = true then if dec (xWt x) = true then 0 else 3 else 5
noncomputable def F7 (n : Int) : List j7 → Int
 | [] => 0
 | x :: l => if O5 n x = 0 then F7 n l else O5 n x
theorem xCode_zero {n : Int} {x : j7} : O5 n x = 0 ↔ P1 x n ∧ xWt x := by
 unfold O5
 by_cases c1 : P1 x n
 ·rw [ifP c1]
  by_cases c2 : xWt x
  ·rw [ifP c2]; exact ⟨fun _ => ⟨c1, c2⟩, fun _ => rfl⟩
  ·rw [ifN c2]; exact ⟨fun h => by omega, fun h => absurd h.2 c2⟩
 ·rw [ifN c1]; exact ⟨fun h => by omega, fun h => absurd h.1 c1⟩
theorem af4 {n : Int} : ∀ {l : List j7}, F7 n l = 0 ↔ ∀ x ∈ l, P1 x n ∧ xWt x
 | [] => by simp [F7]
 | x :: l => by
  rw [F7]
  by_cases c : O5 n x = 0
  ·rw [if_pos c, af4]; simp [xCode_zero.1 c]
  ·rw [if_neg c]
   exact ⟨fun h => absurd h c, fun h => absurd (xCode_zero.2 (h x (by simp))) c⟩
structure OOk (o : i8) (n : Int) : Prop where
 pre : SetN o.pre n
 c0 : 0 ≤ o.cost
 c1 : o.cost ≤ 100
 l0 : 1 ≤ o.outcomes.length
 l1 : o.outcomes.length ≤ 4
 xs : ∀ x ∈ o.outcomes, P1 x n ∧ xWt x
noncomputable def S3 (o : i8) (n : Int) : Int := if dec (SetN o.pre n) = true then if dec (0 ≤ o.cost ∧ o.cost ≤ 100) = true then if dec (1 ≤ (o.outcomes.length : Int) ∧ (o.outcomes.length : Int) ≤ 4) = true then 0 else 9 else 3 else 5
noncomputable def N0 (o : i8) (n : Int) : Int := if S3 o n = 0 then F7 n o.outcomes else S3 o n
theorem ah2 {o : i8} {n : Int} : S3 o n = 0 ↔ SetN o.pre n ∧ (0 ≤ o.cost ∧ o.cost ≤ 100) ∧ (1 ≤ (o.outcomes.length : Int) ∧ (o.outcomes.length : Int) ≤ 4) := by
 unfold S3
 by_cases c1 : SetN o.pre n
 ·rw [ifP c1]
  by_cases c2 : 0 ≤ o.cost ∧ o.cost ≤ 100
  ·rw [ifP c2]
   by_cases c3 : 1 ≤ (o.outcomes.length : Int) ∧ (o.outcomes.length : Int) ≤ 4
   ·rw [ifP c3]; exact ⟨fun _ => ⟨c1, c2, c3⟩, fun _ => rfl⟩
   ·rw [ifN c3]; exact ⟨fun h => by omega, fun h => absurd h.2.2 c3⟩
  ·rw [ifN c2]; exact ⟨fun h => by omega, fun h => absurd h.2.1 c2⟩
 ·rw [ifN c1]; exact ⟨fun h => by omega, fun h => absurd h.1 c1⟩
theorem oCode_of {o : i8} {n : Int} (h : OOk o n) : N0 o n = 0 := by
 have := h.l0; have := h.l1
 rw [N0, if_pos (ah2.2 ⟨h.pre, ⟨h.c0, h.c1⟩, by omega, by omega⟩), af4]
 exact h.xs
theorem oCode_ok {o : i8} {n : Int} (h : N0 o n = 0) : OOk o n := by
 unfold N0 at h
 by_cases c : S3 o n = 0
 ·rw [if_pos c] at h
  obtain ⟨g1, g2, g3⟩ := ah2.1 c
  exact ⟨g1, g2.1, g2.2, by omega, by omega, af4.1 h⟩
 ·rw [if_neg c] at h; exact absurd h c
theorem oc1 {o : i8} {n : Int} (h0 : 0 ≤ n) (h1 : n ≤ 24) {j : Int} {x : j7} (hx : ix o.outcomes j = some x) : B4 o n j () = some (if O5 n x = 0 then .inl () else .inr (O5 n x)) := by
 unfold B4
 rw [hx]
 simp only [ob, ah1, r7]
 by_cases g1 : SetN x.add n
 ·rw [ifNN g1]
  by_cases g2 : SetN x.del n
  ·have := g2.len
   rw [ifNN g2, meets_eq g2.1 (by omega)]
   simp only [ob]
   by_cases g3 : ∀ a ∈ x.add, a ∉ x.del
   ·have g : P1 x n := ⟨g1, g2, g3⟩
    rw [ifN (fun ⟨a, ha, hb⟩ => g3 a ha hb)]
    unfold O5
    rw [ifP g]
    by_cases g4 : xWt x
    ·have g5 := g4
     unfold xWt at g5
     rw [ifP g4, if_neg (by simp; omega)]; rfl
    ·have g5 := g4
     unfold xWt at g5
     rw [ifN g4, if_pos (by simp; omega)]; rfl
   ·have g : ¬ P1 x n := fun h => g3 h.2.2
    rw [ifP (by
     rw [Classical.not_forall] at g3
     obtain ⟨a, ha⟩ := g3
     exact ⟨a, Classical.not_imp.1 ha |>.1, Classical.not_not.1 (Classical.not_imp.1 ha).2⟩)]
    unfold O5
    rw [ifN g]; rfl
  ·have g : ¬ P1 x n := fun h => g2 h.2.1
   rw [ifP g2]
   unfold O5
   rw [ifN g]; rfl
 ·have g : ¬ P1 x n := fun h => g1 h.1
  rw [ifP g1]
  unfold O5
  rw [ifN g]; rfl
theorem operatorCode_eq {o : i8} {n : Int} (h0 : 0 ≤ n) (h1 : n ≤ 24) : F6 o n = some (N0 o n) := by
 unfold F6
 simp only [ah1, ob, r7]
 unfold N0 S3
 by_cases c1 : SetN o.pre n
 ·rw [ifNN c1, ifP c1]
  by_cases c2 : 0 ≤ o.cost ∧ o.cost ≤ 100
  ·rw [if_neg (show ¬ ((decide (o.cost < 0)) || (decide (100 < o.cost))) = true by rw [Bool.or_eq_true, decide_eq_true_eq, decide_eq_true_eq]; omega), ifP c2]
   by_cases c3 : 1 ≤ (o.outcomes.length : Int) ∧ (o.outcomes.length : Int) ≤ 4
   ·rw [if_neg (show ¬ ((decide ((o.outcomes.length : Int) = 0)) || (decide (4 < (o.outcomes.length : Int)))) = true by rw [Bool.or_eq_true, decide_eq_true_eq, decide_eq_true_eq]; omega), ifP c3, if_pos rfl]
    rcases V4 (body := B4 o n) (n := (o.outcomes.length : Int)) (fun j _ => F7 n o.outcomes = F7 n (o.outcomes.drop j.toNat)) (fun c => c = F7 n o.outcomes) (s := ()) (by omega) (by simp) (fun j _ j0 j1 hP => by
     obtain ⟨x, hx, gx⟩ := i7 (l := o.outcomes) j0 j1
     have hd : o.outcomes.drop j.toNat = x :: o.outcomes.drop (j.toNat + 1) := by
      obtain ⟨hlt, rfl⟩ := List.getElem?_eq_some_iff.1 gx
      exact List.drop_eq_getElem_cons hlt
     rw [oc1 h0 h1 hx]
     rw [hd, F7] at hP
     by_cases e : O5 n x = 0
     ·rw [if_pos e] at hP ⊢
      exact .inl ⟨(), rfl, by rw [hP, show (j + 1).toNat = j.toNat + 1 by omega]⟩
     ·rw [if_neg e] at hP ⊢
      exact .inr ⟨_, rfl, hP.symm⟩) with ⟨_, r1, r2⟩ | ⟨c, r1, rfl⟩
    ·rw [r1, r2]; simp [F7]
    ·rw [r1]; rfl
   ·rw [if_pos (show ((decide ((o.outcomes.length : Int) = 0)) || (decide (4 < (o.outcomes.length : Int)))) = true by rw [Bool.or_eq_true, decide_eq_true_eq, decide_eq_true_eq]; omega), ifN c3]; rfl
  ·rw [if_pos (show ((decide (o.cost < 0)) || (decide (100 < o.cost))) = true by rw [Bool.or_eq_true, decide_eq_true_eq, decide_eq_true_eq]; omega), ifN c2]; rfl
 ·rw [ifP c1, ifN c1]; rfl
theorem of2 {t : b8} {o : i8} (h0 : 0 ≤ t.facts) (h1 : t.facts ≤ 24) (hl : o.outcomes.length ≤ 1000000) (c : Int) : Loop (v7 t o) (c, 0) = some (if c = 0 then F7 t.facts o.outcomes else c) := by
 obtain ⟨r, r1, r2⟩ := D5 (body := v7 t o) (fun p => 0 ≤ p.2 ∧ p.2 ≤ o.outcomes.length ∧ (if c = 0 then F7 t.facts o.outcomes else c) = if p.1 = 0 then F7 t.facts (o.outcomes.drop p.2.toNat) else p.1) (fun r => r = if c = 0 then F7 t.facts o.outcomes else c) (fun p => (o.outcomes.length - p.2).toNat) (s := (c, 0)) ⟨by simp, by simp, by simp⟩ (fun ⟨e, j⟩ ⟨g0, g1, g2⟩ => by
  dsimp only at g0 g1 g2 ⊢
  unfold v7
  dsimp only
  by_cases cj : j < o.outcomes.length ∧ e = 0
  ·rw [if_pos (by simpa using cj)]
   obtain ⟨x, hx, gx⟩ := i7 (l := o.outcomes) g0 cj.1
   have hd : o.outcomes.drop j.toNat = x :: o.outcomes.drop (j.toNat + 1) := by
    obtain ⟨hlt, rfl⟩ := List.getElem?_eq_some_iff.1 gx
    exact List.drop_eq_getElem_cons hlt
   rw [cj.2, if_pos rfl, hd, F7] at g2
   rw [hx]
   simp only [ob, ae3 (n := t.facts) _ (show -9223372036854775808 < t.facts by omega) (show t.facts ≤ 9223372036854775807 by omega), disjoint_eq, in_eq, r7, cj.2]
   have hp : (if dec (¬ SetN x.add t.facts) = true then some true else if dec (¬ SetN x.del t.facts) = true then some true else some (dec (¬ ∀ a ∈ x.add, a ∉ x.del))) = some (dec (¬ P1 x t.facts)) := by
    unfold P1
    by_cases k1 : SetN x.add t.facts
    ·rw [ifNN k1]
     by_cases k2 : SetN x.del t.facts
     ·rw [ifNN k2]
      exact congrArg some (o6 ⟨fun h k => h k.2.2, fun h k => h ⟨k1, k2, k⟩⟩)
     ·rw [ifP k2, k8 (fun k => k2 k.2.1)]
    ·rw [ifP k1, k8 (fun k => k1 k.1)]
   rw [hp]
   simp only [ob]
   rw [q9 (by omega) (by omega)]
   have fin : (if dec (¬ P1 x t.facts) = true then some (5 : Int) else if dec (¬ (1 ≤ x.weight ∧ x.weight ≤ 6)) = true then some 3 else some 0) = some (O5 t.facts x) := by
    unfold O5
    by_cases k1 : P1 x t.facts
    ·rw [ifNN k1, ifP k1]
     by_cases k2 : xWt x
     ·rw [ifNN (p := 1 ≤ x.weight ∧ x.weight ≤ 6) k2, ifP k2]
     ·rw [ifP (p := ¬ (1 ≤ x.weight ∧ x.weight ≤ 6)) k2, ifN k2]
    ·rw [ifP k1, ifN k1]
   rw [fin]
   simp only [ob]
   refine .inl ⟨_, rfl, ⟨by dsimp only; omega, by dsimp only; omega, ?_⟩, by dsimp only; omega⟩
   dsimp only
   rw [g2, show (j + 1).toNat = j.toNat + 1 by omega]
  ·rw [if_neg (by simpa using cj)]
   refine .inr ⟨e, rfl, ?_⟩
   rw [g2]
   by_cases ce : e = 0
   ·rw [if_pos ce, List.drop_of_length_le (by omega), F7, ce]
   ·rw [if_neg ce])
 rw [r1, r2]
structure l4 (t : b8) : Prop where
 n0 : 0 ≤ t.facts
 n1 : t.facts ≤ 24
 init : SetN t.init t.facts
 goal : SetN t.goal t.facts
 ops : t.operators.length ≤ 40
 op : ∀ o ∈ t.operators, OOk o t.facts
theorem ai6 (t : b8) : ∃ f, I3 t = some f ∧ L5 t = some f ∧ ((f = ⟨0, 0⟩ ∧ l4 t) ∨ (f.code ≠ 0 ∧ ¬ l4 t)) := by
 unfold I3 L5
 simp only [in_eq, at_eq, ob, r7]
 by_cases c1 : 0 ≤ t.facts ∧ t.facts ≤ 24
 ·rw [if_neg (by simp; omega), ifNN c1]
  simp only [ah1, ae3 (n := t.facts) _ (show -9223372036854775808 < t.facts by omega) (show t.facts ≤ 9223372036854775807 by omega), ob, r7]
  by_cases c2 : SetN t.init t.facts
  ·rw [ifNN c2, ifNN c2]
   by_cases c3 : SetN t.goal t.facts
   ·rw [ifNN c3, ifNN c3]
    by_cases c4 : 40 < (t.operators.length : Int)
    ·rw [if_pos c4, if_pos c4]
     exact ⟨_, rfl, rfl, .inr ⟨by simp, fun h => by have := h.ops; omega⟩⟩
    ·rw [if_neg c4, if_neg c4]
     have hb : ∀ j : Int, 0 ≤ j → j < t.operators.length → ∃ o, ix t.operators j = some o ∧ H0 t j () = some (if N0 o t.facts = 0 then .inl () else .inr ⟨N0 o t.facts, j⟩) ∧ C4 t j () = some (if N0 o t.facts = 0 then .inl () else .inr ⟨N0 o t.facts, j⟩) := fun j h0 h1 => by
      obtain ⟨o, ho, _⟩ := i7 (l := t.operators) h0 h1
      refine ⟨o, ho, ?_, ?_⟩
      ·unfold H0
       rw [ho]
       simp only [ob, operatorCode_eq c1.1 c1.2]
       by_cases e : N0 o t.facts = 0
       ·rw [if_pos e, if_pos e]
       ·rw [if_neg e, if_neg e]
      ·unfold C4
       rw [ho]
       simp only [ob, ae3 (n := t.facts) _ (show -9223372036854775808 < t.facts by omega) (show t.facts ≤ 9223372036854775807 by omega), in_eq, at_eq, r7]
       have hp : (if dec (¬ SetN o.pre t.facts) = true then some (5 : Int) else if dec (¬ (0 ≤ o.cost ∧ o.cost ≤ 100)) = true then some 3 else if dec (¬ (1 ≤ (o.outcomes.length : Int) ∧ (o.outcomes.length : Int) ≤ 4)) = true then some 9 else some 0) = some (S3 o t.facts) := by
        unfold S3
        by_cases g1 : SetN o.pre t.facts
        ·rw [ifNN g1, ifP g1]
         by_cases g2 : 0 ≤ o.cost ∧ o.cost ≤ 100
         ·rw [ifNN g2, ifP g2]
          by_cases g3 : 1 ≤ (o.outcomes.length : Int) ∧ (o.outcomes.length : Int) ≤ 4
          ·rw [ifNN g3, ifP g3]
          ·rw [ifP g3, ifN g3]
         ·rw [ifP g2, ifN g2]
        ·rw [ifP g1, ifN g1]
       rw [hp]
       simp only [ob]
       by_cases eh : S3 o t.facts = 0
       ·have := ah2.1 eh
        rw [of2 c1.1 c1.2 (by omega), if_pos eh]
        simp only [ob, N0, eh, if_true]
        split <;> rfl
       ·have nl : Loop (v7 t o) (S3 o t.facts, 0) = some (S3 o t.facts) := by
         rw [W1]
         have : v7 t o (S3 o t.facts, 0) = some (.inr (S3 o t.facts)) := by
          unfold v7
          dsimp only
          rw [if_neg (by simp [eh])]
         rw [this]
        rw [nl]
        simp only [ob, N0, if_neg eh]
     have heq : rngX 0 (t.operators.length : Int) (H0 t) () = rngX 0 (t.operators.length : Int) (C4 t) () :=
      (rngX_eq (fun _ _ => True) (by omega) trivial (fun j s h0 h1 _ => by
       obtain ⟨o, _, e1, e2⟩ := hb j h0 h1
       exact ⟨by rw [e1, e2], by rw [e1]; simp, fun _ _ => trivial⟩)).1
     rcases s9 (body := C4 t) (n := (t.operators.length : Int)) (fun j => match ix t.operators j with | some o => if N0 o t.facts = 0 then none else some (⟨N0 o t.facts, j⟩ : l6) | none => none) (by omega) (fun j h0 h1 _ => by
      obtain ⟨o, e0, _, e2⟩ := hb j h0 h1
      rw [e2, e0]
      dsimp only
      split <;> rfl) with ⟨h1, h2⟩ | ⟨j, f, h0, h1, h2, _, h4⟩
     ·rw [heq, h1]
      refine ⟨⟨0, 0⟩, rfl, rfl, .inl ⟨rfl, c1.1, c1.2, c2, c3, by omega, fun o ho => ?_⟩⟩
      obtain ⟨j, g0, g1, g2⟩ := k9 ho
      have := h2 j g0 g1
      rw [g2] at this
      dsimp only at this
      split at this
      ·rename_i e; exact oCode_ok e
      ·cases this
     ·rw [heq, h4]
      obtain ⟨o, e0, _, _⟩ := hb j h0 h1
      rw [e0] at h2
      dsimp only at h2
      split at h2
      ·cases h2
      ·rename_i e
       cases h2
       exact ⟨_, rfl, rfl, .inr ⟨e, fun h => e (oCode_of (h.op o (j3 e0)))⟩⟩
   ·rw [ifP c3, ifP c3]
    exact ⟨_, rfl, rfl, .inr ⟨by simp, fun h => c3 h.goal⟩⟩
  ·rw [ifP c2, ifP c2]
   exact ⟨_, rfl, rfl, .inr ⟨by simp, fun h => c2 h.init⟩⟩
 ·rw [if_pos (by simp; omega), if_pos (k8 c1)]
  exact ⟨_, rfl, rfl, .inr ⟨by simp, fun h => c1 ⟨h.n0, h.n1⟩⟩⟩
end Ab
end
section
namespace Ab
open Go
def noOO : i8 := ⟨[], [], 0⟩
def ooAt (t : b8) (op : Int) : i8 := (t.operators[op.toNat]?).getD noOO
theorem ix_oo {t : b8} {op : Int} (h0 : 0 ≤ op) (h1 : op < t.operators.length) : ix t.operators op = some (ooAt t op) := by
 obtain ⟨a, h2, h3⟩ := i7 h0 h1
 rw [h2, ooAt, h3]; rfl
def oCan (t : b8) (s : List Int) (op : Int) : Prop := ∀ x ∈ (ooAt t op).pre, x ∈ s
noncomputable def efc (n : Int) (s : List Int) (x : j7) : List Int := K8 (fun p => p ∈ x.add ∨ p ∈ s ∧ p ∉ x.del) n
theorem ag5 (n : Int) (s : List Int) (x : j7) : SetN (efc n s x) n := setN_setOf _ _
theorem l4.at {t : b8} (h : l4 t) {op : Int} (h0 : 0 ≤ op) (h1 : op < t.operators.length) : OOk (ooAt t op) t.facts := h.op _ (j3 (ix_oo h0 h1))
theorem oCan_eq {t : b8} (ht : l4 t) {op : Int} (h0 : 0 ≤ op) (h1 : op < t.operators.length) {s : List Int} (hs : SetN s t.facts) : M8 t s op = some (dec (oCan t s op)) := by
 have := ht.n1; have := hs.len
 unfold M8
 rw [ix_oo h0 h1]
 simp only [ob]
 rw [T3 hs.1 (ht.at h0 h1).pre.1 (by omega)]
 rfl
theorem oApplies_eq {t : b8} {op : Int} (h0 : 0 ≤ op) (h1 : op < t.operators.length) (s : List Int) : L9 t s op = some (dec (oCan t s op)) := by
 unfold L9
 rw [ix_oo h0 h1]
 simp only [ob, subset_eq]
 rfl
theorem effect_eq {t : b8} (ht : l4 t) (s : List Int) (x : j7) : N4 t s x = some (efc t.facts s x) := by
 have := ht.n1
 unfold N4
 rw [if_pos (by omega)]
 rw [forR_setOf (b := 8) (fun p => p ∈ x.add ∨ p ∈ s ∧ p ∉ x.del) ht.n0 (by omega) (fun j c g0 g1 => by
  unfold X8
  simp only [ob, has_eq, r7]
  have e : (if dec (j ∈ x.add) = true then some true else if dec (j ∈ s) = true then some (dec (j ∉ x.del)) else some false) = some (dec (j ∈ x.add ∨ j ∈ s ∧ j ∉ x.del)) := by
   by_cases c1 : j ∈ x.add
   ·rw [if_pos (k8 c1), k8 (.inl c1)]
   ·rw [if_neg (fun h => c1 (k7.1 h))]
    by_cases c2 : j ∈ s
    ·rw [if_pos (k8 c2)]
     exact congrArg some (o6 ⟨fun h => .inr ⟨c2, h⟩, fun h => (h.resolve_left c1).2⟩)
    ·rw [if_neg (fun h => c2 (k7.1 h)), o4 (fun h => c2 (h.resolve_left c1).1)]
  rw [e]
  simp only [ob]
  refine ⟨fun hq => ?_, fun hq => ?_⟩
  ·rw [if_pos (k8 hq)]
   cases app 8 c [j] <;> rfl
  ·rw [if_neg (fun h => hq (k7.1 h))]; rfl)]
 rfl
theorem oUpdate_eq {n : Int} (hn : n ≤ 24) {s : List Int} (hs : SetN s n) {x : j7} (hx : P1 x n) : F4 s x.add x.del = some (efc n s x) := by
 have := hx.2.1.len
 rw [update_eq (n := n) (by omega) hx.2.1.1 (by omega) hs hx.1]
 exact congrArg some (setOf_congr fun _ _ _ => Or.comm)
/-! ### Policies -/
theorem ord_of_adj : ∀ {l : LL}, (∀ (k : Nat) a b, l[k]? = some a → l[k + 1]? = some b → llt a b) → Ord l
 | [], _ => .nil
 | [_], _ => by simp
 | a :: b :: l, h => by
  have ih : Ord (b :: l) := ord_of_adj fun k x y h1 h2 => h (k + 1) x y (by simpa using h1) (by simpa using h2)
  have hab : llt a b := h 0 a b rfl rfl
  refine List.pairwise_cons.2 ⟨fun c hc => ?_, ih⟩
  rcases List.mem_cons.1 hc with rfl | hc
  ·exact hab
  ·exact C6 hab ((List.pairwise_cons.1 ih).1 c hc)
structure E6 (t : b8) (p : List d9) : Prop where
 len : p.length ≤ 200
 ord : Ord (p.map d9.state)
 set : ∀ c ∈ p, SetN c.state t.facts
 op : ∀ c ∈ p, 0 ≤ c.operator ∧ c.operator < t.operators.length
 can : ∀ c ∈ p, oCan t c.state c.operator
def pSet (t : b8) (p : List d9) (j : Int) (c : d9) : Prop := SetN c.state t.facts ∧ ∀ b, 0 < j → ix p (j - 1) = some b → llt b.state c.state
noncomputable def H4 (t : b8) (p : List d9) (j : Int) (c : d9) : Int := if dec (pSet t p j c) = true then if dec (0 ≤ c.operator ∧ c.operator < t.operators.length) = true then if dec (oCan t c.state c.operator) = true then 0 else 11 else 3 else 5
theorem pCode_zero {t : b8} {p : List d9} {j : Int} {c : d9} : H4 t p j c = 0 → pSet t p j c ∧ (0 ≤ c.operator ∧ c.operator < t.operators.length) ∧ oCan t c.state c.operator := by
 unfold H4
 by_cases c1 : pSet t p j c
 ·rw [ifP c1]
  by_cases c2 : 0 ≤ c.operator ∧ c.operator < t.operators.length
  ·rw [ifP c2]
   by_cases c3 : oCan t c.state c.operator
   ·rw [ifP c3]; exact fun _ => ⟨c1, c2, c3⟩
   ·rw [ifN c3]; exact fun h => by omega
  ·rw [ifN c2]; exact fun h => by omega
 ·rw [ifN c1]; exact fun h => by omega
theorem pCode_of {t : b8} {p : List d9} (hp : E6 t p) {j : Int} {c : d9} (hc : ix p j = some c) : H4 t p j c = 0 := by
 have hm := j3 hc
 unfold H4
 rw [ifP ⟨hp.set c hm, fun b _ hb => ab6 hp.ord hb hc (by omega)⟩, ifP (hp.op c hm), ifP (hp.can c hm)]
theorem pol1 {t : b8} (ht : l4 t) {p : List d9} {j : Int} {c : d9} (hl : p.length ≤ 200) (hc : ix p j = some c) : A4 t p j () = some (if H4 t p j c = 0 then .inl () else .inr ⟨H4 t p j c, -9 - j⟩) := by
 obtain ⟨j0, j1, _⟩ := j8 hc
 have hn := ht.n1
 unfold A4
 rw [hc]
 simp only [ob, ah1, r7]
 have key : (if dec (¬ SetN c.state t.facts) = true then some true else if 0 < j then Option.bind (ix p (j - 1)) fun a40 => Option.bind (slices_Compare_int_int a40.state c.state) fun a45 => some (decide (0 ≤ a45)) else some false) = some (dec (¬ pSet t p j c)) := by
  by_cases g1 : SetN c.state t.facts
  ·rw [ifNN g1]
   by_cases g2 : 0 < j
   ·rw [if_pos g2]
    obtain ⟨b, hb, _⟩ := i7 (l := p) (i := j - 1) (by omega) (by omega)
    rw [hb]
    simp only [ob, W8, B6]
    refine congrArg some (o6 ?_)
    rw [cmpL_ge]
    exact ⟨fun h g => h (g.2 b g2 hb), fun h g => h ⟨g1, fun b' _ hb' => by rw [hb] at hb'; cases hb'; exact g⟩⟩
   ·rw [if_neg g2, o4]
    exact fun h => h ⟨g1, fun _ g => absurd g g2⟩
  ·rw [ifP g1, k8 (fun h => g1 h.1)]
 rw [key]
 simp only [ob]
 rw [q9 (by omega) (by omega)]
 unfold H4
 by_cases g1 : pSet t p j c
 ·rw [ifNN g1, ifP g1]
  by_cases g2 : 0 ≤ c.operator ∧ c.operator < t.operators.length
  ·rw [if_neg (show ¬ ((decide (c.operator < 0)) || (decide ((t.operators.length : Int) ≤ c.operator))) = true by rw [Bool.or_eq_true, decide_eq_true_eq, decide_eq_true_eq]; omega), ifP g2, oCan_eq ht g2.1 g2.2 g1.1]
   simp only [ob, r7]
   by_cases g3 : oCan t c.state c.operator
   ·rw [ifNN g3, ifP g3]; rfl
   ·rw [ifP g3, ifN g3]; rfl
  ·rw [if_pos (show ((decide (c.operator < 0)) || (decide ((t.operators.length : Int) ≤ c.operator))) = true by rw [Bool.or_eq_true, decide_eq_true_eq, decide_eq_true_eq]; omega), ifN g2]; rfl
 ·rw [ifP g1, ifN g1]; rfl
theorem pol2 {t : b8} (ht : l4 t) {p : List d9} {j : Int} {c : d9} (hl : p.length ≤ 200) (hw : 0 < j → ∀ b, ix p (j - 1) = some b → b.state.length ≤ 1000000) (hc : ix p j = some c) : y9 t p j () = some (if H4 t p j c = 0 then .inl () else .inr ⟨H4 t p j c, -9 - j⟩) := by
 obtain ⟨j0, j1, _⟩ := j8 hc
 have hn := ht.n1; have hn0 := ht.n0; have ho := ht.ops
 unfold y9
 rw [hc]
 simp only [ob, ae3 (n := t.facts) _ (show -9223372036854775808 < t.facts by omega) (show t.facts ≤ 9223372036854775807 by omega), in_eq, at_eq, r7]
 have key : (if dec (¬ SetN c.state t.facts) = true then some true else if 0 < j then Option.bind (ix p (j - 1)) fun a39 => Option.bind (K4 a39.state c.state) fun a47 => some (!a47) else some false) = some (dec (¬ pSet t p j c)) := by
  by_cases g1 : SetN c.state t.facts
  ·rw [ifNN g1]
   by_cases g2 : 0 < j
   ·rw [if_pos g2]
    obtain ⟨b, hb, _⟩ := i7 (l := p) (i := j - 1) (by omega) (by omega)
    rw [hb]
    simp only [ob, before_eq (hw g2 b hb), r7]
    refine congrArg some (o6 ?_)
    exact ⟨fun h g => h (g.2 b g2 hb), fun h g => h ⟨g1, fun b' _ hb' => by rw [hb] at hb'; cases hb'; exact g⟩⟩
   ·rw [if_neg g2, o4]
    exact fun h => h ⟨g1, fun _ g => absurd g g2⟩
  ·rw [ifP g1, k8 (fun h => g1 h.1)]
 rw [key]
 simp only [ob]
 rw [q9 (n := -9 - j) (by omega) (by omega), q9 (n := (t.operators.length : Int) - 1) (by omega) (by omega)]
 unfold H4
 by_cases g1 : pSet t p j c
 ·rw [ifNN g1, ifP g1]
  by_cases g2 : 0 ≤ c.operator ∧ c.operator < t.operators.length
  ·rw [ifN (show ¬ ¬ (0 ≤ c.operator ∧ c.operator ≤ (t.operators.length : Int) - 1) by omega), ifP g2, oApplies_eq g2.1 g2.2]
   simp only [ob, r7]
   by_cases g3 : oCan t c.state c.operator
   ·rw [ifNN g3, ifP g3]; rfl
   ·rw [ifP g3, ifN g3]; rfl
  ·rw [ifP (show ¬ (0 ≤ c.operator ∧ c.operator ≤ (t.operators.length : Int) - 1) by omega), ifN g2]; rfl
 ·rw [ifP g1, ifN g1]; rfl
theorem policy_eq (t : b8) (p : List d9) : ∃ f, z6 t p = some f ∧ H1 t p = some f ∧ ((f = ⟨0, 0⟩ ∧ l4 t ∧ E6 t p) ∨ (f.code ≠ 0 ∧ ¬ (l4 t ∧ E6 t p))) := by
 obtain ⟨f, h1, h2, h3⟩ := ai6 t
 unfold z6 H1
 rw [h1, h2]
 simp only [ob]
 rcases h3 with ⟨rfl, ht⟩ | ⟨hc, hnt⟩
 ·rw [if_neg (by simp), if_pos rfl]
  by_cases c1 : 200 < (p.length : Int)
  ·rw [if_pos c1, if_pos c1, at_eq]
   exact ⟨_, rfl, rfl, .inr ⟨by simp, fun h => by have := h.2.len; omega⟩⟩
  ·rw [if_neg c1, if_neg c1]
   have hn := ht.n1
   have hset : ∀ j : Int, (∀ i, 0 ≤ i → i < j → (match ix p i with | some c => if H4 t p i c = 0 then none else some (⟨H4 t p i c, -9 - i⟩ : l6) | none => none) = none) → 0 < j → ∀ b, ix p (j - 1) = some b → b.state.length ≤ 1000000 := fun j hj j0 b hb => by
    have := hj (j - 1) (by omega) (by omega)
    rw [hb] at this
    dsimp only at this
    split at this
    ·rename_i e
     have := (pCode_zero e).1.1.len
     omega
    ·cases this
   rcases s9 (body := A4 t p) (n := (p.length : Int)) (fun j => match ix p j with | some c => if H4 t p j c = 0 then none else some (⟨H4 t p j c, -9 - j⟩ : l6) | none => none) (by omega) (fun j h0 h1 _ => by
    obtain ⟨c, e0, _⟩ := i7 (l := p) h0 h1
    rw [pol1 ht (by omega) e0, e0]
    dsimp only
    split <;> rfl) with ⟨a1, a2⟩ | ⟨j, f, a0, a1, a2, a3, a4⟩
   ·rcases s9 (body := y9 t p) (n := (p.length : Int)) (fun j => match ix p j with | some c => if H4 t p j c = 0 then none else some (⟨H4 t p j c, -9 - j⟩ : l6) | none => none) (by omega) (fun j h0 h1 hj => by
     obtain ⟨c, e0, _⟩ := i7 (l := p) h0 h1
     rw [pol2 ht (by omega) (hset j hj) e0, e0]
     dsimp only
     split <;> rfl) with ⟨b1, b2⟩ | ⟨j', f', b0, b1, b2, b3, b4⟩
    ·rw [a1, b1]
     have all : ∀ j c, ix p j = some c → pSet t p j c ∧ (0 ≤ c.operator ∧ c.operator < t.operators.length) ∧ oCan t c.state c.operator := fun j c hc => by
      have := a2 j (j8 hc).1 (j8 hc).2.1
      rw [hc] at this
      dsimp only at this
      split at this
      ·rename_i e; exact pCode_zero e
      ·cases this
     have all' : ∀ c ∈ p, SetN c.state t.facts ∧ (0 ≤ c.operator ∧ c.operator < t.operators.length) ∧ oCan t c.state c.operator := fun c hc => by
      obtain ⟨j, _, _, hj⟩ := k9 hc
      obtain ⟨g1, g2, g3⟩ := all j c hj
      exact ⟨g1.1, g2, g3⟩
     refine ⟨_, rfl, rfl, .inl ⟨rfl, ht, by omega, ord_of_adj fun k a b ha hb => ?_, fun c hc => (all' c hc).1, fun c hc => (all' c hc).2.1, fun c hc => (all' c hc).2.2⟩⟩
     rw [List.getElem?_map] at ha hb
     cases ha' : p[k]? with
     | none => rw [ha'] at ha; cases ha
     | some a' =>
      cases hb' : p[k + 1]? with
      | none => rw [hb'] at hb; cases hb
      | some b' =>
       rw [ha'] at ha; rw [hb'] at hb; cases ha; cases hb
       refine (all ((k + 1 : Nat) : Int) b' (by rw [R2, hb'])).1.2 a' (by omega) ?_
       rw [show ((k + 1 : Nat) : Int) - 1 = (k : Nat) by omega, R2, ha']
    ·rw [a2 j' b0 b1] at b2; cases b2
   ·rcases s9 (body := y9 t p) (n := (p.length : Int)) (fun j => match ix p j with | some c => if H4 t p j c = 0 then none else some (⟨H4 t p j c, -9 - j⟩ : l6) | none => none) (by omega) (fun j h0 h1 hj => by
     obtain ⟨c, e0, _⟩ := i7 (l := p) h0 h1
     rw [pol2 ht (by omega) (hset j hj) e0, e0]
     dsimp only
     split <;> rfl) with ⟨b1, b2⟩ | ⟨j', f', b0, b1, b2, b3, b4⟩
    ·rw [b2 j a0 a1] at a2; cases a2
    ·have ej : j = j' := by
      rcases Int.lt_trichotomy j j' with h | h | h
      ·rw [b3 j a0 h] at a2; cases a2
      ·exact h
      ·rw [a3 j' b0 h] at b2; cases b2
     subst ej
     rw [a2] at b2
     cases b2
     rw [a4, b4]
     refine ⟨_, rfl, rfl, .inr ?_⟩
     obtain ⟨c, e0, _⟩ := i7 (l := p) a0 a1
     rw [e0] at a2
     dsimp only at a2
     split at a2
     ·cases a2
     ·rename_i e; cases a2; exact ⟨e, fun h => e (pCode_of h.2 e0)⟩
 ·rw [if_pos (fault_no hc), if_neg hc]
  exact ⟨f, rfl, rfl, .inr ⟨hc, fun h => hnt h.1⟩⟩
/-! ### What a policy chooses -/
theorem ac0 (p : List d9) (s : List Int) : ∃ r, D7 p s = some r ∧ ((r = -1 ∧ ∀ c ∈ p, c.state ≠ s) ∨ ∃ c, c ∈ p ∧ c.state = s ∧ r = c.operator) := by
 unfold D7
 rcases s9 (body := S4 p s) (n := (p.length : Int)) (fun j => match ix p j with | some c => if dec (c.state = s) = true then some c.operator else none | none => none) (by omega) (fun j h0 h1 _ => by
  obtain ⟨x, hx, _⟩ := i7 (l := p) h0 h1
  unfold S4
  simp only [hx, ob, ints_eq]
  by_cases e : x.state = s
  ·rw [ifP e, ifP e]
  ·rw [ifN e, ifN e]) with ⟨h1, h2⟩ | ⟨j, o, h0, h1, h2, h3, h4⟩
 ·rw [h1]
  refine ⟨-1, rfl, .inl ⟨rfl, fun c hc he => ?_⟩⟩
  obtain ⟨i, i0, i1, hi⟩ := k9 hc
  have := h2 i i0 i1
  rw [hi] at this
  dsimp only at this
  rw [ifP he] at this
  cases this
 ·rw [h4]
  obtain ⟨c, hc, _⟩ := i7 (l := p) h0 h1
  rw [hc] at h2
  dsimp only at h2
  split at h2
  ·rename_i e
   cases h2
   exact ⟨_, rfl, .inr ⟨c, j3 hc, k7.1 e, rfl⟩⟩
  ·cases h2
theorem chosen_eq {t : b8} {p : List d9} (hp : E6 t p) (s : List Int) : ∃ r, G1 p s = some r ∧ D7 p s = some r ∧ (r = -1 ∨ (0 ≤ r ∧ r < t.operators.length ∧ oCan t s r)) := by
 obtain ⟨r, h1, h2⟩ := ac0 p s
 refine ⟨r, ?_, h1, ?_⟩
 ·unfold G1
  obtain ⟨i, g1, g2, g3⟩ := bsf_eq (key := d9.state) (xs := p) (t := s) (cmp := open_Chosen_1) hp.ord (by have := hp.len; omega) (fun a => by unfold open_Chosen_1; rw [W8]; rfl)
  have : j9 p s open_Chosen_1 = bsf p s open_Chosen_1 := rfl
  rw [this, g1]
  simp only [ob, r7]
  rcases h2 with ⟨rfl, h⟩ | ⟨c, hc, he, rfl⟩
  ·rw [ifP]
   rintro ⟨a, ha, e⟩; exact h a ha e
  ·rw [ifNN ⟨c, hc, he⟩]
   obtain ⟨k, _, _, hk⟩ := k9 hc
   have := g3 k c hk he
   subst this
   rw [hk]; rfl
 ·rcases h2 with ⟨rfl, h⟩ | ⟨c, hc, he, rfl⟩
  ·exact .inl rfl
  ·have := hp.op c hc
   exact .inr ⟨this.1, this.2, he ▸ hp.can c hc⟩
end Ab
end
section
namespace Ab
open Go
theorem ix_map {α β : Type} {f : α → β} {l : List α} {i : Int} : ix (l.map f) i = (ix l i).map f := by
 simp only [ix]
 split
 ·rw [List.getElem?_map]
 ·rfl
theorem Ord.one {l m : LL} (hl : Ord l) (hm : Ord m) {p : List Int → Prop} (h1 : ∀ y, y ∈ l ↔ p y) (h2 : ∀ y, y ∈ m ↔ p y) : l = m := Ord.ext hl hm fun y => (h1 y).trans (h2 y).symm
theorem cloneLL_eq {s : LL} (h : s.length ≤ 1000000) : B1 s = some s := by
 rw [B1, app, if_pos (by simp; omega)]; rfl
theorem results1 {t : b8} {o : i8} (ho : OOk o t.facts) (hn : t.facts ≤ 24) {s : List Int} (hs : SetN s t.facts) : forR 0 (o.outcomes.length : Int) (J0 s o) [] = some (o.outcomes.map (efc t.facts s)) := by
 have hl := ho.l1
 obtain ⟨c, h1, h2⟩ := p9 (body := J0 s o) (n := (o.outcomes.length : Int)) (s := []) (fun j c => c = (o.outcomes.take j.toNat).map (efc t.facts s)) (by omega) (by simp) (fun j c j0 j1 hP => by
  obtain ⟨x, hx, gx⟩ := i7 (l := o.outcomes) j0 j1
  unfold J0
  rw [hx]
  simp only [ob]
  rw [oUpdate_eq hn hs (ho.xs x (j3 hx)).1]
  simp only [ob]
  have hlen : c.length ≤ 4 := by rw [hP, List.length_map, List.length_take]; omega
  rw [app, if_pos (by simp; omega)]
  refine ⟨_, rfl, ?_⟩
  rw [show (j + 1).toNat = j.toNat + 1 by omega, List.take_add_one, gx, hP, List.map_append]; rfl)
 rw [h1, h2]
 simp
theorem z8 {t : b8} (ht : l4 t) {op : Int} (h0 : 0 ≤ op) (h1 : op < t.operators.length) {s : List Int} (hs : SetN s t.facts) : ∃ st w, r9 t s op = some (st, w) ∧ Ord st ∧ (∀ y, y ∈ st ↔ ∃ x ∈ (ooAt t op).outcomes, efc t.facts s x = y) ∧ st.length ≤ 4 ∧ w.length = st.length ∧ forR 0 ((ooAt t op).outcomes.length : Int) (E7 ((ooAt t op).outcomes.map (efc t.facts s)) st (ooAt t op)) (List.replicate st.length 0) = some w := by
 have ho := ht.at h0 h1
 have hl := ho.l1
 unfold r9
 rw [ix_oo h0 h1]
 simp only [ob]
 rw [results1 ho ht.n1 hs]
 simp only [ob]
 rw [cloneLL_eq (by simp; omega)]
 simp only [ob]
 obtain ⟨st, n1, n2, n3, n4⟩ := af2 (l := (ooAt t op).outcomes.map (efc t.facts s)) (by simp; omega)
 have n4' : st.length ≤ 4 := by rw [List.length_map] at n4; omega
 have hm : mkL 8 (st.length : Int) (0 : Int) = some (List.replicate st.length 0) := by
  rw [mkL, if_pos (by omega)]; simp
 obtain ⟨w, w1, w2⟩ := p9 (body := E7 ((ooAt t op).outcomes.map (efc t.facts s)) st (ooAt t op)) (n := ((ooAt t op).outcomes.length : Int)) (s := List.replicate st.length 0) (fun j c => c.length = st.length) (by omega) (by simp) (fun j c j0 j1 hP => by
  obtain ⟨x, hx, gx⟩ := i7 (l := (ooAt t op).outcomes) j0 j1
  have hmem : efc t.facts s x ∈ st := (n3 _).2 (List.mem_map.2 ⟨x, j3 hx, rfl⟩)
  obtain ⟨i, e1, e2, e3⟩ := bsets_eq (t := efc t.facts s x) n2 (by omega)
  obtain ⟨k, k0, k1, hk⟩ := k9 hmem
  have := e3 k hk
  subst this
  obtain ⟨z, hz, gz⟩ := i7 (l := c) (i := k) k0 (by omega)
  unfold E7
  rw [hx, ix_map, hx]
  simp only [ob, Option.map_some, e1, hz]
  exact ⟨_, rfl, by rw [List.length_set]; exact hP⟩)
 rw [n1]
 simp only [ob, hm, w1]
 exact ⟨st, w, rfl, n2, fun y => by rw [n3, List.mem_map], n4', w2, w1⟩
/-! ### The coin -/
def coinX : j7 := ⟨[0], [], 1⟩
def coinY : j7 := ⟨[], [], 2⟩
def coinO : i8 := ⟨[], [coinX, coinY], 1⟩
def v8 : b8 := ⟨1, [], [0], [coinO]⟩
theorem coin_ok : l4 v8 where
 n0 := by decide
 n1 := by decide
 init := P7 _
 goal := setN1 0 (by decide) (by decide)
 ops := by decide
 op o ho := by
  simp only [v8, List.mem_singleton] at ho
  subst ho
  refine ⟨P7 _, by decide, by decide, by decide, by decide, fun x hx => ?_⟩
  simp only [coinO, List.mem_cons, List.not_mem_nil, or_false] at hx
  rcases hx with rfl | rfl
  ·exact ⟨⟨setN1 0 (by decide) (by decide), P7 _, by simp [coinX]⟩, by decide, by decide⟩
  ·exact ⟨⟨P7 _, P7 _, by simp [coinY]⟩, by decide, by decide⟩
theorem coin_X : efc 1 [] coinX = [0] := by
 refine ((setN1 0 (by decide) (by decide) : SetN [0] 1).eq_of (p := fun p => p ∈ coinX.add ∨ p ∈ [] ∧ p ∉ coinX.del) fun x h0 h1 => ?_).symm
 simp [coinX]
theorem coin_Y : efc 1 [] coinY = [] := by
 refine ((P7 1).eq_of (p := fun p => p ∈ coinY.add ∨ p ∈ [] ∧ p ∉ coinY.del) fun x h0 h1 => ?_).symm
 simp [coinY]
end Ab
end
section
namespace Ab
open Go
noncomputable def chO (p : List d9) (s : List Int) : Int := (D7 p s).getD (-1)
theorem rChosen_chO (p : List d9) (s : List Int) : D7 p s = some (chO p s) := by
 obtain ⟨r, h, _⟩ := ac0 p s
 rw [chO, h]; rfl
theorem ab2 {t : b8} {p : List d9} (hp : E6 t p) (s : List Int) : G1 p s = some (chO p s) ∧ (chO p s = -1 ∨ (0 ≤ chO p s ∧ chO p s < t.operators.length ∧ oCan t s (chO p s))) := by
 obtain ⟨r, h1, h2, h3⟩ := chosen_eq hp s
 have : chO p s = r := by rw [chO, h2]; rfl
 rw [this]
 exact ⟨h1, h3⟩
theorem ifOr {a b : Prop} : (if dec a = true then some true else some (dec b)) = some (dec (a ∨ b)) := by
 by_cases h : a
 ·rw [ifP h, k8 (.inl h)]
 ·rw [ifN h]; exact congrArg some (o6 ⟨.inr, fun g => g.resolve_left h⟩)
end Ab
end
section
namespace Ab
open Go
end Ab
end
section
namespace Ab
open Go
def dg (x : Int) : List Int := if x < 10 then [48 + x] else [48 + x / 10, 48 + x % 10]
def encS (s : List Int) : List Int := s.flatMap (fun x => dg x ++ [44]) ++ [59]
def encK (l : LL) : List Int := l.flatMap encS
def small (s : List Int) : Prop := ∀ x ∈ s, 0 ≤ x ∧ x < 100
theorem dg_split {x y : Int} (hx : 0 ≤ x ∧ x < 100) (hy : 0 ≤ y ∧ y < 100) {r r' : List Int} (h : dg x ++ 44 :: r = dg y ++ 44 :: r') : x = y ∧ r = r' := by
 unfold dg at h
 split at h <;> split at h <;> simp only [List.cons_append, List.nil_append, List.cons.injEq] at h
 ·exact ⟨by omega, h.2.2⟩
 ·exfalso; omega
 ·exfalso; omega
 ·exact ⟨by omega, h.2.2.2⟩
theorem dg_head {x : Int} (hx : 0 ≤ x ∧ x < 100) : ∃ a l, dg x = a :: l ∧ 48 ≤ a ∧ a < 58 := by
 unfold dg
 split
 ·exact ⟨_, _, rfl, by omega, by omega⟩
 ·exact ⟨_, _, rfl, by omega, by omega⟩
theorem aa3 (x : Int) (s : List Int) : encS (x :: s) = dg x ++ 44 :: encS s := by simp [encS]
theorem encS_inj : ∀ {s s' r r' : List Int}, small s → small s' → encS s ++ r = encS s' ++ r' → s = s' ∧ r = r'
 | [], [], r, r', _, _, h => by simp [encS] at h; exact ⟨rfl, h⟩
 | [], y :: s', r, r', _, h2, h => by
  obtain ⟨a, l, ha, h3, h4⟩ := dg_head (h2 y (by simp))
  rw [aa3, ha] at h
  simp only [encS, List.flatMap_nil, List.nil_append, List.cons_append, List.cons.injEq] at h
  omega
 | x :: s, [], r, r', h1, _, h => by
  obtain ⟨a, l, ha, h3, h4⟩ := dg_head (h1 x (by simp))
  rw [aa3, ha] at h
  simp only [encS, List.flatMap_nil, List.nil_append, List.cons_append, List.cons.injEq] at h
  omega
 | x :: s, y :: s', r, r', h1, h2, h => by
  rw [aa3, aa3, List.append_assoc, List.append_assoc, List.cons_append, List.cons_append] at h
  obtain ⟨rfl, g⟩ := dg_split (h1 x (by simp)) (h2 y (by simp)) h
  obtain ⟨e1, e2⟩ := encS_inj (s := s) (s' := s') (fun z hz => h1 z (List.mem_cons_of_mem _ hz)) (fun z hz => h2 z (List.mem_cons_of_mem _ hz)) g
  exact ⟨by rw [e1], e2⟩
theorem encK_inj : ∀ {l l' : LL}, (∀ s ∈ l, small s) → (∀ s ∈ l', small s) → encK l = encK l' → l = l'
 | [], [], _, _, _ => rfl
 | [], s :: l', _, _, h => by
  have h := congrArg List.length h
  simp only [encK, encS, List.flatMap_nil, List.flatMap_cons, List.length_append, List.length_nil, List.length_cons] at h
  omega
 | s :: l, [], _, _, h => by
  have h := congrArg List.length h
  simp only [encK, encS, List.flatMap_nil, List.flatMap_cons, List.length_append, List.length_nil, List.length_cons] at h
  omega
 | s :: l, s' :: l', h1, h2, h => by
  have h : encS s ++ encK l = encS s' ++ encK l' := h
  obtain ⟨e1, e2⟩ := encS_inj (h1 s (List.mem_cons_self ..)) (h2 s' (List.mem_cons_self ..)) h
  have e3 := encK_inj (l := l) (l' := l') (fun z hz => h1 z (List.mem_cons_of_mem _ hz)) (fun z hz => h2 z (List.mem_cons_of_mem _ hz)) e2
  rw [e1, e3]
theorem dg_byte {x : Int} (hx : 0 ≤ x ∧ x < 100) : ∀ a ∈ dg x, 0 ≤ a ∧ a < 256 := by
 intro a ha
 unfold dg at ha
 split at ha <;> simp at ha <;> omega
theorem encS_byte {s : List Int} (h : small s) : ∀ a ∈ encS s, 0 ≤ a ∧ a < 256 := by
 intro a ha
 simp only [encS, List.mem_append, List.mem_flatMap, List.mem_singleton] at ha
 rcases ha with ⟨x, hx, h1 | h1⟩ | h1
 ·exact dg_byte (h x hx) a h1
 ·omega
 ·omega
theorem encK_byte {l : LL} (h : ∀ s ∈ l, small s) : ∀ a ∈ encK l, 0 ≤ a ∧ a < 256 := by
 intro a ha
 simp only [encK, List.mem_flatMap] at ha
 obtain ⟨s, hs, h1⟩ := ha
 exact encS_byte (h s hs) a h1
theorem strB_inj {l l' : List Int} (h1 : ∀ a ∈ l, 0 ≤ a ∧ a < 256) (h2 : ∀ a ∈ l', 0 ≤ a ∧ a < 256) (h : strB l = strB l') : l = l' := by
 have h3 : l.map (fun n => UInt8.ofNat n.toNat) = l'.map (fun n => UInt8.ofNat n.toNat) := by
  have := congrArg ByteArray.data h
  simpa [strB] using this
 have back : ∀ {m : List Int}, (∀ a ∈ m, 0 ≤ a ∧ a < 256) → (m.map (fun n => UInt8.ofNat n.toNat)).map (fun b => (b.toNat : Int)) = m := by
  intro m hm
  rw [List.map_map]
  conv => rhs; rw [← List.map_id m]
  apply List.map_congr_left
  intro a ha
  have := hm a ha
  simp only [Function.comp_apply, id_eq, UInt8.toNat_ofNat']
  omega
 rw [← back h1, ← back h2, h3]
def keyK (l : LL) : ByteArray := strB (encK l)
theorem keyK_inj {l l' : LL} (h1 : ∀ s ∈ l, small s) (h2 : ∀ s ∈ l', small s) (h : keyK l = keyK l') : l = l' := encK_inj h1 h2 (strB_inj (encK_byte h1) (encK_byte h2) h)
/-! ### Maps -/
theorem W0 {K V : Type} [DecidableEq K] (k k' : K) (v : V) : ∀ m : List (K × V), mget (mset m k v) k' = if k' = k then some v else mget m k'
 | [] => by
  simp only [mset, mget]
 | p :: r => by
  simp only [mset]
  by_cases h : k = p.1
  ·rw [if_pos h]
   simp only [mget]
   by_cases h2 : k' = k
   ·rw [if_pos h2, if_pos h2]
   ·rw [if_neg h2, if_neg h2, if_neg (by rw [← h]; exact h2)]
  ·rw [if_neg h]
   simp only [mget]
   rw [W0 k k' v r]
   by_cases h2 : k' = p.1
   ·rw [if_pos h2, if_pos h2, if_neg (fun e => h (e.symm.trans h2))]
   ·rw [if_neg h2, if_neg h2]
end Ab
end
section
namespace Ab
open Go
theorem aj9 {α β : Type} {l : List α} {body : Int → List β → Option (List β)} (g : α → List β) (N : Nat) (c0 : List β)
  (hb : ∀ j a c, ix l j = some a → c.length + (g a).length ≤ N → body j c = some (c ++ g a)) (hN : c0.length + (l.flatMap g).length ≤ N) :
  forR 0 (l.length : Int) body c0 = some (c0 ++ l.flatMap g) := by
 obtain ⟨s', h1, h2⟩ := p9 (body := body) (n := (l.length : Int)) (s := c0) (fun j c => c = c0 ++ (l.take j.toNat).flatMap g) (by omega) (by simp) (fun j c h0 h1 hP => by
  obtain ⟨a, g1, g2⟩ := i7 h0 h1
  have e : (j + 1).toNat = j.toNat + 1 := by omega
  have ht : l.take (j + 1).toNat = l.take j.toNat ++ [a] := by rw [e, List.take_add_one, g2]; rfl
  refine ⟨c ++ g a, hb j a c g1 ?_, ?_⟩
  ·have hs : l = l.take j.toNat ++ [a] ++ l.drop (j + 1).toNat := by rw [← ht, List.take_append_drop]
   have hl : (l.flatMap g).length = ((l.take j.toNat).flatMap g).length + (g a).length + ((l.drop (j + 1).toNat).flatMap g).length := by
    conv => lhs; rw [hs]
    simp [List.flatMap_append]; omega
   rw [hP, List.length_append]; omega
  ·rw [ht, List.flatMap_append, hP]; simp)
 rw [h1, h2]
 simp
theorem small_eq : ∀ n : Fin 100, (E0 (n : Nat)).map strL = some (dg (n : Nat)) := by decide +kernel
theorem appendInt_eq {x : Int} (hx : 0 ≤ x ∧ x < 100) {l : List Int} (hl : l.length ≤ 1000000) : y4 x 10 l = some (l ++ dg x) := by
 have h := small_eq ⟨x.toNat, by omega⟩
 rw [show (((⟨x.toNat, by omega⟩ : Fin 100) : Nat) : Int) = x by simp; omega] at h
 obtain ⟨b, h1, h2⟩ := Option.map_eq_some_iff.1 h
 first
  | unfold y4 x6 x4
  | unfold y4 internal_strconv_AppendInt_w2 internal_strconv_AppendUint_w3
 rw [if_neg (by omega), IntKind.wrap_u64, Int.emod_eq_of_lt (by omega) (by omega)]
 simp only [ob, if_true]
 rw [if_pos hx.2, q9 (by omega) (by omega), h1]
 simp only [ob, h2]
 have : (dg x).length ≤ 2 := by unfold dg; split <;> simp
 rw [app, if_pos (by omega)]
 rfl
theorem dg_len (x : Int) : (dg x).length ≤ 2 := by unfold dg; split <;> simp
theorem key_eq {l : LL} (hs : ∀ s ∈ l, small s) (hN : (encK l).length ≤ 900000) : M6 l = some (keyK l) := by
 unfold M6
 rw [aj9 encS 900000 [] (fun j s c hj hc => by
  unfold aa8
  rw [hj]
  simp only [ob]
  have hlen : (encS s).length = (s.flatMap fun x => dg x ++ [44]).length + 1 := by simp [encS]
  rw [aj9 (fun x => dg x ++ [44]) 900000 c (fun i x c' hi hc' => by
   unfold aa7
   rw [hi]
   simp only [List.length_append, List.length_singleton] at hc'
   simp only [ob, appendInt_eq (hs s (j3 hj) x (j3 hi)) (l := c') (by omega)]
   rw [app, if_pos (by simp; omega)]
   simp) (by omega)]
  simp only [ob]
  rw [app, if_pos (by rw [List.length_append]; simp only [List.length_singleton]; omega)]
  simp [encS]) (by simpa [encK] using hN)]
 rfl
theorem encS_len : ∀ s : List Int, (encS s).length ≤ 3 * s.length + 1
 | [] => by simp [encS]
 | x :: s => by
  have := encS_len s
  have := dg_len x
  rw [aa3]
  simp only [List.length_append, List.length_cons]
  omega
end Ab
end
section
namespace Ab
open Go
/-! ### Loops side by side -/
theorem rngN_sim {S1 S2 O1 O2 : Type} {b1 : Int → S1 → Option (S1 ⊕ O1)} {b2 : Int → S2 → Option (S2 ⊕ O2)} (R : Int → S1 → S2 → Prop) (Q : O1 → O2 → Prop) : ∀ (k : Nat) (i : Int) (s1 : S1) (s2 : S2), R i s1 s2 →
  (∀ j s1 s2, i ≤ j → j < i + k → R j s1 s2 → (∃ t1 t2, b1 j s1 = some (.inl t1) ∧ b2 j s2 = some (.inl t2) ∧ R (j + 1) t1 t2) ∨ ∃ o1 o2, b1 j s1 = some (.inr o1) ∧ b2 j s2 = some (.inr o2) ∧ Q o1 o2) →
  (∃ t1 t2, rngN b1 k i s1 = some (.inl t1) ∧ rngN b2 k i s2 = some (.inl t2) ∧ R (i + k) t1 t2) ∨ ∃ o1 o2, rngN b1 k i s1 = some (.inr o1) ∧ rngN b2 k i s2 = some (.inr o2) ∧ Q o1 o2
 | 0, i, s1, s2, h, _ => .inl ⟨s1, s2, rfl, rfl, by simpa using h⟩
 | k + 1, i, s1, s2, h, hb => by
  rcases hb i s1 s2 (Int.le_refl _) (by omega) h with ⟨t1, t2, h1, h2, h3⟩ | ⟨o1, o2, h1, h2, h3⟩
  ·rcases rngN_sim R Q k (i + 1) t1 t2 h3 (fun j s1 s2 g1 g2 => hb j s1 s2 (by omega) (by omega)) with ⟨u1, u2, g1, g2, g3⟩ | ⟨o1, o2, g1, g2, g3⟩
   ·exact .inl ⟨u1, u2, by simp only [rngN, h1]; exact g1, by simp only [rngN, h2]; exact g2, by rw [show i + ((k + 1 : Nat) : Int) = i + 1 + k by omega]; exact g3⟩
   ·exact .inr ⟨o1, o2, by simp only [rngN, h1]; exact g1, by simp only [rngN, h2]; exact g2, g3⟩
  ·exact .inr ⟨o1, o2, by simp only [rngN, h1], by simp only [rngN, h2], h3⟩
theorem rngX_sim {S1 S2 O1 O2 : Type} {b1 : Int → S1 → Option (S1 ⊕ O1)} {b2 : Int → S2 → Option (S2 ⊕ O2)} {n : Int} (R : Int → S1 → S2 → Prop) (Q : O1 → O2 → Prop) {s1 : S1} {s2 : S2} (hn : 0 ≤ n) (h0 : R 0 s1 s2)
  (hb : ∀ j s1 s2, 0 ≤ j → j < n → R j s1 s2 → (∃ t1 t2, b1 j s1 = some (.inl t1) ∧ b2 j s2 = some (.inl t2) ∧ R (j + 1) t1 t2) ∨ ∃ o1 o2, b1 j s1 = some (.inr o1) ∧ b2 j s2 = some (.inr o2) ∧ Q o1 o2) :
  (∃ t1 t2, rngX 0 n b1 s1 = some (.inl t1) ∧ rngX 0 n b2 s2 = some (.inl t2) ∧ R n t1 t2) ∨ ∃ o1 o2, rngX 0 n b1 s1 = some (.inr o1) ∧ rngX 0 n b2 s2 = some (.inr o2) ∧ Q o1 o2 := by
 rcases rngN_sim R Q (n - 0).toNat 0 s1 s2 h0 (fun j s1 s2 g1 g2 => hb j s1 s2 g1 (by omega)) with ⟨t1, t2, h1, h2, h3⟩ | h
 ·exact .inl ⟨t1, t2, h1, h2, by rwa [show (0 : Int) + ((n - 0).toNat : Int) = n by omega] at h3⟩
 ·exact .inr h
theorem Loop_sim {S1 S2 O1 O2 : Type} {b1 : S1 → Option (S1 ⊕ O1)} {b2 : S2 → Option (S2 ⊕ O2)} (R : S1 → S2 → Prop) (Q : O1 → O2 → Prop) (μ : S1 → Nat)
  (hb : ∀ s1 s2, R s1 s2 → (∃ t1 t2, b1 s1 = some (.inl t1) ∧ b2 s2 = some (.inl t2) ∧ R t1 t2 ∧ μ t1 < μ s1) ∨ ∃ o1 o2, b1 s1 = some (.inr o1) ∧ b2 s2 = some (.inr o2) ∧ Q o1 o2) :
  ∀ (k : Nat) (s1 : S1) (s2 : S2), μ s1 < k → R s1 s2 → ∃ o1 o2, Loop b1 s1 = some o1 ∧ Loop b2 s2 = some o2 ∧ Q o1 o2
 | 0, _, _, h, _ => by omega
 | k + 1, s1, s2, h, hs => by
  rcases hb s1 s2 hs with ⟨t1, t2, h1, h2, h3, h4⟩ | ⟨o1, o2, h1, h2, h3⟩
  ·obtain ⟨o1, o2, g1, g2, g3⟩ := Loop_sim R Q μ hb k t1 t2 (by omega) h3
   exact ⟨o1, o2, by rw [W1, h1]; exact g1, by rw [W1, h2]; exact g2, g3⟩
  ·exact ⟨o1, o2, by rw [W1, h1], by rw [W1, h2], h3⟩
/-! ### States as' numbers -/
def wsN : List Int → Nat
 | [] => 0
 | a :: l => 2 ^ a.toNat + wsN l
theorem wsN_append : ∀ {l m : List Int}, wsN (l ++ m) = wsN l + wsN m
 | [], m => by simp [wsN]
 | a :: l, m => by simp only [List.cons_append, wsN, wsN_append (l := l)]; omega
theorem wsN_le : ∀ {l : List Int}, (∀ x ∈ l, x < 24) → wsN l ≤ l.length * 16777216
 | [], _ => by simp [wsN]
 | a :: l, h => by
  have h1 := wsN_le (l := l) fun x hx => h x (List.mem_cons_of_mem _ hx)
  have h2 : 2 ^ a.toNat ≤ 2 ^ 24 := Nat.pow_le_pow_right (by decide) (by have := h a (by simp); omega)
  simp only [wsN, List.length_cons]
  omega
theorem wsN_dvd {k : Nat} : ∀ {l : List Int}, (∀ x ∈ l, k ≤ x.toNat) → 2 ^ k ∣ wsN l
 | [], _ => ⟨0, rfl⟩
 | a :: l, h => Nat.dvd_add (Nat.pow_dvd_pow 2 (h a (by simp))) (wsN_dvd fun x hx => h x (List.mem_cons_of_mem _ hx))
theorem two_pow_no {k : Nat} (h : 2 ^ (k + 1) ∣ 2 ^ k) : False := by
 have h1 := Nat.le_of_dvd (Nat.two_pow_pos k) h
 have h2 := Nat.two_pow_pos k
 rw [Nat.pow_succ] at h1
 omega
theorem wsN_ne {a : Int} {l m : List Int} (ha : 0 ≤ a) (hl : ∀ x ∈ l, a < x) (hm : ∀ x ∈ m, a < x) : wsN (a :: l) ≠ wsN m := fun h => by
 have d1 : 2 ^ (a.toNat + 1) ∣ wsN l := wsN_dvd fun x hx => by have := hl x hx; omega
 have d2 : 2 ^ (a.toNat + 1) ∣ wsN m := wsN_dvd fun x hx => by have := hm x hx; omega
 rw [← h, wsN] at d2
 exact two_pow_no ((Nat.dvd_add_left d1).1 d2)
theorem wsN_inj : ∀ {l m : List Int}, Inc l → Inc m → (∀ x ∈ l, 0 ≤ x) → (∀ x ∈ m, 0 ≤ x) → wsN l = wsN m → l = m
 | [], [], _, _, _, _, _ => rfl
 | [], b :: m, _, _, _, _, h => by
  have := Nat.two_pow_pos b.toNat
  simp only [wsN] at h; omega
 | a :: l, [], _, _, _, _, h => by
  have := Nat.two_pow_pos a.toNat
  simp only [wsN] at h; omega
 | a :: l, b :: m, h1, h2, h3, h4, h => by
  obtain ⟨l1, l2⟩ := List.pairwise_cons.1 h1
  obtain ⟨m1, m2⟩ := List.pairwise_cons.1 h2
  rcases Int.lt_trichotomy a b with c | c | c
  ·exact absurd h (wsN_ne (h3 a (by simp)) l1 fun x hx => by
    rcases List.mem_cons.1 hx with rfl | hx
    ·exact c
    ·have := m1 x hx; omega)
  ·subst c
   simp only [wsN] at h
   rw [wsN_inj l2 m2 (fun x hx => h3 x (List.mem_cons_of_mem _ hx)) (fun x hx => h4 x (List.mem_cons_of_mem _ hx)) (by omega)]
  ·exact absurd h.symm (wsN_ne (h4 b (by simp)) m1 fun x hx => by
    rcases List.mem_cons.1 hx with rfl | hx
    ·exact c
    ·have := l1 x hx; omega)
theorem SetN.word_inj {s s' : List Int} {n : Int} (h : SetN s n) (h' : SetN s' n) (e : wsN s = wsN s') : s = s' :=
 wsN_inj h.1 h'.1 (fun x hx => (h.2 x hx).1) (fun x hx => (h'.2 x hx).1) e
theorem word_eq {s : List Int} {n : Int} (hs : SetN s n) (hn : n ≤ 24) : aa2 s = some (wsN s : Int) := by
 have hl := hs.len
 unfold aa2
 obtain ⟨w, h1, h2⟩ := p9 (body := ac5 s) (n := (s.length : Int)) (s := 0) (fun j w => w = (wsN (s.take j.toNat) : Int)) (by omega) (by simp [wsN]) (fun j w j0 j1 hP => by
  obtain ⟨a, ha, ga⟩ := i7 (l := s) j0 j1
  have hb := hs.2 a (j3 ha)
  have ht : s.take (j + 1).toNat = s.take j.toNat ++ [a] := by rw [show (j + 1).toNat = j.toNat + 1 by omega, List.take_add_one, ga]; rfl
  have b1 : wsN (s.take j.toNat) ≤ (s.take j.toNat).length * 16777216 := wsN_le fun x hx => by have := hs.2 x (List.mem_of_mem_take hx); omega
  have b2 : (s.take j.toNat).length ≤ 24 := by rw [List.length_take]; omega
  have b4 : (s.take j.toNat).length * 16777216 ≤ 24 * 16777216 := Nat.mul_le_mul_right _ b2
  obtain ⟨q, hq⟩ : ∃ q : Nat, q = 2 ^ a.toNat := ⟨_, rfl⟩
  have b3 : q ≤ 16777216 := by rw [hq]; exact (Nat.pow_le_pow_right (by decide) (by omega) : 2 ^ a.toNat ≤ 2 ^ 24)
  have ep : (2 : Int) ^ a.toNat = (q : Int) := by rw [hq]; push_cast; rfl
  unfold ac5
  rw [ha]
  simp only [ob]
  rw [IntKind.wrap_u64, Int.emod_eq_of_lt (by omega) (by omega), chk0, if_neg (by omega)]
  simp only [ob]
  have es : shlW .i64 1 a = (q : Int) := by
   unfold shlW
   rw [show min a.toNat (IntKind.i64).bits = a.toNat by simp only [IntKind.bits]; omega, Int.one_mul, ep]
   exact q9 (by omega) (by omega)
  rw [es, q9 (by omega) (by omega), ht, wsN_append, hP]
  refine ⟨_, rfl, ?_⟩
  simp only [wsN, ← hq]
  omega)
 rw [h1, h2, Int.toNat_natCast, List.take_length]
 rfl
theorem SetN.small {s : List Int} {n : Int} (h : SetN s n) (hn : n ≤ 24) : small s := fun x hx => by have := h.2 x hx; omega
theorem key1_eq {s : List Int} (hs : small s) (h1 : s.length ≤ 1000) : M6 [s] = some (keyK [s]) := by
 refine key_eq (by simpa using hs) ?_
 have := encS_len s
 simp only [encK, List.flatMap_cons, List.flatMap_nil, List.length_append, List.append_nil]
 omega
theorem SetN.key_inj {s s' : List Int} {n : Int} (hn : n ≤ 24) (h : SetN s n) (h' : SetN s' n) (e : keyK [s] = keyK [s']) : s = s' := by
 have := keyK_inj (l := [s]) (l' := [s']) (by simpa using h.small hn) (by simpa using h'.small hn) e
 simpa using this
theorem oAfter_eq {t : b8} (ht : l4 t) {op : Int} (h0 : 0 ≤ op) (h1 : op < t.operators.length) {s : List Int} (hs : SetN s t.facts) : M7 t s op = r9 t s op := by
 obtain ⟨st, w, r1, r2, r3, r4, r5, r6⟩ := z8 ht h0 h1 hs
 have ho := ht.at h0 h1
 have hl := ho.l1
 have hn := ht.n1
 rw [r1]
 unfold M7
 rw [ix_oo h0 h1]
 simp only [ob]
 obtain ⟨l, a1, a2, a3, a4, a5⟩ := p9 (body := U4 t s (ooAt t op)) (n := ((ooAt t op).outcomes.length : Int)) (s := []) (fun j l => Ord l ∧ (l.length : Int) ≤ j ∧ (∀ y ∈ l, y.length ≤ 24) ∧ ∀ y, y ∈ l ↔ ∃ k x, k < j ∧ ix (ooAt t op).outcomes k = some x ∧ efc t.facts s x = y) (by omega) ⟨.nil, by simp, by simp, fun y => ⟨fun h => by (cases h), fun ⟨k, x, k1, k2, _⟩ => by have := (j8 k2).1; omega⟩⟩ (fun j l j0 j1 ⟨p1, p2, p3, p4⟩ => by
  obtain ⟨x, hx, _⟩ := i7 (l := (ooAt t op).outcomes) j0 j1
  unfold U4
  rw [hx]
  simp only [ob, effect_eq ht]
  obtain ⟨l', m1, m2, m3, m4⟩ := insert_eq p1 (by omega) (fun y hy => by have := p3 y hy; omega) (efc t.facts s x)
  rw [m1]
  have e24 := (ag5 t.facts s x).len
  refine ⟨l', rfl, m2, by omega, fun y hy => ?_, fun y => ?_⟩
  ·rcases (m3 y).1 hy with rfl | h
   ·omega
   ·exact p3 y h
  ·rw [m3, p4]
   constructor
   ·rintro (rfl | ⟨k, x', k1, k2⟩)
    ·exact ⟨j, x, by omega, hx, rfl⟩
    ·exact ⟨k, x', by omega, k2⟩
   ·rintro ⟨k, x', k1, k2, k3⟩
    by_cases ek : k = j
    ·subst ek
     rw [hx] at k2; cases k2
     exact .inl k3.symm
    ·exact .inr ⟨k, x', by omega, k2, k3⟩)
 have hst : l = st := Ord.ext a2 r2 fun y => by
  rw [a5, r3]
  constructor
  ·rintro ⟨k, x, _, k2, k3⟩; exact ⟨x, j3 k2, k3⟩
  ·rintro ⟨x, hx, k3⟩
   obtain ⟨k, k0, k1, k2⟩ := k9 hx
   exact ⟨k, x, k1, k2, k3⟩
 subst hst
 have hm : mkL 8 (l.length : Int) (0 : Int) = some (List.replicate l.length 0) := by
  rw [mkL, if_pos (by omega)]; simp
 rw [a1]
 simp only [ob, hm]
 have e : forR 0 ((ooAt t op).outcomes.length : Int) (U3 t s (ooAt t op) l) (List.replicate l.length 0) = some w := by
  rw [← r6]
  refine forR_congr fun j c j0 j1 => ?_
  obtain ⟨x, hx, _⟩ := i7 (l := (ooAt t op).outcomes) j0 j1
  obtain ⟨i, e1, e2, e3⟩ := bsets_eq (t := efc t.facts s x) r2 (by omega)
  obtain ⟨r, g1, g2⟩ := place_eq l (efc t.facts s x)
  unfold U3 E7
  rw [hx, ix_map, hx]
  simp only [ob, Option.map_some, effect_eq ht, e1, g1]
  rcases g2 with ⟨_, h⟩ | ⟨_, _, h, _⟩
  ·exact absurd ((r3 _).2 ⟨x, j3 hx, rfl⟩) h
  ·rw [e3 r h]
 rw [e]
 rfl
end Ab
end
section
namespace Ab
open Go
def Ext (a b : LL) : Prop := ∀ k y, ix a k = some y → ix b k = some y
theorem Ext.refl (a : LL) : Ext a a := fun _ _ h => h
theorem Ext.mem {a b : LL} (h : Ext a b) {y : List Int} (hy : y ∈ a) : y ∈ b := by
 obtain ⟨k, _, _, hk⟩ := k9 hy
 exact j3 (h k y hk)
theorem Ext.snoc {a b : LL} (h : Ext a b) (z : List Int) : Ext a (b ++ [z]) := fun k y hk => by
 obtain ⟨i0, i1, g⟩ := j8 (h k y hk)
 rw [ix, if_pos i0, List.getElem?_append_left (by omega), g]
theorem Ext.len {a b : LL} (h : Ext a b) : a.length ≤ b.length := by
 by_cases c : a.length = 0
 ·omega
 ·obtain ⟨y, hy, _⟩ := i7 (l := a) (i := (a.length : Int) - 1) (by omega) (by omega)
  have := (j8 (h _ y hy)).2.1
  omega
structure Rc (t : b8) (l : LL) (m : List (ByteArray × Int)) (ws : List Int) : Prop where
 set : ∀ s ∈ l, SetN s t.facts
 len : l.length ≤ 2000
 map : ∀ s, SetN s t.facts → (0 < Option.getD (mget m (keyK [s])) 0 ↔ s ∈ l)
 wrd : ws = l.map fun s => (wsN s : Int)
theorem Rc.has {t : b8} {l : LL} {m : List (ByteArray × Int)} {ws : List Int} (h : Rc t l m ws) {s : List Int} (hs : SetN s t.facts) : (wsN s : Int) ∈ ws ↔ s ∈ l := by
 rw [h.wrd, List.mem_map]
 constructor
 ·rintro ⟨a, ha, e⟩
  have : a = s := (h.set a ha).word_inj hs (by omega)
  exact this ▸ ha
 ·intro hm; exact ⟨s, hm, rfl⟩
theorem Rc.put {t : b8} (hn : t.facts ≤ 24) {l : LL} {m : List (ByteArray × Int)} {ws : List Int} (h : Rc t l m ws) {s : List Int} (hs : SetN s t.facts) (hl : l.length < 2000) : Rc t (l ++ [s]) (mset m (keyK [s]) 1) (ws ++ [(wsN s : Int)]) := by
 refine ⟨fun y hy => ?_, by simp; omega, fun y hy => ?_, by rw [h.wrd]; simp⟩
 ·rcases List.mem_append.1 hy with g | g
  ·exact h.set y g
  ·simp only [List.mem_singleton] at g; subst g; exact hs
 ·rw [W0, List.mem_append, List.mem_singleton]
  by_cases e : keyK [y] = keyK [s]
  ·have := SetN.key_inj hn hy hs e
   subst this
   rw [if_pos rfl]
   simp
  ·rw [if_neg e, h.map y hy]
   constructor
   ·exact .inl
   ·rintro (g | g)
    ·exact g
    ·exact absurd (by rw [g]) e
theorem reach4 {t : b8} (ht : l4 t) {st : LL} {w : List Int} (hst : ∀ y ∈ st, SetN y t.facts) {l0 : LL} {m0 : List (ByteArray × Int)} {ws0 : List Int} (h0 : Rc t l0 m0 ws0) :
  (∃ p q, rngX 0 (st.length : Int) (A6 (st, w)) (l0, m0) = some (.inl p) ∧ rngX 0 (st.length : Int) (J3 2000 (st, w)) (l0, ws0) = some (.inl q) ∧ q.1 = p.1 ∧ Rc t p.1 p.2 q.2 ∧ Ext l0 p.1 ∧ ∀ y ∈ st, y ∈ p.1) ∨ ∃ o1 o2, rngX 0 (st.length : Int) (A6 (st, w)) (l0, m0) = some (.inr o1) ∧ rngX 0 (st.length : Int) (J3 2000 (st, w)) (l0, ws0) = some (.inr o2) ∧ o1 = ([], false) ∧ o2 = ([], false) := by
 have hn := ht.n1
 rcases rngX_sim (b1 := A6 (st, w)) (b2 := J3 2000 (st, w)) (n := (st.length : Int)) (s1 := (l0, m0)) (s2 := (l0, ws0)) (fun j p q => q.1 = p.1 ∧ Rc t p.1 p.2 q.2 ∧ Ext l0 p.1 ∧ ∀ k y, k < j → ix st k = some y → y ∈ p.1) (fun o1 o2 => o1 = ([], false) ∧ o2 = ([], false)) (by omega) ⟨rfl, h0, .refl _, fun k y k0 hk => by have := (j8 hk).1; omega⟩ (fun j ⟨l, m⟩ ⟨l', ws⟩ j0 j1 ⟨e, g1, g2, g3⟩ => by
  dsimp only at e g1 g2 g3
  subst e
  obtain ⟨y, hy, _⟩ := i7 (l := st) j0 j1
  have hs := hst y (j3 hy)
  have hyl := hs.len
  unfold A6 J3
  dsimp only
  rw [hy]
  simp only [ob]
  rw [key1_eq (hs.small hn) (by omega), word_eq hs hn]
  simp only [ob, has_eq]
  have mono : ∀ {l2 : LL}, Ext l' l2 → y ∈ l2 → ∀ k z, k < j + 1 → ix st k = some z → z ∈ l2 := fun h1 h2 k z hk hz => by
   by_cases ek : k = j
   ·subst ek; rw [hy] at hz; cases hz; exact h2
   ·exact h1.mem (g3 k z (by omega) hz)
  by_cases c : y ∈ l'
  ·rw [if_pos ((g1.map y hs).2 c), ifP ((g1.has hs).2 c)]
   exact .inl ⟨_, _, rfl, rfl, rfl, g1, g2, mono (.refl _) c⟩
  ·rw [if_neg (fun h => c ((g1.map y hs).1 h)), ifN (fun h => c ((g1.has hs).1 h))]
   have hlen := g1.len
   by_cases c2 : (l'.length : Int) = 2000
   ·rw [if_pos c2, if_pos (by omega)]
    exact .inr ⟨_, _, rfl, rfl, rfl, rfl⟩
   ·rw [if_neg c2, if_neg (by omega), app, if_pos (by simp; omega)]
    simp only [ob]
    rw [app, if_pos (by rw [g1.wrd]; simp; omega)]
    exact .inl ⟨_, _, rfl, rfl, rfl, g1.put hn hs (by omega), g2.snoc _, mono ((Ext.refl _).snoc _) (by simp)⟩) with ⟨p, q, h1, h2, h3, h4, h5, h6⟩ | h
 ·refine .inl ⟨p, q, h1, h2, h3, h4, h5, fun y hy => ?_⟩
  obtain ⟨k, _, k1, hk⟩ := k9 hy
  exact h6 k y k1 hk
 ·exact .inr h
def ClS (t : b8) (l : LL) (s : List Int) (n : Int) : Prop := ∀ op : Int, 0 ≤ op → op < n → oCan t s op → ∀ x ∈ (ooAt t op).outcomes, efc t.facts s x ∈ l
theorem ClS.ext {t : b8} {l l' : LL} {s : List Int} {n : Int} (h : ClS t l s n) (e : Ext l l') : ClS t l' s n := fun op h0 h1 hc x hx => e.mem (h op h0 h1 hc x hx)
theorem reach2 {t : b8} (ht : l4 t) {l0 : LL} {m0 : List (ByteArray × Int)} {ws0 : List Int} (h0 : Rc t l0 m0 ws0) {at_ : Int} {s : List Int} (hs : ix l0 at_ = some s) :
  (∃ p q, rngX 0 (t.operators.length : Int) (C7 t at_) (l0, m0) = some (.inl p) ∧ rngX 0 (t.operators.length : Int) (J2 t 2000 at_) (l0, ws0) = some (.inl q) ∧ q.1 = p.1 ∧ Rc t p.1 p.2 q.2 ∧ Ext l0 p.1 ∧ ClS t p.1 s t.operators.length) ∨ ∃ o1 o2, rngX 0 (t.operators.length : Int) (C7 t at_) (l0, m0) = some (.inr o1) ∧ rngX 0 (t.operators.length : Int) (J2 t 2000 at_) (l0, ws0) = some (.inr o2) ∧ o1 = ([], false) ∧ o2 = ([], false) := by
 have hset := h0.set s (j3 hs)
 exact rngX_sim (b1 := C7 t at_) (b2 := J2 t 2000 at_) (n := (t.operators.length : Int)) (s1 := (l0, m0)) (s2 := (l0, ws0)) (fun j p q => q.1 = p.1 ∧ Rc t p.1 p.2 q.2 ∧ Ext l0 p.1 ∧ ClS t p.1 s j) (fun o1 o2 => o1 = ([], false) ∧ o2 = ([], false)) (by omega) ⟨rfl, h0, .refl _, fun op a b => by omega⟩ (fun j ⟨l, m⟩ ⟨l', ws⟩ j0 j1 ⟨e, g1, g2, g3⟩ => by
  dsimp only at e g1 g2 g3
  subst e
  unfold C7 J2
  dsimp only
  rw [g2 _ _ hs]
  simp only [ob]
  rw [oCan_eq ht j0 j1 hset, oApplies_eq j0 j1]
  simp only [ob, r7]
  have step : ∀ {l2 : LL}, Ext l' l2 → (oCan t s j → ∀ x ∈ (ooAt t j).outcomes, efc t.facts s x ∈ l2) → ClS t l2 s (j + 1) := fun h1 h2 op a b hc x hx => by
   by_cases eo : op = j
   ·subst eo; exact h2 hc x hx
   ·exact h1.mem (g3 op a (by omega) hc x hx)
  by_cases c : oCan t s j
  ·rw [ifNN c, ifNN c, oAfter_eq ht j0 j1 hset]
   obtain ⟨st, w, r1, r2, r3, _⟩ := z8 ht j0 j1 hset
   rw [r1]
   simp only [ob]
   rcases reach4 ht (st := st) (w := w) (fun y hy => by
    obtain ⟨x, _, rfl⟩ := (r3 y).1 hy
    exact ag5 _ _ _) g1 with ⟨p, q, h1, h2, h3, h4, h5, h6⟩ | ⟨o1, o2, h1, h2, h3, h4⟩
   ·rw [h1, h2]
    refine .inl ⟨p, q, rfl, rfl, h3, h4, fun k y hk => h5 k y (g2 k y hk), step h5 fun _ x hx => h6 _ ((r3 _).2 ⟨x, hx, rfl⟩)⟩
   ·rw [h1, h2]
    exact .inr ⟨o1, o2, rfl, rfl, h3, h4⟩
  ·rw [ifP c, ifP c]
   exact .inl ⟨_, _, rfl, rfl, rfl, g1, g2, step (.refl _) fun h => absurd h c⟩)
structure Cl (t : b8) (l : LL) : Prop where
 len : l.length ≤ 2000
 set : ∀ s ∈ l, SetN s t.facts
 init : t.init ∈ l
 closed : ∀ s ∈ l, ClS t l s t.operators.length
theorem reach_full {t : b8} (ht : l4 t) : (∃ out, B9 t = some (out, true) ∧ P4 t 2000 = some (out, true) ∧ Cl t out ∧ Ord out ∧ ∃ l, Loop (O6 t 2000) ([t.init], [(wsN t.init : Int)], 0) = some (.inl l) ∧ out.length ≤ l.length) ∨ (B9 t = some ([], false) ∧ P4 t 2000 = some ([], false)) := by
 have hn := ht.n1
 have hi := ht.init
 have hil := hi.len
 unfold B9 P4
 rw [ah6 (by omega)]
 simp only [ob]
 rw [key1_eq (hi.small hn) (by omega), word_eq hi hn]
 simp only [ob]
 rw [app, if_pos (by simp)]
 simp only [ob, List.nil_append]
 have r0 : Rc t [t.init] (mset ([] : List (ByteArray × Int)) (keyK [t.init]) 1) [(wsN t.init : Int)] := by
  refine ⟨by simpa using hi, by simp, fun s hs => ?_, rfl⟩
  rw [W0]
  by_cases e : keyK [s] = keyK [t.init]
  ·rw [if_pos e, SetN.key_inj hn hs hi e]; simp
  ·rw [if_neg e]
   simp only [mget, List.mem_singleton, Option.getD_none]
   exact ⟨fun h => by omega, fun h => absurd (by rw [h]) e⟩
 obtain ⟨o1, o2, q1, q2, q3⟩ := Loop_sim (b1 := x8 t) (b2 := O6 t 2000) (fun p q => q.1 = p.1 ∧ q.2.2 = p.2.2 ∧ Rc t p.1 p.2.1 q.2.1 ∧ 0 ≤ p.2.2 ∧ p.2.2 ≤ p.1.length ∧ t.init ∈ p.1 ∧ ∀ i s, i < p.2.2 → ix p.1 i = some s → ClS t p.1 s t.operators.length) (fun o1 o2 => (∃ l, o1 = .inl l ∧ o2 = .inl l ∧ Cl t l) ∨ (o1 = .inr ([], false) ∧ o2 = .inr ([], false))) (fun p => (2000 - p.2.2).toNat) (fun ⟨l, m, a⟩ ⟨l', ws, a'⟩ ⟨e1, e2, g1, g2, g3, g4, g5⟩ => by
  dsimp only at e1 e2 g1 g2 g3 g4 g5
  subst e1 e2
  have hlen := g1.len
  unfold x8 O6
  dsimp only
  by_cases c : a' < l'.length
  ·rw [if_pos c, if_pos c]
   obtain ⟨s, hs, _⟩ := i7 (l := l') g2 c
   rcases reach2 ht g1 hs with ⟨p, q, h1, h2, h3, h4, h5, h6⟩ | ⟨o1, o2, h1, h2, h3, h4⟩
   ·rw [h1, h2]
    have := h5.len
    have := h4.len
    simp only [ob]
    rw [q9 (by omega) (by omega)]
    refine .inl ⟨_, _, rfl, rfl, ⟨h3, rfl, h4, by dsimp only; omega, by dsimp only; omega, h5.mem g4, fun i s' hi' hs' => ?_⟩, by dsimp only; omega⟩
    dsimp only at hi' hs' ⊢
    by_cases ei : i = a'
    ·subst ei
     rw [h5 _ _ hs] at hs'; cases hs'
     exact h6
    ·obtain ⟨y, hy, _⟩ := i7 (l := l') (i := i) (j8 hs').1 (by omega)
     have hy2 := h5 _ _ hy
     rw [hs'] at hy2
     cases hy2
     exact (g5 i s' (by omega) hy).ext h5
   ·rw [h1, h2]
    refine .inr ⟨_, _, rfl, rfl, .inr ⟨by rw [h3], by rw [h4]⟩⟩
  ·rw [if_neg c, if_neg c]
   refine .inr ⟨_, _, rfl, rfl, .inl ⟨l', rfl, rfl, g1.len, g1.set, g4, fun s hs => ?_⟩⟩
   obtain ⟨i, i0, i1, hi⟩ := k9 hs
   exact g5 i s (by omega) hi) _ ([t.init], mset ([] : List (ByteArray × Int)) (keyK [t.init]) 1, 0) ([t.init], [(wsN t.init : Int)], 0) (Nat.lt_succ_self _) ⟨rfl, rfl, r0, by simp, by simp, by simp, fun i s hi hs => by have := (j8 hs).1; dsimp only at hi; omega⟩
 rw [q1, q2]
 rcases q3 with ⟨l, rfl, rfl, hc⟩ | ⟨rfl, rfl⟩
 ·left
  simp only [ob]
  have hcl := hc.len
  obtain ⟨r, n1, n2, n3, n4⟩ := af2 (l := l) (by omega)
  rw [n1]
  obtain ⟨l', a1, a2, a3, a4, a5⟩ := p9 (body := W5 l) (n := (l.length : Int)) (s := []) (fun j l' => Ord l' ∧ (l'.length : Int) ≤ j ∧ (∀ y ∈ l', y.length ≤ 24) ∧ ∀ y, y ∈ l' ↔ ∃ k, k < j ∧ ix l k = some y) (by omega) ⟨.nil, by simp, by simp, fun y => ⟨fun h => by (cases h), fun ⟨k, k1, k2⟩ => by have := (j8 k2).1; omega⟩⟩ (fun j l' j0 j1 ⟨p1, p2, p3, p4⟩ => by
   obtain ⟨s, hs, _⟩ := i7 (l := l) j0 j1
   unfold W5
   rw [hs]
   simp only [ob]
   obtain ⟨l2, m1, m2, m3, m4⟩ := insert_eq p1 (by omega) (fun y hy => by have := p3 y hy; omega) s
   rw [m1]
   have e24 := (hc.set s (j3 hs)).len
   refine ⟨l2, rfl, m2, by omega, fun y hy => ?_, fun y => ?_⟩
   ·rcases (m3 y).1 hy with rfl | h
    ·omega
    ·exact p3 y h
   ·rw [m3, p4]
    constructor
    ·rintro (rfl | ⟨k, k1, k2⟩)
     ·exact ⟨j, by omega, hs⟩
     ·exact ⟨k, by omega, k2⟩
    ·rintro ⟨k, k1, k2⟩
     by_cases ek : k = j
     ·subst ek
      rw [hs] at k2; cases k2
      exact .inl rfl
     ·exact .inr ⟨k, by omega, k2⟩)
  rw [a1]
  have : l' = r := Ord.ext a2 n2 fun y => by
   rw [a5, n3]
   constructor
   ·rintro ⟨k, _, k2⟩; exact j3 k2
   ·intro hy
    obtain ⟨k, _, k1, hk⟩ := k9 hy
    exact ⟨k, k1, hk⟩
  subst this
  refine ⟨l', rfl, rfl, ⟨by omega, fun s hs => hc.set s ((n3 s).1 hs), (n3 _).2 hc.init, fun s hs op h0 h1 hcan x hx => (n3 _).2 (hc.closed s ((n3 s).1 hs) op h0 h1 hcan x hx)⟩, a2, l, rfl, n4⟩
 ·right
  exact ⟨rfl, rfl⟩
theorem explore_ok {t : b8} (ht : l4 t) : Q4 t = (B9 t).bind fun r => if r.2 = true then some (r.1, ⟨0, 0⟩) else some ([], ⟨10, -7⟩) := by
 obtain ⟨f, h1, _, h3⟩ := ai6 t
 rcases h3 with ⟨rfl, _⟩ | ⟨_, hn⟩
 ·unfold Q4
  rw [h1]
  simp only [ob]
  rw [if_neg (by simp)]
  congr 1
  funext r
  cases r.2 <;> rfl
 ·exact absurd ht hn
end Ab
end
section
namespace Ab
open Go
theorem V5 {α : Type} [DecidableEq α] : ∀ {c S : List α}, c.Nodup → (∀ x ∈ c, x ∈ S) → c.length ≤ S.length
 | [], _, _, _ => Nat.zero_le _
 | a :: c, S, h, hs => by
  obtain ⟨h1, h2⟩ := List.nodup_cons.1 h
  have ha := hs a (by simp)
  have := V5 (c := c) (S := S.erase a) h2 fun x hx => by
   have hne : x ≠ a := fun e => h1 (e ▸ hx)
   exact (List.mem_erase_of_ne hne).2 (hs x (List.mem_cons_of_mem _ hx))
  rw [List.length_erase_of_mem ha] at this
  have : 0 < S.length := List.length_pos_of_mem ha
  simp only [List.length_cons]
  omega
section
variable {α : Type}
def Dn (G L : α → Prop) (nx : α → List α) : Nat → α → Prop
 | 0, s => G s
 | k + 1, s => G s ∨ (L s ∧ ∀ y ∈ nx s, Dn G L nx k y)
variable {G L : α → Prop} {nx : α → List α}
theorem Dn.goal {k : Nat} {s : α} (h : G s) : Dn G L nx k s := by
 cases k with
 | zero => exact h
 | succ k => exact .inl h
theorem Dn.succ : ∀ {k : Nat} {s : α}, Dn G L nx k s → Dn G L nx (k + 1) s
 | 0, s, h => .inl h
 | k + 1, s, h => by
  rcases h with h | ⟨h1, h2⟩
  ·exact .inl h
  ·exact .inr ⟨h1, fun y hy => (h2 y hy).succ⟩
theorem Dn.mono {k m : Nat} {s : α} (h : Dn G L nx k s) (hm : k ≤ m) : Dn G L nx m s := by
 induction hm with
 | refl => exact h
 | step _ ih => exact ih.succ
def Ht (G L : α → Prop) (nx : α → List α) (k : Nat) (s : α) : Prop := Dn G L nx k s ∧ ∀ j, j < k → ¬ Dn G L nx j s
theorem Ht.unique {k m : Nat} {s : α} (h : Ht G L nx k s) (h' : Ht G L nx m s) : k = m := by
 rcases Nat.lt_trichotomy k m with c | c | c
 ·exact absurd h.1 (h'.2 k c)
 ·exact c
 ·exact absurd h'.1 (h.2 m c)
theorem Ht.le {k m : Nat} {s : α} (h : Ht G L nx k s) (h' : Dn G L nx m s) : k ≤ m := by
 rcases Nat.lt_or_ge m k with c | c
 ·exact absurd h' (h.2 m c)
 ·exact c
theorem Ht.of_dn : ∀ {k : Nat} {s : α}, Dn G L nx k s → ∃ m, m ≤ k ∧ Ht G L nx m s
 | 0, s, h => ⟨0, Nat.le_refl _, h, fun j hj => by omega⟩
 | k + 1, s, h => by
  by_cases c : Dn G L nx k s
  ·obtain ⟨m, h1, h2⟩ := Ht.of_dn c
   exact ⟨m, by omega, h2⟩
  ·exact ⟨k + 1, Nat.le_refl _, h, fun j hj hd => c (hd.mono (by omega))⟩
theorem Ht.zero {s : α} (h : G s) : Ht G L nx 0 s := ⟨h, fun j hj => by omega⟩
theorem Ht.goal {k : Nat} {s : α} (h : Ht G L nx k s) (hg : G s) : k = 0 := h.unique (.zero hg)
theorem Ht.step {k : Nat} {s : α} (h : Ht G L nx k s) (hg : ¬ G s) (hne : ∀ s, L s → nx s ≠ []) : ∃ m, k = m + 1 ∧ L s ∧ (∀ y ∈ nx s, ∃ j, j ≤ m ∧ Ht G L nx j y) ∧ ∃ y ∈ nx s, Ht G L nx m y := by
 cases k with
 | zero => exact absurd h.1 hg
 | succ m =>
  rcases h.1 with g | ⟨h1, h2⟩
  ·exact absurd g hg
  ·refine ⟨m, rfl, h1, fun y hy => Ht.of_dn (h2 y hy), ?_⟩
   cases m with
   | zero =>
    obtain ⟨y, hy⟩ := List.exists_mem_of_ne_nil _ (hne s h1)
    exact ⟨y, hy, h2 y hy, fun j hj => by omega⟩
   | succ m =>
    have hn := h.2 (m + 1) (by omega)
    have : ∃ y ∈ nx s, ¬ Dn G L nx m y := Classical.byContradiction fun hc => hn (.inr ⟨h1, fun y hy => Classical.byContradiction fun hy2 => hc ⟨y, hy, hy2⟩⟩)
    obtain ⟨y, hy, hy2⟩ := this
    exact ⟨y, hy, h2 y hy, fun j hj hd => hy2 (hd.mono (by omega))⟩
end
end Ab
end
section
namespace Ab
open Go
def i9 (t : b8) (s : List Int) : Prop := ∀ x ∈ t.goal, x ∈ s
noncomputable def w6 (p : List d9) (s : List Int) : Prop := 0 ≤ chO p s
noncomputable def nxS (t : b8) (p : List d9) (s : List Int) : LL := (ooAt t (chO p s)).outcomes.map (efc t.facts s)
inductive Rch (t : b8) (p : List d9) : List Int → Prop
 | init : Rch t p t.init
 | step {s y : List Int} : Rch t p s → ¬ i9 t s → w6 p s → y ∈ nxS t p s → Rch t p y
theorem chO_mem {p : List d9} {s : List Int} (h : 0 ≤ chO p s) : ∃ c ∈ p, c.state = s ∧ chO p s = c.operator := by
 obtain ⟨r, h1, h2⟩ := ac0 p s
 have e : chO p s = r := by rw [chO, h1]; rfl
 rw [e] at h ⊢
 rcases h2 with ⟨rfl, _⟩ | ⟨c, h3, h4, h5⟩
 ·omega
 ·exact ⟨c, h3, h4, h5⟩
theorem live_op {t : b8} {p : List d9} (hp : E6 t p) {s : List Int} (h : w6 p s) : (0 ≤ chO p s ∧ chO p s < t.operators.length) ∧ oCan t s (chO p s) := by
 obtain ⟨_, e⟩ := ab2 hp s
 unfold w6 at h
 rcases e with e | e
 ·omega
 ·exact ⟨⟨e.1, e.2.1⟩, e.2.2⟩
theorem Rch.set {t : b8} (ht : l4 t) {p : List d9} {s : List Int} (h : Rch t p s) : SetN s t.facts := by
 cases h with
 | init => exact ht.init
 | step _ _ _ hy =>
  obtain ⟨x, _, rfl⟩ := List.mem_map.1 hy
  exact ag5 _ _ _
noncomputable def candK (t : b8) (p : List d9) : LL := t.init :: p.flatMap fun c => (ooAt t c.operator).outcomes.map (efc t.facts c.state)
theorem flat_len {α β : Type} {f : α → List β} {n : Nat} : ∀ {l : List α}, (∀ a ∈ l, (f a).length ≤ n) → (l.flatMap f).length ≤ l.length * n
 | [], _ => by simp
 | a :: l, h => by
  have h1 := h a (by simp)
  have h2 := flat_len (l := l) fun b hb => h b (List.mem_cons_of_mem _ hb)
  rw [List.flatMap_cons, List.length_append, List.length_cons, Nat.succ_mul]
  omega
theorem candK_len {t : b8} (ht : l4 t) {p : List d9} (hp : E6 t p) : (candK t p).length ≤ 801 := by
 have h := flat_len (f := fun c : d9 => (ooAt t c.operator).outcomes.map (efc t.facts c.state)) (n := 4) (l := p) fun c hc => by
  have := hp.op c hc
  have := (ht.at this.1 this.2).l1
  simpa using this
 have := hp.len
 have h2 : p.length * 4 ≤ 200 * 4 := Nat.mul_le_mul_right _ this
 unfold candK
 rw [List.length_cons]
 omega
theorem Rch.cand {t : b8} {p : List d9} {s : List Int} (h : Rch t p s) : s ∈ candK t p := by
 cases h with
 | init => exact List.mem_cons_self ..
 | @step s y _ _ hl hy =>
  obtain ⟨c, h1, h2, h3⟩ := chO_mem hl
  refine List.mem_cons_of_mem _ (List.mem_flatMap.2 ⟨c, h1, ?_⟩)
  unfold nxS at hy
  rw [h3] at hy
  rw [h2]
  exact hy
theorem Y4 {t : b8} (ht : l4 t) {p : List d9} (hp : E6 t p) {l : LL} (hn : l.Nodup) (h : ∀ s ∈ l, Rch t p s) : l.length ≤ 801 :=
 Nat.le_trans (V5 hn fun s hs => (h s hs).cand) (candK_len ht hp)
theorem Ord.nodup {l : LL} (h : Ord l) : l.Nodup := List.Pairwise.imp (fun {a b : List Int} (hab : llt a b) (e : a = b) => D9 a (by rw [← e] at hab; exact hab)) h
def ClV (t : b8) (p : List d9) (l : LL) (s : List Int) : Prop := ¬ i9 t s → w6 p s → ∀ y ∈ nxS t p s, y ∈ l
structure Vis (t : b8) (p : List d9) (l : LL) : Prop where
 ord : Ord l
 mem : ∀ s, s ∈ l ↔ Rch t p s
theorem vis_of {t : b8} {p : List d9} {l : LL} (ho : Ord l) (hi : t.init ∈ l) (hr : ∀ s ∈ l, Rch t p s) (hc : ∀ s ∈ l, ClV t p l s) : Vis t p l := by
 refine ⟨ho, fun s => ⟨hr s, fun h => ?_⟩⟩
 induction h with
 | init => exact hi
 | step _ hg hl hy ih => exact hc _ ih hg hl _ hy
theorem containsLL_eq {l : LL} {s : List Int} : m6 l (fun y => G5 y s) = some (dec (s ∈ l)) := by
 unfold m6 A5
 rcases s9 (body := q6 l fun y => G5 y s) (n := (l.length : Int)) (fun j => if dec (ix l j = some s) = true then some j else none) (by omega) (fun j h0 h1 _ => by
  obtain ⟨x, hx, _⟩ := i7 (l := l) h0 h1
  unfold q6 G5
  rw [hx]
  simp only [ob, equal_eq]
  by_cases e : x = s
  ·rw [ifP e, ifP (by rw [e])]
  ·rw [ifN e, ifN (by simpa using e)]) with ⟨h1, h2⟩ | ⟨j, o, h0, h1, h2, h3, h4⟩
 ·rw [h1]
  simp only [ob]
  rw [o4]
  ·rfl
  ·intro hs
   obtain ⟨i, i0, i1, hi⟩ := k9 hs
   have := h2 i i0 i1
   rw [ifP hi] at this
   cases this
 ·rw [h4]
  split at h2
  ·rename_i e
   cases h2
   simp only [ob]
   rw [k8 (j3 (k7.1 e)), decide_eq_true h0]
  ·cases h2
theorem vis4 {t : b8} (ht : l4 t) {p : List d9} (hp : E6 t p) {s : List Int} (hs : Rch t p s) (hg : ¬ i9 t s) (hl : w6 p s) {st : LL} {w : List Int} (hst : ∀ y, y ∈ st ↔ y ∈ nxS t p s) {l0 : LL} (hn : l0.Nodup) (hr : ∀ s ∈ l0, Rch t p s) :
  ∃ l, forR 0 (st.length : Int) (J9 (st, w)) l0 = some l ∧ l.Nodup ∧ (∀ s ∈ l, Rch t p s) ∧ Ext l0 l ∧ ∀ y ∈ st, y ∈ l := by
 obtain ⟨l, h1, h2, h3, h4, h5⟩ := p9 (body := J9 (st, w)) (n := (st.length : Int)) (s := l0) (fun j l => l.Nodup ∧ (∀ s ∈ l, Rch t p s) ∧ Ext l0 l ∧ ∀ k y, k < j → ix st k = some y → y ∈ l) (by omega) ⟨hn, hr, .refl _, fun k y hk h => by have := (j8 h).1; omega⟩ (fun j l j0 j1 ⟨a1, a2, a3, a4⟩ => by
  obtain ⟨y, hy, _⟩ := i7 (l := st) j0 j1
  unfold J9
  dsimp only
  rw [hy]
  simp only [ob, containsLL_eq, r7]
  have mono : ∀ {l2 : LL}, Ext l l2 → y ∈ l2 → ∀ k z, k < j + 1 → ix st k = some z → z ∈ l2 := fun h1 h2 k z hk hz => by
   by_cases ek : k = j
   ·subst ek; rw [hy] at hz; cases hz; exact h2
   ·exact h1.mem (a4 k z (by omega) hz)
  have hry : Rch t p y := .step hs hg hl ((hst y).1 (j3 hy))
  by_cases c : y ∈ l
  ·rw [ifNN c]
   exact ⟨l, rfl, a1, a2, a3, mono (.refl _) c⟩
  ·have hlen := Y4 ht hp a1 a2
   rw [ifP c, app, if_pos (by simp; omega)]
   refine ⟨_, rfl, List.nodup_append.2 ⟨a1, by simp, fun a ha b hb => ?_⟩, fun z hz => ?_, a3.snoc _, mono ((Ext.refl _).snoc _) (by simp)⟩
   ·simp only [List.mem_singleton] at hb; subst hb; exact fun e => c (e ▸ ha)
   ·rcases List.mem_append.1 hz with g | g
    ·exact a2 z g
    ·simp only [List.mem_singleton] at g; exact g ▸ hry)
 refine ⟨l, h1, h2, h3, h4, fun y hy => ?_⟩
 obtain ⟨k, _, k1, hk⟩ := k9 hy
 exact h5 k y k1 hk
theorem oVisited_eq {t : b8} (ht : l4 t) {p : List d9} (hp : E6 t p) : ∃ l, P9 t p = some l ∧ Vis t p l := by
 have hn := ht.n1
 have hil := ht.init.len
 unfold P9
 rw [ah6 (by omega)]
 simp only [ob]
 obtain ⟨l, h1, h2, h3, h4, h5⟩ := D5 (body := O8 t p) (fun q => q.1.Nodup ∧ (∀ s ∈ q.1, Rch t p s) ∧ t.init ∈ q.1 ∧ (0 ≤ q.2 ∧ q.2 ≤ q.1.length) ∧ ∀ i s, i < q.2 → ix q.1 i = some s → ClV t p q.1 s) (fun l => l.Nodup ∧ (∀ s ∈ l, Rch t p s) ∧ t.init ∈ l ∧ ∀ s ∈ l, ClV t p l s) (fun q => (801 - q.2).toNat) (s := ([t.init], 0)) ⟨by simp, by simpa using Rch.init, by simp, by simp, fun i s hi h => by have := (j8 h).1; dsimp only at hi; omega⟩ (fun ⟨l, a⟩ ⟨g1, g2, g3, g4, g5⟩ => by
  dsimp only at g1 g2 g3 g4 g5 ⊢
  have hlen := Y4 ht hp g1 g2
  unfold O8
  dsimp only
  by_cases c : a < l.length
  ·rw [if_pos c]
   obtain ⟨s, hs, _⟩ := i7 (l := l) g4.1 c
   have hrs := g2 s (j3 hs)
   have hset := hrs.set ht
   have hsl := hset.len
   rw [hs]
   simp only [ob, (ab2 hp s).1, T3 hset.1 ht.goal.1 (show s.length ≤ 1000000 by omega)]
   have key : (if chO p s < 0 then some true else some (dec (∀ x ∈ t.goal, x ∈ s))) = some (dec (chO p s < 0 ∨ i9 t s)) := by
    unfold i9
    rw [← ifOr]
    by_cases h : chO p s < 0
    ·rw [if_pos h, ifP h]
    ·rw [if_neg h, ifN h]
   rw [key]
   simp only [ob]
   have fin : ∀ {l2 : LL}, Ext l l2 → ClV t p l2 s → ∀ i z, i < a + 1 → ix l2 i = some z → ClV t p l2 z := fun h1 h2 i z hi hz => by
    by_cases ei : i = a
    ·subst ei
     rw [h1 _ _ hs] at hz; cases hz; exact h2
    ·obtain ⟨y, hy, _⟩ := i7 (l := l) (i := i) (j8 hz).1 (by omega)
     have := h1 _ _ hy
     rw [hz] at this; cases this
     exact fun q1 q2 y hy2 => h1.mem (g5 i z (by omega) hy q1 q2 y hy2)
   by_cases cs : chO p s < 0 ∨ i9 t s
   ·rw [ifP cs]
    simp only [ob]
    rw [q9 (by omega) (by omega)]
    refine .inl ⟨_, rfl, ⟨g1, g2, g3, by dsimp only; omega, fin (.refl _) fun q1 q2 => ?_⟩, by dsimp only; omega⟩
    rcases cs with c1 | c1
    ·unfold w6 at q2; omega
    ·exact absurd c1 q1
   ·rw [ifN cs]
    have hl : w6 p s := by unfold w6; have := fun h => cs (.inl h); omega
    have hg : ¬ i9 t s := fun h => cs (.inr h)
    have ho := live_op hp hl
    obtain ⟨st, w, r1, _, r3, _⟩ := z8 ht ho.1.1 ho.1.2 hset
    rw [r1]
    simp only [ob]
    obtain ⟨l2, e1, e2, e3, e4, e5⟩ := vis4 ht hp hrs hg hl (st := st) (w := w) (fun y => by rw [r3, nxS, List.mem_map]) g1 g2
    rw [e1]
    simp only [ob]
    have := e4.len
    rw [q9 (by omega) (by omega)]
    exact .inl ⟨_, rfl, ⟨e2, e3, e4.mem g3, by dsimp only; omega, fin e4 fun _ _ y hy => e5 y (by rw [r3]; exact List.mem_map.1 hy)⟩, by dsimp only; omega⟩
  ·rw [if_neg c]
   refine .inr ⟨l, rfl, g1, g2, g3, fun s hs => ?_⟩
   obtain ⟨i, i0, i1, hi⟩ := k9 hs
   exact g5 i s (by omega) hi)
 rw [h1]
 simp only [ob]
 have hlen := Y4 ht hp h2 h3
 obtain ⟨r, n1, n2, n3, n4⟩ := af2 (l := l) (by omega)
 rw [n1]
 exact ⟨r, rfl, vis_of n2 ((n3 _).2 h4) (fun s hs => h3 s ((n3 s).1 hs)) fun s hs q1 q2 y hy => (n3 y).2 (h5 s ((n3 s).1 hs) q1 q2 y hy)⟩
theorem rvis3 {t : b8} (ht : l4 t) {p : List d9} (hp : E6 t p) {s : List Int} (hs : Rch t p s) (hg : ¬ i9 t s) (hl : w6 p s) {st : LL} {w : List Int} (hst : ∀ y, y ∈ st ↔ y ∈ nxS t p s) {l0 : LL} {b0 : Bool} (ho : Ord l0) (hr : ∀ s ∈ l0, Rch t p s) :
  ∃ l b, forR 0 (st.length : Int) (J8 (st, w)) (l0, b0) = some (l, b) ∧ Ord l ∧ (∀ s ∈ l, Rch t p s) ∧ (∀ s ∈ l0, s ∈ l) ∧ l0.length ≤ l.length ∧ (b = false → b0 = false ∧ l = l0 ∧ ∀ y ∈ st, y ∈ l) ∧ (b = true → b0 = true ∨ l0.length < l.length) := by
 have hn := ht.n1
 obtain ⟨⟨l, b⟩, h1, h2, h3, h4, h5, h6, h7⟩ := p9 (body := J8 (st, w)) (n := (st.length : Int)) (s := (l0, b0)) (fun j q => Ord q.1 ∧ (∀ s ∈ q.1, Rch t p s) ∧ (∀ s ∈ l0, s ∈ q.1) ∧ l0.length ≤ q.1.length ∧ (q.2 = false → b0 = false ∧ q.1 = l0 ∧ ∀ k y, k < j → ix st k = some y → y ∈ q.1) ∧ (q.2 = true → b0 = true ∨ l0.length < q.1.length)) (by omega) ⟨ho, hr, fun _ h => h, Nat.le_refl _, fun h => ⟨h, rfl, fun k y hk h => by have := (j8 h).1; omega⟩, fun h => .inl h⟩ (fun j ⟨l, b⟩ j0 j1 ⟨a1, a2, a3, a4, a5, a6⟩ => by
  dsimp only at a1 a2 a3 a4 a5 a6
  obtain ⟨y, hy, _⟩ := i7 (l := st) j0 j1
  have hry : Rch t p y := .step hs hg hl ((hst y).1 (j3 hy))
  unfold J8
  dsimp only
  rw [hy]
  obtain ⟨z, z1, z2⟩ := place_eq l y
  simp only [ob, z1]
  rcases z2 with ⟨rfl, hz⟩ | ⟨z0, _, hz, _⟩
  ·rw [if_pos (by decide)]
   have hlen := Y4 ht hp a1.nodup a2
   obtain ⟨l2, m1, m2, m3, m4⟩ := insert_eq a1 (by omega) (fun y hy => by have := ((a2 y hy).set ht).len; omega) y
   rw [m1]
   have hlt : l.length < l2.length := by
    have := V5 (c := y :: l) (S := l2) (List.nodup_cons.2 ⟨hz, a1.nodup⟩) fun x hx => (m3 x).2 (List.mem_cons.1 hx)
    simp only [List.length_cons] at this
    omega
   refine ⟨_, rfl, m2, fun x hx => ?_, fun x hx => (m3 x).2 (.inr (a3 x hx)), by dsimp only; omega, fun h => by (cases h), fun _ => .inr (by dsimp only; omega)⟩
   rcases (m3 x).1 hx with rfl | h
   ·exact hry
   ·exact a2 x h
  ·rw [if_neg (by omega)]
   refine ⟨_, rfl, a1, a2, a3, a4, fun h => ?_, a6⟩
   obtain ⟨q1, q2, q3⟩ := a5 h
   refine ⟨q1, q2, fun k z' hk hz' => ?_⟩
   by_cases ek : k = j
   ·subst ek; rw [hy] at hz'; cases hz'; exact j3 hz
   ·exact q3 k z' (by omega) hz')
 refine ⟨l, b, h1, h2, h3, h4, h5, fun h => ?_, h7⟩
 obtain ⟨q1, q2, q3⟩ := h6 h
 refine ⟨q1, q2, fun y hy => ?_⟩
 obtain ⟨k, _, k1, hk⟩ := k9 hy
 exact q3 k y k1 hk
theorem rVisited_eq {t : b8} (ht : l4 t) {p : List d9} (hp : E6 t p) : ∃ l, Q7 t p = some l ∧ Vis t p l := by
 have hn := ht.n1
 unfold Q7
 obtain ⟨l, h1, h2⟩ := D5 (body := P3 t p) (fun q => Ord q.1 ∧ (∀ s ∈ q.1, Rch t p s) ∧ t.init ∈ q.1 ∧ (q.2 = false → ∀ s ∈ q.1, ClV t p q.1 s)) (fun l => Vis t p l) (fun q => 2 * (801 - q.1.length) + if q.2 = true then 1 else 0) (s := ([t.init], true)) ⟨by simp, by simpa using Rch.init, by simp, fun h => by cases h⟩ (fun ⟨l0, b0⟩ ⟨g1, g2, g3, g4⟩ => by
  dsimp only at g1 g2 g3 g4 ⊢
  unfold P3
  dsimp only
  by_cases cb : b0 = true
  ·subst cb
   rw [if_pos rfl]
   obtain ⟨⟨l, b⟩, e1, e2, e3, e4, e5, e6, e7⟩ := D5 (body := O7 t p) (fun q => Ord q.1 ∧ (∀ s ∈ q.1, Rch t p s) ∧ t.init ∈ q.1 ∧ l0.length ≤ q.1.length ∧ 0 ≤ q.2.2 ∧ (q.2.1 = false → q.1 = l0 ∧ ∀ i s, i < q.2.2 → ix q.1 i = some s → ClV t p q.1 s) ∧ (q.2.1 = true → l0.length < q.1.length)) (fun r => Ord r.1 ∧ (∀ s ∈ r.1, Rch t p s) ∧ t.init ∈ r.1 ∧ l0.length ≤ r.1.length ∧ (r.2 = false → ∀ s ∈ r.1, ClV t p r.1 s) ∧ (r.2 = false → r.1 = l0) ∧ (r.2 = true → l0.length < r.1.length)) (fun q => (801 - q.2.2).toNat) (s := (l0, false, 0)) ⟨g1, g2, g3, Nat.le_refl _, by simp, fun _ => ⟨rfl, fun i s hi h => by have := (j8 h).1; dsimp only at hi; omega⟩, fun h => by (cases h)⟩ (fun ⟨l, b, i⟩ ⟨a1, a2, a3, a4, a5, a6, a7⟩ => by
    dsimp only at a1 a2 a3 a4 a5 a6 a7 ⊢
    have hlen := Y4 ht hp a1.nodup a2
    unfold O7
    dsimp only
    by_cases c : i < l.length
    ·rw [if_pos c]
     obtain ⟨s, hs, _⟩ := i7 (l := l) a5 c
     have hrs := a2 s (j3 hs)
     have hset := hrs.set ht
     rw [hs]
     simp only [ob, rChosen_chO]
     have key : (if chO p s < 0 then some true else Option.bind (K1 t s) fun a36 => some a36) = some (dec (chO p s < 0 ∨ i9 t s)) := by
      unfold K1 i9
      rw [subset_eq, ← ifOr]
      simp only [ob]
      by_cases h : chO p s < 0
      ·rw [if_pos h, ifP h]
      ·rw [if_neg h, ifN h]
     rw [key]
     simp only [ob]
     by_cases cs : chO p s < 0 ∨ i9 t s
     ·rw [ifP cs]
      simp only [ob]
      rw [q9 (by omega) (by omega)]
      refine .inl ⟨_, rfl, ⟨a1, a2, a3, a4, by dsimp only; omega, fun h => ⟨(a6 h).1, fun k z hk hz => ?_⟩, a7⟩, by dsimp only; omega⟩
      dsimp only at hk
      by_cases ek : k = i
      ·subst ek; rw [hs] at hz; cases hz
       intro q1 q2
       rcases cs with c1 | c1
       ·unfold w6 at q2; omega
       ·exact absurd c1 q1
      ·exact (a6 h).2 k z (by omega) hz
     ·rw [ifN cs]
      have hl : w6 p s := by unfold w6; have := fun h => cs (.inl h); omega
      have hg : ¬ i9 t s := fun h => cs (.inr h)
      have ho := live_op hp hl
      rw [oAfter_eq ht ho.1.1 ho.1.2 hset]
      obtain ⟨st, w, r1, _, r3, _⟩ := z8 ht ho.1.1 ho.1.2 hset
      rw [r1]
      simp only [ob]
      obtain ⟨l2, b2, f1, f2, f3, f4, f5, f6, f7⟩ := rvis3 ht hp hrs hg hl (st := st) (w := w) (fun y => by rw [r3, nxS, List.mem_map]) (b0 := b) a1 a2
      rw [f1]
      simp only [ob]
      rw [q9 (by omega) (by omega)]
      refine .inl ⟨_, rfl, ⟨f2, f3, f4 _ a3, by dsimp only; omega, by dsimp only; omega, fun h => ?_, fun h => ?_⟩, by dsimp only; omega⟩
      ·obtain ⟨q1, q2, q3⟩ := f6 h
       subst q2
       refine ⟨(a6 q1).1, fun k z hk hz => ?_⟩
       dsimp only at hk
       by_cases ek : k = i
       ·subst ek; rw [hs] at hz; cases hz
        exact fun _ _ y hy => q3 y (by rw [r3]; exact List.mem_map.1 hy)
       ·exact (a6 q1).2 k z (by omega) hz
      ·rcases f7 h with q | q
       ·have := a7 q; dsimp only; omega
       ·dsimp only; omega
    ·rw [if_neg c]
     refine .inr ⟨_, rfl, a1, a2, a3, a4, fun h s hs => ?_, fun h => (a6 h).1, a7⟩
     obtain ⟨k, k0, k1, hk⟩ := k9 hs
     exact (a6 h).2 k s (by have : k < (l.length : Int) := k1; omega) hk)
   rw [e1]
   simp only [ob]
   dsimp only at e2 e3 e4 e5 e6 e7
   have hlen := Y4 ht hp e2.nodup e3
   refine .inl ⟨_, rfl, ⟨e2, e3, e4, e6⟩, ?_⟩
   dsimp only
   cases b with
   | false => simp; have := e7.1 rfl; rw [this]; omega
   | true => have := e7.2 rfl; simp; omega
  ·rw [if_neg cb]
   have hb : b0 = false := by simpa using cb
   exact .inr ⟨_, rfl, vis_of g1 g3 g2 (g4 hb)⟩)
 rw [h1]
 exact ⟨l, rfl, h2⟩
end Ab
end
section
namespace Ab
open Go
abbrev HtS (t : b8) (p : List d9) (k : Nat) (s : List Int) : Prop := Ht (i9 t) (w6 p) (nxS t p) k s
theorem Vis.closed {t : b8} {p : List d9} {l : LL} (h : Vis t p l) : ∀ s ∈ l, ¬ i9 t s → w6 p s → ∀ y ∈ nxS t p s, y ∈ l := fun s hs hg hl y hy => (h.mem y).2 (.step ((h.mem s).1 hs) hg hl hy)
theorem Vis.len {t : b8} (ht : l4 t) {p : List d9} (hp : E6 t p) {l : LL} (h : Vis t p l) : l.length ≤ 801 := Y4 ht hp h.ord.nodup fun s hs => (h.mem s).1 hs
theorem find_eq {l : LL} (ho : Ord l) (hl : l.length ≤ 500000) {s : List Int} {i : Int} (hi : ix l i = some s) : J6 l s = some i := by
 unfold J6
 obtain ⟨k, h1, _, h3⟩ := bsets_eq (t := s) ho hl
 rw [h1, h3 i hi]; rfl
theorem place_ord {l : LL} (ho : Ord l) {s : List Int} {i : Int} (hi : ix l i = some s) : J1 l s = some i := by
 obtain ⟨z, h1, h2⟩ := place_eq l s
 rw [h1]
 rcases h2 with ⟨_, h⟩ | ⟨_, _, h, _⟩
 ·exact absurd (j3 hi) h
 ·rw [ho.inj h hi]
structure ValOk (t : b8) (p : List d9) (l : LL) (v : List Int) : Prop where
 len : v.length = l.length
 val : ∀ i s x, ix l i = some s → ix v i = some x → x = -1 ∨ ∃ k : Nat, x = k ∧ HtS t p k s
 goal : ∀ i s x, ix l i = some s → ix v i = some x → i9 t s → x = 0
theorem ValOk.m1 {t : b8} {p : List d9} {l : LL} {v : List Int} (h : ValOk t p l v) : ∀ x ∈ v, -1 ≤ x := fun x hx => by
 obtain ⟨i, i0, i1, hi⟩ := k9 hx
 obtain ⟨s, hs, _⟩ := i7 (l := l) i0 (by have := h.len; omega)
 rcases h.val i s x hs hi with e | ⟨k, e, _⟩ <;> omega
def Stays (v v' : List Int) : Prop := ∀ i x, ix v i = some x → x ≠ -1 → ix v' i = some x
theorem Stays.known {v v' : List Int} (h : Stays v v') (hl : v'.length = v.length) {i : Int} (hn : ix v i ≠ some (-1)) : ix v' i ≠ some (-1) := fun he => by
 obtain ⟨i0, i1, _⟩ := j8 he
 obtain ⟨x, hx, _⟩ := i7 (l := v) i0 (by omega)
 have hne : x ≠ -1 := fun e => hn (e ▸ hx)
 rw [h i x hx hne] at he
 exact hne (Option.some.inj he)
theorem contains1_eq {l : List Int} {s : Int} : y5 l s = some (dec (s ∈ l)) := by
 unfold y5 F8
 rcases s9 (body := C8 l s) (n := (l.length : Int)) (fun j => if dec (ix l j = some s) = true then some j else none) (by omega) (fun j h0 h1 _ => by
  obtain ⟨x, hx, _⟩ := i7 (l := l) h0 h1
  unfold C8
  rw [hx]
  simp only [ob]
  by_cases e : s = x
  ·rw [if_pos e, ifP (by rw [e])]
  ·rw [if_neg e, ifN (by simpa using fun h => e h.symm)]) with ⟨h1, h2⟩ | ⟨j, o, h0, h1, h2, h3, h4⟩
 ·rw [h1]
  simp only [ob]
  rw [o4]
  ·rfl
  ·intro hs
   obtain ⟨i, i0, i1, hi⟩ := k9 hs
   have := h2 i i0 i1
   rw [ifP hi] at this
   cases this
 ·rw [h4]
  split at h2
  ·rename_i e
   cases h2
   simp only [ob]
   rw [k8 (j3 (k7.1 e)), decide_eq_true h0]
  ·cases h2
end Ab
end
section
namespace Ab
open Go
theorem set01 : SetN [0] 1 := setN1 0 (by decide) (by decide)
theorem one_rng {S O : Type} {body : Int → S → Option (S ⊕ O)} {s : S} {x : S ⊕ O} (h : body 0 s = some x) : rngX 0 1 body s = some x := by
 unfold rngX
 rw [show ((1 : Int) - 0).toNat = 1 from rfl]
 simp only [rngN, h]
 cases x <;> rfl
theorem choices_self (p : List d9) : P5 p p = some true := by
 unfold P5
 rw [if_pos rfl, rngX_all (by omega) fun j j0 j1 => by
  obtain ⟨c, hc, _⟩ := i7 (l := p) j0 j1
  unfold X4
  rw [hc]
  simp only [ob, decide_true, Bool.not_true, Bool.false_eq_true, if_false, ints_eq, k8]]
 rfl
end Ab
end
section
namespace Ab
open Go
end Ab
end
section
namespace Ab
open Go
end Ab
end
section
namespace Ab
open Go
noncomputable def nxC (t : b8) (ch : List Int → Int) (s : List Int) : LL := (ooAt t (ch s)).outcomes.map (efc t.facts s)
inductive RchC (t : b8) (ch : List Int → Int) : List Int → Prop
 | init : RchC t ch t.init
 | step {s y : List Int} (h : RchC t ch s) (hg : ¬ i9 t s) (hy : y ∈ nxC t ch s) : RchC t ch y
def ChOk (t : b8) (ch : List Int → Int) : Prop := ∀ s, RchC t ch s → ¬ i9 t s → (0 ≤ ch s ∧ ch s < t.operators.length) ∧ oCan t s (ch s)
section
variable {t : b8} {ch : List Int → Int}
theorem RchC.set (ht : l4 t) {s : List Int} (h : RchC t ch s) : SetN s t.facts := by
 cases h with
 | init => exact ht.init
 | step _ _ hy => obtain ⟨x, _, rfl⟩ := List.mem_map.1 hy; exact ag5 _ _ _
structure PolB (t : b8) (ch : List Int → Int) (p : List d9) : Prop where
 ord : Ord (p.map d9.state)
 mem : ∀ s, (∃ c ∈ p, c.state = s) ↔ RchC t ch s ∧ ¬ i9 t s
 op : ∀ c ∈ p, c.operator = ch c.state
theorem polB_eq {p : List d9} (h : ∀ c ∈ p, c.operator = ch c.state) : p = (p.map d9.state).map fun s => (⟨s, ch s⟩ : d9) := by
 rw [List.map_map]
 have : p.map id = p.map ((fun s => (⟨s, ch s⟩ : d9)) ∘ d9.state) := List.map_congr_left fun c hc => by
  have := h c hc
  cases c with
  | mk s o => dsimp only at this; simp only [id, Function.comp, this]
 rwa [List.map_id] at this
theorem PolB.unique {p q : List d9} (h : PolB t ch p) (g : PolB t ch q) : p = q := by
 have e : p.map d9.state = q.map d9.state := by
  refine Ord.ext h.ord g.ord fun s => ?_
  have a := h.mem s; have b := g.mem s
  simp only [List.mem_map]
  exact ⟨fun ⟨c, h1, h2⟩ => b.2 (a.1 ⟨c, h1, h2⟩), fun ⟨c, h1, h2⟩ => a.2 (b.1 ⟨c, h1, h2⟩)⟩
 rw [polB_eq h.op, e, ← polB_eq g.op]
theorem PolB.rch {p : List d9} (h : PolB t ch p) {c : d9} (hc : c ∈ p) : RchC t ch c.state ∧ ¬ i9 t c.state := (h.mem _).1 ⟨c, hc, rfl⟩
theorem PolB.pol (ht : l4 t) (hk : ChOk t ch) {p : List d9} (h : PolB t ch p) (hl : p.length ≤ 200) : E6 t p :=
 ⟨hl, h.ord, fun c hc => (h.rch hc).1.set ht, fun c hc => by rw [h.op c hc]; exact (hk _ (h.rch hc).1 (h.rch hc).2).1, fun c hc => by rw [h.op c hc]; exact (hk _ (h.rch hc).1 (h.rch hc).2).2⟩
theorem chO_ch {p : List d9} (hop : ∀ c ∈ p, c.operator = ch c.state) (s : List Int) : (chO p s = -1 ∧ ∀ c ∈ p, c.state ≠ s) ∨ ((∃ c ∈ p, c.state = s) ∧ chO p s = ch s) := by
 obtain ⟨r, h1, h2⟩ := ac0 p s
 have : chO p s = r := by rw [chO, h1]; rfl
 rw [this]
 rcases h2 with ⟨rfl, h⟩ | ⟨c, hc, rfl, rfl⟩
 ·exact .inl ⟨rfl, h⟩
 ·exact .inr ⟨⟨c, hc, rfl⟩, hop c hc⟩
theorem rch_of {p : List d9} (hop : ∀ c ∈ p, c.operator = ch c.state) {s : List Int} (h : Rch t p s) : RchC t ch s := by
 induction h with
 | init => exact .init
 | @step s y _ hg hl hy ih =>
  refine .step ih hg ?_
  rcases chO_ch hop s with ⟨e, _⟩ | ⟨_, e⟩
  ·unfold w6 at hl; omega
  ·unfold nxS at hy; rw [e] at hy; exact hy
theorem PolB.live {p : List d9} (h : PolB t ch p) {s : List Int} (hs : RchC t ch s) (hg : ¬ i9 t s) : chO p s = ch s := by
 rcases chO_ch h.op s with ⟨_, e⟩ | ⟨_, e⟩
 ·obtain ⟨c, hc, he⟩ := (h.mem s).2 ⟨hs, hg⟩
  exact absurd he (e c hc)
 ·exact e
/-! ### One choice put in its place -/
theorem mem_takeN {α : Type} {l : List α} {n : Nat} {a : α} (h : a ∈ l.take n) : ∃ k : Int, 0 ≤ k ∧ k < n ∧ ix l k = some a := by
 obtain ⟨k, hk⟩ := List.getElem?_of_mem h
 rw [List.getElem?_take] at hk
 split at hk
 ·exact ⟨k, by omega, by omega, by rw [R2]; exact hk⟩
 ·cases hk
theorem mem_dropN {α : Type} {l : List α} {n : Nat} {a : α} (h : a ∈ l.drop n) : ∃ k : Int, (n : Int) ≤ k ∧ ix l k = some a := by
 obtain ⟨k, hk⟩ := List.getElem?_of_mem h
 rw [List.getElem?_drop] at hk
 exact ⟨(n + k : Nat), by omega, by rw [R2]; exact hk⟩
theorem ins_ord {p : List d9} {c : d9} {i : Int} (ho : Ord (p.map d9.state)) (h0 : 0 ≤ i) (hlt : ∀ k a, 0 ≤ k → k < i → ix p k = some a → llt a.state c.state) (hge : ∀ k a, i ≤ k → ix p k = some a → ¬ llt a.state c.state) (hns : ∀ a ∈ p, a.state ≠ c.state) :
  Ord ((p.take i.toNat ++ c :: p.drop i.toNat).map d9.state) := by
 have a1 : ∀ a ∈ p.take i.toNat, llt a.state c.state := fun a ha => by
  obtain ⟨k, k0, k1, hk⟩ := mem_takeN ha
  exact hlt k a k0 (by omega) hk
 have a2 : ∀ a ∈ p.drop i.toNat, llt c.state a.state := fun a ha => by
  obtain ⟨k, k1, hk⟩ := mem_dropN ha
  rcases M4 a.state c.state with h | h | h
  ·exact absurd h (hge k a (by omega) hk)
  ·exact absurd h (hns a (j3 hk))
  ·exact h
 have s1 : Ord ((p.take i.toNat).map d9.state) := by rw [List.map_take]; exact List.Pairwise.sublist (List.take_sublist _ _) ho
 have s2 : Ord ((p.drop i.toNat).map d9.state) := by rw [List.map_drop]; exact List.Pairwise.sublist (List.drop_sublist _ _) ho
 rw [List.map_append, List.map_cons]
 refine List.pairwise_append.2 ⟨s1, List.pairwise_cons.2 ⟨fun x hx => ?_, s2⟩, fun x hx y hy => ?_⟩
 ·obtain ⟨a, ha, rfl⟩ := List.mem_map.1 hx
  exact a2 a ha
 ·obtain ⟨a, ha, rfl⟩ := List.mem_map.1 hx
  rcases List.mem_cons.1 hy with rfl | hy
  ·exact a1 a ha
  ·obtain ⟨b, hb, rfl⟩ := List.mem_map.1 hy
   exact C6 (a1 a ha) (a2 b hb)
theorem ins_mem {α : Type} {p : List α} {c x : α} {n : Nat} : x ∈ p.take n ++ c :: p.drop n ↔ x = c ∨ x ∈ p := by
 have : x ∈ p ↔ x ∈ p.take n ∨ x ∈ p.drop n := by
  rw [← List.mem_append, List.take_append_drop]
 rw [this]
 simp only [List.mem_append, List.mem_cons]
 constructor
 ·rintro (h | h | h)
  ·exact .inr (.inl h)
  ·exact .inl h
  ·exact .inr (.inr h)
 ·rintro (h | h | h)
  ·exact .inr (.inl h)
  ·exact .inl h
  ·exact .inr (.inr h)
theorem ins_len {α : Type} {p : List α} {c : α} {n : Nat} (h : n ≤ p.length) : (p.take n ++ c :: p.drop n).length = p.length + 1 := by simp; omega
structure PolP (t : b8) (ch : List Int → Int) (p : List d9) : Prop where
 pol : E6 t p
 of : ∀ c ∈ p, (RchC t ch c.state ∧ ¬ i9 t c.state) ∧ c.operator = ch c.state
theorem PolP.op {p : List d9} (h : PolP t ch p) : ∀ c ∈ p, c.operator = ch c.state := fun c hc => (h.of c hc).2
theorem PolP.ins (ht : l4 t) (hk : ChOk t ch) {p : List d9} (h : PolP t ch p) {s : List Int} (hs : RchC t ch s) (hg : ¬ i9 t s) {i : Int} (h0 : 0 ≤ i) (h1 : i ≤ p.length) (hlt : ∀ k a, 0 ≤ k → k < i → ix p k = some a → llt a.state s) (hge : ∀ k a, i ≤ k → ix p k = some a → ¬ llt a.state s) (hns : ∀ a ∈ p, a.state ≠ s) (hl : p.length < 200) :
  PolP t ch (p.take i.toNat ++ ⟨s, ch s⟩ :: p.drop i.toNat) := by
 have key : ∀ {q : d9 → Prop}, q ⟨s, ch s⟩ → (∀ c ∈ p, q c) → ∀ c ∈ p.take i.toNat ++ ⟨s, ch s⟩ :: p.drop i.toNat, q c := fun h1 h2 c hc => by
  rcases ins_mem.1 hc with rfl | hc
  ·exact h1
  ·exact h2 c hc
 exact ⟨⟨by rw [ins_len (by omega)]; omega, ins_ord h.pol.ord h0 hlt hge hns, key (hs.set ht) h.pol.set, key (hk s hs hg).1 h.pol.op, key (hk s hs hg).2 h.pol.can⟩, key ⟨⟨hs, hg⟩, rfl⟩ h.of⟩
theorem states_nodup {p : List d9} (h : Ord (p.map d9.state)) {s : List Int} (hns : ∀ a ∈ p, a.state ≠ s) : (s :: p.map d9.state).Nodup :=
 List.nodup_cons.2 ⟨fun hm => by obtain ⟨a, ha, e⟩ := List.mem_map.1 hm; exact hns a ha e, h.nodup⟩
structure BI (t : b8) (ch : List Int → Int) (q : LL) (p : List d9) (a : Int) : Prop where
 a0 : 0 ≤ a
 a1 : a ≤ q.length
 pp : PolP t ch p
 qr : ∀ s ∈ q, RchC t ch s
 qi : t.init ∈ q
 px : ∀ c ∈ p, ∀ y ∈ nxC t ch c.state, y ∈ q
 dn : ∀ k s, k < a → ix q k = some s → i9 t s ∨ ∃ c ∈ p, c.state = s
 ql : q.length ≤ 1 + 4 * p.length
theorem build_prog (ht : l4 t) (hk : ChOk t ch) {choose : List Int → Option Int} (hch : ∀ s, RchC t ch s → ¬ i9 t s → choose s = some (ch s)) :
  ∃ r, Q2 t choose = some r ∧ ((r = ([], false) ∧ ∃ l : LL, l.Nodup ∧ (∀ s ∈ l, RchC t ch s ∧ ¬ i9 t s) ∧ l.length = 201) ∨ ∃ p, r = (p, true) ∧ PolB t ch p ∧ p.length ≤ 200) := by
 have hn := ht.n1
 obtain ⟨o, o1, o2⟩ := D5 (body := O4 t choose) (fun x => BI t ch x.1 x.2.1 x.2.2) (fun o => (o = .inr ([], false) ∧ ∃ l : LL, l.Nodup ∧ (∀ s ∈ l, RchC t ch s ∧ ¬ i9 t s) ∧ l.length = 201) ∨ ∃ p, o = .inl p ∧ PolB t ch p ∧ p.length ≤ 200) (fun x => (1000 - x.2.2).toNat)
  (s := ([t.init], [], 0)) ⟨by dsimp only; omega, by simp, ⟨⟨by simp, .nil, by simp, by simp, by simp⟩, by simp⟩, fun s hs => by rw [List.mem_singleton.1 hs]; exact .init, by simp, by simp, fun k s hk hs => by have := (j8 hs).1; dsimp only at hk; omega, by simp⟩ (fun ⟨q, p, a⟩ h => by
   have a0 : 0 ≤ a := h.a0
   have a1 : a ≤ q.length := h.a1
   have ql : q.length ≤ 1 + 4 * p.length := h.ql
   have pp : PolP t ch p := h.pp
   have qr : ∀ s ∈ q, RchC t ch s := h.qr
   have qi : t.init ∈ q := h.qi
   have px : ∀ c ∈ p, ∀ y ∈ nxC t ch c.state, y ∈ q := h.px
   have dn : ∀ k s, k < a → ix q k = some s → i9 t s ∨ ∃ c ∈ p, c.state = s := h.dn
   have pl : p.length ≤ 200 := pp.pol.len
   clear h
   dsimp only
   unfold O4
   dsimp only
   by_cases c : a < q.length
   ·rw [if_pos c]
    obtain ⟨s, hs, _⟩ := i7 (l := q) a0 c
    have hr := qr s (j3 hs)
    have hset := hr.set ht
    have hsl := hset.len
    rw [hs]
    simp only [ob, T3 hset.1 ht.goal.1 (show s.length ≤ 1000000 by omega), (ab2 pp.pol s).1]
    have key : (if dec (∀ x ∈ t.goal, x ∈ s) = true then some true else some (decide (0 ≤ chO p s))) = some (dec (i9 t s ∨ 0 ≤ chO p s)) := by
     by_cases hg : i9 t s
     ·rw [ifP (p := ∀ x ∈ t.goal, x ∈ s) hg, k8 (.inl hg)]
     ·rw [ifN (p := ∀ x ∈ t.goal, x ∈ s) hg, B6]
      congr 1
      exact o6 ⟨.inr, fun h => h.resolve_left hg⟩
    rw [key]
    simp only [ob]
    have hw : w64 (a + 1) = a + 1 := q9 (by omega) (by omega)
    by_cases cg : i9 t s ∨ 0 ≤ chO p s
    ·rw [ifP cg]
     unfold E8
     dsimp only
     refine .inl ⟨(q, p, a + 1), by rw [hw], ⟨by dsimp only; omega, by dsimp only; omega, pp, qr, qi, px, fun (k : Int) z hk2 hz => ?_, ql⟩, by dsimp only; omega⟩
     dsimp only at hk2 hz
     by_cases e : k = a
     ·subst e
      rw [hs] at hz; cases hz
      refine cg.imp id fun hc => ?_
      rcases chO_ch pp.op s with ⟨e, _⟩ | ⟨e, _⟩
      ·omega
      ·exact e
     ·exact dn k z (by omega) hz
    ·rw [ifN cg]
     have hg : ¬ i9 t s := fun g => cg (.inl g)
     have hns : ∀ c ∈ p, c.state ≠ s := by
      rcases chO_ch pp.op s with ⟨_, e⟩ | ⟨_, e⟩
      ·exact e
      ·exact absurd (.inr (by rw [e]; exact (hk s hr hg).1.1)) cg
     by_cases cl : (p.length : Int) = 200
     ·rw [if_pos cl]
      refine .inr ⟨_, rfl, .inl ⟨rfl, s :: p.map d9.state, states_nodup pp.pol.ord hns, fun z hz => ?_, by simp; omega⟩⟩
      rcases List.mem_cons.1 hz with rfl | hz
      ·exact ⟨hr, hg⟩
      ·obtain ⟨c, hc, rfl⟩ := List.mem_map.1 hz
       exact (pp.of c hc).1
     ·rw [if_neg cl, hch s hr hg]
      simp only [ob]
      have ho := hk s hr hg
      obtain ⟨i, i1, i0, _, i2, i3, i4⟩ := bsf_full (key := d9.state) (xs := p) (t := s) (cmp := G6) pp.pol.ord (by omega) (fun a => by unfold G6; rw [W8]; rfl)
      have hb : j9 p s G6 = some (i, dec (∃ a ∈ p, a.state = s)) := i1
      rw [hb]
      simp only [ob, ah6 (show s.length ≤ 1000000 by omega)]
      rw [insL, if_pos ⟨i0, i2, by omega⟩]
      obtain ⟨st, w, r1, _, r3, r4, _⟩ := z8 ht ho.1.1 ho.1.2 hset
      simp only [ob, r1]
      rw [app, if_pos (by omega)]
      simp only [ob]
      unfold E8
      dsimp only
      have hst : ∀ y, y ∈ st ↔ y ∈ nxC t ch s := fun y => by rw [r3, nxC, List.mem_map]
      have pp' := pp.ins ht hk hr hg i0 i2 i3 i4 hns (by omega)
      refine .inl ⟨(q ++ st, p.take i.toNat ++ ⟨s, ch s⟩ :: p.drop i.toNat, a + 1), by rw [hw], ⟨by dsimp only; omega, by simp; omega, pp', fun z hz => ?_, List.mem_append_left _ qi, fun c hc y hy => ?_, fun k z hk2 hz => ?_, ?_⟩, by dsimp only; omega⟩
      ·rcases List.mem_append.1 hz with hz | hz
       ·exact qr z hz
       ·exact .step hr hg ((hst z).1 hz)
      ·rcases ins_mem.1 hc with rfl | hc
       ·exact List.mem_append_right _ ((hst y).2 hy)
       ·exact List.mem_append_left _ (px c hc y hy)
      ·dsimp only at hk2 hz
       obtain ⟨z', hz', _⟩ := i7 (l := q) (i := k) (j8 hz).1 (by omega)
       have e : z' = z := by
        obtain ⟨k0, _, g1⟩ := j8 hz
        obtain ⟨_, k1, g2⟩ := j8 hz'
        rw [List.getElem?_append_left (by omega), g2] at g1
        exact Option.some.inj g1
       subst e
       by_cases e : k = a
       ·subst e
        rw [hs] at hz'; cases hz'
        exact .inr ⟨⟨s, ch s⟩, ins_mem.2 (.inl rfl), rfl⟩
       ·refine (dn k _ (by omega) hz').imp id fun ⟨c, hc, e⟩ => ⟨c, ins_mem.2 (.inr hc), e⟩
      ·dsimp only
       rw [List.length_append, ins_len (by omega)]
       omega
   ·rw [if_neg c]
    have all : ∀ s, RchC t ch s → s ∈ q := fun s hs => by
     induction hs with
     | init => exact qi
     | @step s y _ hg hy ih =>
      obtain ⟨k, k0, k1, hk1⟩ := k9 ih
      rcases dn k s (by omega) hk1 with g | ⟨c, hc, rfl⟩
      ·exact absurd g hg
      ·exact px c hc y hy
    refine .inr ⟨_, rfl, .inr ⟨p, rfl, ⟨pp.pol.ord, fun s => ⟨fun ⟨c, hc, e⟩ => e ▸ (pp.of c hc).1, fun ⟨hs, hg⟩ => ?_⟩, pp.op⟩, pl⟩⟩
    obtain ⟨k, k0, k1, hk1⟩ := k9 (all s hs)
    exact (dn k s (by omega) hk1).resolve_left hg)
 unfold Q2
 rw [o1]
 rcases o2 with ⟨rfl, h⟩ | ⟨p, rfl, h⟩
 ·exact ⟨_, rfl, .inl ⟨rfl, h⟩⟩
 ·exact ⟨_, rfl, .inr ⟨p, rfl, h⟩⟩
theorem goal_dec (s : List Int) : K1 t s = some (dec (i9 t s)) := by
 unfold K1 i9
 rw [subset_eq]
 simp only [ob]
end
end Ab
end
section
namespace Ab
open Go
/-! ### Values of ordered states -/
noncomputable def sc (t : b8) (s : List Int) (op : Int) : LL := (ooAt t op).outcomes.map (efc t.facts s)
structure Rep {A : Type} (all : LL) (v : List A) (f : List Int → A) : Prop where
 len : v.length = all.length
 get : ∀ {i : Int} {s : List Int}, ix all i = some s → ix v i = some (f s)
noncomputable def upd {A : Type} (f : List Int → A) (s : List Int) (x : A) : List Int → A := fun z => if dec (z = s) = true then x else f z
theorem C2 {A : Type} {f : List Int → A} {s : List Int} {x : A} : upd f s x s = x := ifP rfl
theorem I4 {A : Type} {f : List Int → A} {s z : List Int} {x : A} (h : z ≠ s) : upd f s x z = f z := ifN h
section
variable {A : Type} {all : LL} {v : List A} {f g : List Int → A}
theorem Rep.of (h : Rep all v f) {s : List Int} (hs : s ∈ all) : ∃ i, ix all i = some s ∧ ix v i = some (f s) := by
 obtain ⟨i, _, _, hi⟩ := k9 hs
 exact ⟨i, hi, h.get hi⟩
theorem Rep.set (ho : Ord all) (h : Rep all v f) {i : Int} {s : List Int} (hi : ix all i = some s) (x : A) : Rep all (v.set i.toNat x) (upd f s x) := by
 obtain ⟨i0, i1, _⟩ := j8 hi
 have hl := h.len
 refine ⟨by rw [List.length_set]; exact hl, fun {j z} hj => ?_⟩
 rw [ix_put i0 (by omega) (j8 hj).1]
 by_cases e : j = i
 ·subst e
  rw [hi] at hj; cases hj
  rw [if_pos rfl, C2]
 ·rw [if_neg e, I4 (fun hz => e (by subst hz; exact ho.inj hj hi))]
  exact h.get hj
theorem Rep.congr (h : Rep all v f) (e : ∀ s ∈ all, f s = g s) : Rep all v g := ⟨h.len, fun hi => by rw [← e _ (j3 hi)]; exact h.get hi⟩
theorem Rep.repl (c : A) : Rep all (List.replicate all.length c) fun _ => c := ⟨by simp, fun {i s} hi => by
 obtain ⟨i0, i1, g⟩ := j8 hi
 have : i.toNat < all.length := (List.getElem?_eq_some_iff.1 g).1
 rw [ix, if_pos i0, List.getElem?_replicate, if_pos this]⟩
end
theorem repeat_eq (c : Int) {n : Nat} (h1 : 1 ≤ n) (hn : n ≤ 100000) : x5 [c] (n : Int) = some (List.replicate n c) := by
 unfold x5
 dsimp only
 rw [if_pos (show (1 : Int) ≤ n ∧ (n : Int) ≤ 4294967295 by omega)]
 simp
def DnA (t : b8) : Nat → List Int → Prop
 | 0, s => i9 t s
 | k + 1, s => i9 t s ∨ ∃ op : Int, (0 ≤ op ∧ op < t.operators.length) ∧ oCan t s op ∧ ∀ y ∈ sc t s op, DnA t k y
section
variable {t : b8}
theorem DnA.goal {k : Nat} {s : List Int} (h : i9 t s) : DnA t k s := by
 cases k with
 | zero => exact h
 | succ k => exact .inl h
theorem DnA.succ : ∀ {k : Nat} {s : List Int}, DnA t k s → DnA t (k + 1) s
 | 0, s, h => .inl h
 | k + 1, s, h => by
  rcases h with h | ⟨op, h1, h2, h3⟩
  ·exact .inl h
  ·exact .inr ⟨op, h1, h2, fun y hy => DnA.succ (h3 y hy)⟩
theorem DnA.mono {k m : Nat} {s : List Int} (h : DnA t k s) (hm : k ≤ m) : DnA t m s := by
 induction hm with
 | refl => exact h
 | step _ ih => exact ih.succ
def HtA (t : b8) (k : Nat) (s : List Int) : Prop := DnA t k s ∧ ∀ j, j < k → ¬ DnA t j s
theorem HtA.unique {k m : Nat} {s : List Int} (h : HtA t k s) (h' : HtA t m s) : k = m := by
 rcases Nat.lt_trichotomy k m with c | c | c
 ·exact absurd h.1 (h'.2 k c)
 ·exact c
 ·exact absurd h'.1 (h.2 m c)
theorem HtA.zero {s : List Int} (h : i9 t s) : HtA t 0 s := ⟨h, fun j hj => by omega⟩
theorem HtA.of_not {k : Nat} {s : List Int} (h : DnA t (k + 1) s) (hn : ¬ DnA t k s) : HtA t (k + 1) s := ⟨h, fun j hj hd => hn (hd.mono (by omega))⟩
structure ClO (t : b8) (all : LL) : Prop where
 cl : Cl t all
 ord : Ord all
theorem ClO.len {all : LL} (h : ClO t all) : all.length ≤ 2000 := h.cl.len
theorem ClO.set {all : LL} (h : ClO t all) {s : List Int} (hs : s ∈ all) : SetN s t.facts := h.cl.set s hs
theorem ClO.sc {all : LL} (h : ClO t all) {s : List Int} (hs : s ∈ all) {op : Int} (h0 : 0 ≤ op ∧ op < t.operators.length) (hc : oCan t s op) {y : List Int} (hy : y ∈ sc t s op) : y ∈ all := by
 obtain ⟨x, hx, rfl⟩ := List.mem_map.1 hy
 exact h.cl.closed s hs op h0.1 h0.2 hc x hx
/-! ### Ranks, layer by layer -/
structure RankA (t : b8) (all : LL) (f : List Int → Int) : Prop where
 val : ∀ s ∈ all, (f s = -1 ∧ ∀ k, ¬ DnA t k s) ∨ ∃ k : Nat, f s = k ∧ HtA t k s
 le : ∀ s ∈ all, f s ≤ all.length
theorem RankA.ht {all : LL} {f : List Int → Int} (h : RankA t all f) {s : List Int} (hs : s ∈ all) {k : Nat} (hk : HtA t k s) : f s = k := by
 rcases h.val s hs with ⟨_, e⟩ | ⟨m, e, hm⟩
 ·exact absurd hk.1 (e k)
 ·rw [e, hm.unique hk]
end
section
variable {t : b8}
end
end Ab
end
section
namespace Ab
open Go
/-! ### Loops that do the same, till one of them gives up -/
section
variable {t : b8} {m : Int}
end
end Ab
end
section
namespace Ab
open Go
def sumN (l : List Int) : Nat := (l.map Int.toNat).sum
theorem ah3 : ∀ {l : List Int} {i : Nat} {x y : Int}, l[i]? = some y → 0 ≤ x → x < y → sumN (l.set i x) < sumN l
 | [], _, _, _, h, _, _ => by simp at h
 | a :: l, 0, x, y, h, h0, h1 => by
  simp only [List.getElem?_cons_zero, Option.some.injEq] at h
  subst h
  simp only [sumN, List.set_cons_zero, List.map_cons, List.sum_cons]
  omega
 | a :: l, i + 1, x, y, h, h0, h1 => by
  have := ah3 (l := l) (i := i) (by simpa using h) h0 h1
  simp only [sumN, List.set_cons_succ, List.map_cons, List.sum_cons] at this ⊢
  omega
section
variable {t : b8}
end
section
variable {t : b8}
structure LowA (t : b8) (all : LL) (g : List Int → Int) : Prop where
 b : ∀ s ∈ all, 0 ≤ g s ∧ g s ≤ 1000000000
 dn : ∀ s ∈ all, g s < 1000000000 → DnA t (g s).toNat s
 goal : ∀ s ∈ all, i9 t s → g s = 0
end
section
variable {t : b8}
end
end Ab
end
