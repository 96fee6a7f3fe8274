/-
  Texts that the proof stands on.
-/
import Derived.Test.YtbffiagfngopaaaGreatDoorKRwCycSpec4
set_option linter.all false
section
namespace Ab
open Go Go.Proofs
set_option maxHeartbeats 4000000
set_option linter.all false
attribute [local irreducible] AWP AOps thn inB Done f8 m5 Sub
theorem open_Visited_ok {ov : b9} {policy : List d9} {r : LL} (h : S7 ov policy = some r) : m5 Tryz.prog 53 [.agg (tO ov), .c (row 2 g7 policy)] 1 (List.map d6 r) := by
 unfold m5
 refine FnOk.enter (rs := [.t 4]) Tryz.func53 Z Tryz.ntmps53 Tryz.results53 Z ⟨trivial, Y⟩ (by kernel_rfl) Z ?_
 unfold S7 at h
 refine AWP.d (.f (W.box Z Z Z Z Z Z (.e Z Z (.nil (b5 (.d ?_))))))
 obtain ⟨a14, ha14, h⟩ := b6 h
 refine AWP.f (W.fieldAddr Z Z Z Z (.m Z Z Z Z Z Z (S.fresh Z Z Z Z (K0 ha14) Z Z (.frzV (id := 1) (l := a14) (env2 := [(1, .c (row 2 g7 policy)), (2, .c (.ptr 0 0 0)), (14, .c (row 1 intI a14))]) (σ2 := [.one (.cells 4 [(tO ov)]), .dead]) Z Z (by exact ⟨⟨_, Z, .inl ⟨Z, Z⟩⟩, ⟨_, Z, .inl ⟨Z, Z⟩⟩, ⟨_, Z, .inr ⟨_, Z, Z, Z⟩⟩, Y⟩) Z (by exact ⟨⟨Z, .inl ⟨Z, Z⟩, .inl ⟨Z, Z⟩, .inl ⟨Z, Z⟩, .inl ⟨Z, Z⟩, Y⟩, trivial, Y⟩) (S.lit (f := d6) (l := [a14]) (ess := [[row 1 intI a14]]) Z Z Z Z Z Z Z ⟨⟨.inl Z, Y⟩, Y⟩ Z Z Z (.e Z Z (.nil (b5 (.d (.d (.f (.e Z Z (.nil (b5 (.k ?_)))))))))))))))
 obtain ⟨c5, ho1, h⟩ := b6 h
 refine AWP.loopS ho1 (fun (c3, atv4) => ⟨[(1, .c (row 2 g7 policy)), (2, .c (.ptr 0 0 0)), (5, .c (.own 2 0 c3.length)), (6, .c (int atv4))], [.one (.cells 4 [(tO ov)]), .dead, .one (vec 1 d6 c3)]⟩) (fun c5 e st => e = .exit 0 ∧ Sub [] st ⟨[(5, .c (.own 2 0 c5.length))], [.dead, .dead, .one (vec 1 d6 c5)]⟩) ?_ ?_ ?_
 ·try dsimp only
  exact Sub.env ⟨Z, Z, Z, Z, Y⟩
 ·intro s o h
  obtain ⟨c3, atv4⟩ := s
  unfold S3 at h
  try dsimp only at h ⊢
  refine AWP.d (.d (.f (.a Z Z (.a Z Z (S.lenO Z Z Z (fun hl18 => .j Z Z Z (.nil (b5 (.ite Z h (fun hc6 h => ?_) (fun hc6 h => ?_))))))))))
  ·refine AWP.skip (b5 ?_)
   obtain ⟨c7, hx8, h⟩ := b6 h
   refine AWP.seqJ (⟨[(1, .c (row 2 g7 policy)), (2, .c (.ptr 0 0 0)), (5, .c (.own 2 0 c7.length)), (6, .c (int atv4))], [.one (.cells 4 [(tO ov)]), .dead, .one (vec 1 d6 c7)]⟩) ?_ ?_
   ·refine AWP.k (.d ?_)
    obtain ⟨a25, ha25, a27, ha27, hx8⟩ := b2 hx8
    refine AWP.f (.a Z Z (.a Z Z (.a Z Z (S.idxO ha25 Z Z Z Z Z (S.loadO ha25 Z Z Z Z Z (.l Z Z Z Z (ac0 ha27) Z (.e Z Z (.nil (b5 (.d ?_))))))))))
    obtain ⟨t9, hx10, hx8⟩ := b6 hx8
    refine AWP.seqJ (⟨[(1, .c (row 2 g7 policy)), (2, .c (.ptr 0 0 0)), (5, .c (.own 2 0 c3.length)), (6, .c (int atv4)), (7, .c (int a27)), (38, .c (bool t9))], [.one (.cells 4 [(tO ov)]), .dead, .one (vec 1 d6 c3)]⟩) ?_ ?_
    ·rcases bft (decide (a27 < 0)) with hb11 | hb11
     ·replace hx10 := C2 hb11 hx10
      refine AWP.drawI mixed Z ?_
      refine i5.consF Z (fun E => AOps.a Z Z (.nil ⟨Z, Z⟩)) Z (.consF Z (fun E => AOps.j Z Z Z (.nil ⟨Z, Z⟩)) Z (.consF Z (fun E => AOps.a Z Z (.nil ⟨Z, Z⟩)) Z (.consF Z (fun E => AOps.i Z Z Z hb11 (.nil ⟨Z, Z⟩)) Z (.consF Z (fun E => AOps.i Z Z Z hb11 (.nil ⟨Z, Z⟩)) Z (.consF Z (fun E => AOps.i Z Z Z hb11 (.nil ⟨Z, Z⟩)) Z (.consF Z (fun E => AOps.i Z Z Z hb11 (.nil ⟨Z, Z⟩)) Z (.consF Z (fun E => AOps.i Z Z Z hb11 (.nil ⟨Z, Z⟩)) Z (.consF Z (fun E => AOps.i Z Z Z hb11 (.nil ⟨Z, Z⟩)) Z (.consF Z (fun E => AOps.i Z Z Z hb11 (.nil ⟨Z, Z⟩)) Z (.consF Z (fun E => AOps.p Z hb11 Z Z (.nil ⟨Z, Z⟩)) Z ?_))))))))))
      refine i5.done ?_
      dsimp only [j6]
      obtain rfl := oi hx10
      refine b5 (Sub.env ⟨Z, Z, Z, Z, Z, Z, Y⟩)
     ·replace hx10 := B9 hb11 hx10
      obtain ⟨a33, ha33, a37, ha37, hx10⟩ := b2 hx10
      refine AWP.drawI mixed Z ?_
      refine i5.consF Z (fun E => AOps.a Z Z (.nil ⟨Z, Z⟩)) Z (.consF Z (fun E => AOps.j Z Z Z (.nil ⟨Z, Z⟩)) Z (.consF Z (fun E => AOps.a Z Z (.nil ⟨Z, Z⟩)) Z (.consF Z (fun E => AOps.g Z Z Z hb11 (.a Z Z (.nil ⟨Z, Z⟩))) Z (.consF Z (fun E => AOps.g Z Z Z hb11 (.a Z Z (.nil ⟨Z, Z⟩))) Z (.consF Z (fun E => AOps.g Z Z Z hb11 (S.idxO ha33 Z Z Z Z Z (.nil ⟨Z, Z⟩))) Z (.consF Z (fun E => AOps.g Z Z Z hb11 (S.loadO ha33 Z Z Z Z Z (.nil ⟨Z, Z⟩))) Z (.consF Z (fun E => AOps.g Z Z Z hb11 (W.fieldAddr Z Z Z Z (.nil ⟨Z, Z⟩))) Z (.consF Z (fun E => AOps.g Z Z Z hb11 (.m Z Z Z Z Z Z (.nil ⟨Z, Z⟩))) Z (.consF Z (fun E => AOps.g Z Z Z hb11 (.l Z Z Z Z (C6 ha37) Z (.nil ⟨Z, Z⟩))) Z (.consF Z (fun E => AOps.n Z hb11 Z Z (.nil ⟨Z, Z⟩)) Z ?_))))))))))
      refine i5.done ?_
      dsimp only [j6]
      obtain rfl := oi hx10
      refine b5 (Sub.env ⟨Z, Z, Z, Z, Z, Z, Y⟩)
    ·refine AWP.s Z hx8 (fun hc12 hx8 => ?_) (fun hc12 hx8 => ?_)
     ·refine AWP.exit (d8 (g8 ?_))
      obtain rfl := oi hx8
      refine b5 (Sub.env ⟨Z, Z, Z, Z, Y⟩)
     ·refine AWP.skip (b5 (.d ?_))
      obtain ⟨a43, ha43, a46, ha46, hx8⟩ := b2 hx8
      refine AWP.drawI mixed Z ?_
      refine i5.consF Z (fun E => W.loadAgg Z Z Z Z Z Z Z (.nil ⟨Z, Z⟩)) Z (.consF Z (fun E => AOps.a Z Z (.nil ⟨Z, Z⟩)) Z (.consF Z (fun E => AOps.a Z Z (.nil ⟨Z, Z⟩)) Z (.consF Z (fun E => S.idxO ha43 Z Z Z Z Z (.nil ⟨Z, Z⟩)) Z (.consF Z (fun E => S.loadO ha43 Z Z Z Z Z (.nil ⟨Z, Z⟩)) Z (.consF Z (fun E => AOps.a Z Z (.nil ⟨Z, Z⟩)) Z (.consF Z (fun E => AOps.l Z Z Z Z (G6 ha46) Z (.nil ⟨Z, Z⟩)) Z (.consF Z (fun E => AOps.a Z Z (.nil ⟨Z, Z⟩)) Z (.consF Z (fun E => AOps.w Z Z Z (.nil ⟨Z, Z⟩)) Z (.consF Z (fun E => AOps.w Z Z Z (.nil ⟨Z, Z⟩)) Z (.consF Z (fun E => AOps.e Z Z (.nil ⟨Z, Z⟩)) Z (.consF Z (fun E => AOps.e Z Z (.nil ⟨Z, Z⟩)) Z ?_)))))))))))
      refine i5.done ?_
      dsimp only [j6]
      refine b5 (.d (.f (.a Z Z (S.len Z Z (fun hl50 => .a Z Z (.nil (b5 (.k ?_))))))))
      obtain ⟨c13, ho2, hx8⟩ := b6 hx8
      refine AWP.forS ho2 (fun t14 c13 => ⟨[(1, .c (row 2 g7 policy)), (2, .c (.ptr 0 0 0)), (5, .c (.own 2 0 c13.length)), (6, .c (int atv4)), (49, .c (row 1 d6 a46.1)), (50, .c (int (a46.1.length : Int))), (51, .c (int t14))], [.one (.cells 4 [(tO ov)]), .dead, .one (vec 1 d6 c13)]⟩) (fun c13 e st => e = .exit 2 ∧ Sub [] st ⟨[(1, .c (row 2 g7 policy)), (2, .c (.ptr 0 0 0)), (5, .c (.own 2 0 c13.length)), (6, .c (int atv4))], [.one (.cells 4 [(tO ov)]), .dead, .one (vec 1 d6 c13)]⟩) ?_ ?_ ?_ ?_
      ·try dsimp only
       exact Sub.env ⟨Z, Z, Z, Z, Z, Z, Z, Y⟩
      ·intro t14 c13 hlot14 hltt14 _
       try dsimp only
       refine AWP.d (.f (.j Z Z Z (.nil (b5 (.d (.q Z hltt14 (.exit (d8 (d8 ⟨Z, ?_⟩)))))))))
       exact Sub.env ⟨Z, Z, Z, Z, Y⟩
      ·intro t14 c13 o hlot14 hltt14 h
       unfold K8 at h
       try dsimp only at h ⊢
       refine AWP.d (.f (.j Z Z Z (.nil (b5 (.d (.r Z hltt14 (.skip (b5 ?_))))))))
       obtain ⟨c15, hx16, h⟩ := b6 h
       refine AWP.seqJ (⟨[(1, .c (row 2 g7 policy)), (2, .c (.ptr 0 0 0)), (5, .c (.own 5 0 c15.length)), (6, .c (int atv4)), (49, .c (row 1 d6 a46.1)), (50, .c (int (a46.1.length : Int))), (51, .c (int t14))], [.one (.cells 4 [(tO ov)]), .dead, .dead, .dead, .dead, .one (vec 1 d6 c15)]⟩) ?_ ?_
       ·refine AWP.k (.d ?_)
        obtain ⟨a53, ha53, hx16⟩ := b6 hx16
        refine AWP.f (S.idx ha53 Z Z Z Z (.o Z Z Z Z (W.alloc Z Z Z Z (W.store Z Z Z Z Z (.nil (b5 (.d ?_)))))))
        obtain ⟨a57, ha57, hx16⟩ := b6 hx16
        refine AWP.f (.a Z Z (.makeFunc Z Z (.y Z Z (.cons (.c (.own Z Z)) (.cons (.c (.fn (.cons (.ptr (es := [.sl 1 (List.map intI a53)]) Z Z (.cons .imm .nil)) .nil))) .nil)) Z (N1 Z (fun hy => ao2 hy) ha57) Z ?_)))
        refine AOps.u Z Z (.nil (b5 (.s Z hx16 (fun hc17 hx16 => ?_) (fun hc17 hx16 => ?_))))
        ·obtain ⟨a62, ha62, hx16⟩ := b6 hx16
         refine AWP.f (.a Z Z (.m Z Z Z Z Z Z (S.lit (f := d6) (l := [a53]) (ess := [[row 1 intI a53]]) Z Z Z Z Z Z Z ⟨⟨.inl Z, Y⟩, Y⟩ Z Z Z (S.append (f := d6) ha62 Z Z Z Z Z Z (.own Z Z) Z Z Z Z (.e Z Z (.nil (d7 ?_)))))))
         obtain rfl := oi hx16
         refine b5 (Sub.cut ⟨Z, Z, Z, Z, Z, Z, Z, Y⟩ Z ⟨.one Z, .dead, .dead, .dead, .dead, .vec, Y⟩ Z)
        ·refine AWP.skip (d7 ?_)
         obtain rfl := oi hx16
         refine b5 ((Sub.move (env' := [(1, .c (row 2 g7 policy)), (2, .c (.ptr 0 0 0)), (5, .c (.own 5 0 c13.length)), (6, .c (int atv4)), (49, .c (row 1 d6 a46.1)), (50, .c (int (a46.1.length : Int))), (51, .c (int t14))]) (σ' := [.one (.cells 4 [(tO ov)]), .dead, .dead, .one (.cells 1 [[row 1 intI a53]]), .dead, .one (vec 1 d6 c13)]) 5 2 Z Z Z ⟨Z, Z, Z, Z, Z, Z, Z, Y⟩ Z ⟨⟨Z, Z⟩, trivial, trivial, ⟨Z, Z⟩, trivial, ⟨Blk.im_ok _ _ _, l8 Z⟩, Y⟩).trans (Sub.cut ⟨Z, Z, Z, Z, Z, Z, Z, Y⟩ Z ⟨.one Z, .dead, .dead, .dead, .dead, .vec, Y⟩ Z))
       ·refine AWP.f (.add Z Z Z (by omega) (.a Z Z (.nil ?_)))
        obtain rfl := oi h
        refine b5 ((Sub.move (env' := [(1, .c (row 2 g7 policy)), (2, .c (.ptr 0 0 0)), (5, .c (.own 2 0 c15.length)), (6, .c (int atv4)), (49, .c (row 1 d6 a46.1)), (50, .c (int (a46.1.length : Int))), (51, .c (int (t14 + 1)))]) (σ' := [.one (.cells 4 [(tO ov)]), .dead, .one (vec 1 d6 c15), .dead, .dead]) 2 5 Z Z Z ⟨Z, Z, Z, Z, Z, Z, Z, Y⟩ Z ⟨⟨Z, Z⟩, trivial, ⟨Blk.im_ok _ _ _, l8 Z⟩, trivial, trivial, Y⟩).trans (Sub.cut ⟨Z, Z, Z, Z, Z, Z, Z, Y⟩ Z ⟨.one Z, .dead, .vec, Y⟩ Z))
      ·intro e s hq
       obtain ⟨rfl, hs⟩ := hq
       refine ⟨_, hs, ?_⟩
       refine g8 (d7 ?_)
       obtain rfl := oi hx8
       refine b5 (Sub.env ⟨Z, Z, Z, Z, Y⟩)
   ·refine AWP.f (.a Z Z (S.add Z Z Z (.e Z Z (.nil ?_))))
    obtain rfl := oi h
    refine b5 ⟨_, Z, ?_⟩
    exact Sub.env ⟨Z, Z, Z, Z, Y⟩
  ·refine AWP.exit (d8 ?_)
   obtain rfl := oi h
   refine d8 ⟨_, Z, Z, ?_⟩
   exact Sub.cut ⟨Z, Y⟩ Z ⟨.dead, .dead, .vec, Y⟩ Z
 ·intro e s hq
  obtain ⟨rfl, hs⟩ := hq
  refine ⟨_, hs, ?_⟩
  refine g8 (b5 (.d ?_))
  obtain ⟨a65, ha65, h⟩ := b6 h
  refine AWP.f (.a Z Z (.callF (r2 := .c (.own 4 0 a65.length)) (σ'' := [.dead, .dead, .dead, .dead, .one (vec 1 d6 a65)]) Z Z Z (FnOk.lend [2] (T3 ha65) Z Z Z Z Z Z (by exact ⟨.vec, Y⟩) Z (by exact ⟨(.live Z .vec), Y⟩) Z Z (by exact ⟨.dead, .dead, .dead, .dead, (.new 2 Z Z .vec), Y⟩)) (.e Z Z (.nil (b5 (.ret ?_))))))
  obtain rfl := oi h
  exact Done.ret Z (Fresh.mk Z Z)
theorem ah1 {sv : List Int} {v : Int} {r : Int} (h : H6 sv v = some r) : f8 Tryz.prog 85 [.c (row 1 intI sv), .c (int v)] (.c (int r)) := by
 unfold f8
 refine FnOk.enter (rs := [.t 4]) Tryz.func85 Z Tryz.ntmps85 Tryz.results85 Z ⟨trivial, Y⟩ (by kernel_rfl) Z ?_
 unfold H6 at h
 refine AWP.d (.f (.e Z Z (.nil (b5 (.d (.d (.f (.a Z Z (S.len Z Z (fun hl7 => .a Z Z (.nil (b5 (.k ?_)))))))))))))
 obtain ⟨oo, ho1, h⟩ := b6 h
 refine AWP.rngS ho1 (fun t3 _ => ⟨[(0, .c (row 1 intI sv)), (1, .c (int v)), (7, .c (int (sv.length : Int))), (8, .c (int t3))], []⟩) (fun o e st => match o with | .inl _ => e = .exit 0 ∧ Sub [] st ⟨[], []⟩ | .inr x => e = .ret ∧ Done [.t 4] (fun t _ => t = .c (int x)) .ret st) ?_ ?_ ?_ ?_
 ·try dsimp only
  exact Sub.env ⟨Z, Z, Z, Z, Y⟩
 ·intro t3 s hlot3 hltt3 _
  try dsimp only
  refine AWP.d (.f (.j Z Z Z (.nil (b5 (.d (.q Z hltt3 (.exit (d8 (d8 ⟨Z, ?_⟩)))))))))
  exact Sub.env trivial
 ·intro t3 s o hlot3 hltt3 h
  unfold E4 at h
  try dsimp only at h ⊢
  refine AWP.d (.f (.j Z Z Z (.nil (b5 (.d (.r Z hltt3 (.skip (b5 (.d (.k (.d (.f (.a Z Z (.e Z Z (.nil (b5 (.d ?_)))))))))))))))))
  obtain ⟨a14, ha14, h⟩ := b6 h
  refine AWP.f (.a Z Z (.a Z Z (.a Z Z (S.idx ha14 Z Z Z Z (.o Z Z Z Z (.v Z Z Z (.nil (b5 (.ite Z h (fun hc4 h => ?_) (fun hc4 h => ?_))))))))))
  ·refine AWP.d (.f (.a Z Z (.e Z Z (.nil (b5 (.ret (h9 (e8 ?_))))))))
   obtain rfl := oi h
   refine e8 ⟨_, Z, Z, ?_⟩
   exact Done.ret Z Z
  ·refine AWP.skip (d7 (b5 (.f (.add Z Z Z (by omega) (.a Z Z (.nil ?_))))))
   obtain rfl := oi h
   refine b5 ⟨_, Z, ?_⟩
   exact Sub.env ⟨Z, Z, Z, Z, Y⟩
 ·intro e s hq
  rcases oo with u | x
  ·try dsimp only at h hq
   obtain ⟨rfl, hs⟩ := hq
   refine ⟨_, hs, ?_⟩
   refine g8 (b5 (.d (.f (.e Z Z (.nil (b5 (.ret ?_)))))))
   obtain rfl := oi h
   exact Done.ret Z Z
  ·try dsimp only at h hq
   obtain ⟨rfl, hs⟩ := hq
   refine ⟨_, Sub.refl _ _, ?_⟩
   refine h9 (e8 ?_)
   obtain rfl := oi h
   exact hs
theorem ae0 {sv : List Int} {v : Int} {r : Bool} (h : B3 sv v = some r) : f8 Tryz.prog 57 [.c (row 1 intI sv), .c (int v)] (.c (bool r)) := by
 unfold f8
 refine FnOk.enter (rs := [.t 4]) Tryz.func57 Z Tryz.ntmps57 Tryz.results57 Z ⟨trivial, Y⟩ (by kernel_rfl) Z ?_
 unfold B3 at h
 refine AWP.d (.f (.e Z Z (.nil (b5 (.d ?_)))))
 obtain ⟨a7, ha7, h⟩ := b6 h
 refine AWP.f (.a Z Z (.a Z Z (.l Z Z Z Z (ah1 ha7) Z (.geq Z Z Z (.e Z Z (.nil (b5 (.ret ?_))))))))
 obtain rfl := oi h
 exact Done.ret Z Z
theorem ab6 {av : List Int} {bv : List Int} {r : Bool} (h : I2 av bv = some r) : f8 Tryz.prog 46 [.c (row 1 intI av), .c (row 1 intI bv)] (.c (bool r)) := by
 unfold f8
 refine FnOk.enter (rs := [.t 4]) Tryz.func46 Z Tryz.ntmps46 Tryz.results46 Z ⟨trivial, Y⟩ (by kernel_rfl) Z ?_
 unfold I2 at h
 refine AWP.d (.f (.e Z Z (.nil (b5 (.d (.d (.f (.a Z Z (S.len Z Z (fun hl7 => .a Z Z (S.len Z Z (fun hl9 => .neq Z Z Z (.nil (b5 (.iteN Z h (fun hc3 h => ?_) (fun hc3 h => ?_))))))))))))))))
 ·refine AWP.d (.f (.e Z Z (.nil (b5 (.ret (e8 ?_))))))
  obtain rfl := oi h
  exact Done.ret Z Z
 ·refine AWP.skip (b5 (.d (.d (.f (.e Z Z (.nil (b5 (.k ?_))))))))
  obtain ⟨oo, ho1, h⟩ := b6 h
  refine AWP.rngS ho1 (fun iv4 _ => ⟨[(0, .c (row 1 intI av)), (1, .c (row 1 intI bv)), (5, .c (int iv4))], []⟩) (fun o e st => match o with | .inl _ => e = .exit 0 ∧ Sub [] st ⟨[], []⟩ | .inr x => e = .ret ∧ Done [.t 4] (fun t _ => t = .c (bool x)) .ret st) ?_ ?_ ?_ ?_
  ·try dsimp only
   exact Sub.env ⟨Z, Z, Z, Y⟩
  ·intro iv4 s hloiv4 hltiv4 _
   try dsimp only
   refine AWP.d (.d (.f (.a Z Z (.a Z Z (S.len Z Z (fun hl13 => .j Z Z Z (.nil (b5 (.q Z hltiv4 (.exit (d8 (d8 ⟨Z, ?_⟩))))))))))))
   exact Sub.env trivial
  ·intro iv4 s o hloiv4 hltiv4 h
   unfold ag5 at h
   try dsimp only at h ⊢
   refine AWP.d (.d (.f (.a Z Z (.a Z Z (S.len Z Z (fun hl13 => .j Z Z Z (.nil (b5 (.r Z hltiv4 (.skip (b5 (.d (.k (.d ?_))))))))))))))
   obtain ⟨a19, ha19, a23, ha23, h⟩ := b2 h
   refine AWP.drawI mixed Z ?_
   refine i5.consF Z (fun E => AOps.a Z Z (.nil ⟨Z, Z⟩)) Z (.consF Z (fun E => AOps.a Z Z (.nil ⟨Z, Z⟩)) Z (.consF Z (fun E => S.idx ha19 Z Z Z Z (.nil ⟨Z, Z⟩)) Z (.consF Z (fun E => AOps.o Z Z Z Z (.nil ⟨Z, Z⟩)) Z (.consF Z (fun E => AOps.a Z Z (.nil ⟨Z, Z⟩)) Z (.consF Z (fun E => AOps.a Z Z (.nil ⟨Z, Z⟩)) Z (.consF Z (fun E => S.idx ha23 Z Z Z Z (.nil ⟨Z, Z⟩)) Z (.consF Z (fun E => AOps.o Z Z Z Z (.nil ⟨Z, Z⟩)) Z (.consF Z (fun E => AOps.neq Z Z Z (.nil ⟨Z, Z⟩)) Z ?_))))))))
   refine i5.done ?_
   dsimp only [j6]
   refine b5 (.iteN Z h (fun hc5 h => ?_) (fun hc5 h => ?_))
   ·refine AWP.d (.f (.e Z Z (.nil (b5 (.ret (h9 (e8 ?_)))))))
    obtain rfl := oi h
    refine e8 ⟨_, Z, Z, ?_⟩
    exact Done.ret Z Z
   ·refine AWP.skip (d7 (b5 (.f (.a Z Z (.add Z Z Z (by omega) (.e Z Z (.nil ?_)))))))
    obtain rfl := oi h
    refine b5 ⟨_, Z, ?_⟩
    exact Sub.env ⟨Z, Z, Z, Y⟩
  ·intro e s hq
   rcases oo with u | x
   ·try dsimp only at h hq
    obtain ⟨rfl, hs⟩ := hq
    refine ⟨_, hs, ?_⟩
    refine g8 (b5 (.d (.f (.e Z Z (.nil (b5 (.ret ?_)))))))
    obtain rfl := oi h
    exact Done.ret Z Z
   ·try dsimp only at h hq
    obtain ⟨rfl, hs⟩ := hq
    refine ⟨_, Sub.refl _ _, ?_⟩
    refine h9 (e8 ?_)
    obtain rfl := oi h
    exact hs
theorem aa9 {av : List d9} {bv : List d9} {r : Bool} (h : N7 av bv = some r) : f8 Tryz.prog 18 [.c (row 2 g7 av), .c (row 2 g7 bv)] (.c (bool r)) := by
 unfold f8
 refine FnOk.enter (rs := [.t 4]) Tryz.func18 Z Tryz.ntmps18 Tryz.results18 Z ⟨trivial, Y⟩ (by kernel_rfl) Z ?_
 unfold N7 at h
 refine AWP.d (.f (.e Z Z (.nil (b5 (.d (.d (.f (.a Z Z (S.len Z Z (fun hl7 => .a Z Z (S.len Z Z (fun hl9 => .neq Z Z Z (.nil (b5 (.iteN Z h (fun hc3 h => ?_) (fun hc3 h => ?_))))))))))))))))
 ·refine AWP.d (.f (.e Z Z (.nil (b5 (.ret (e8 ?_))))))
  obtain rfl := oi h
  exact Done.ret Z Z
 ·refine AWP.skip (b5 (.d (.d (.f (.e Z Z (.nil (b5 (.k ?_))))))))
  obtain ⟨oo, ho1, h⟩ := b6 h
  refine AWP.rngS ho1 (fun iv4 _ => ⟨[(0, .c (row 2 g7 av)), (1, .c (row 2 g7 bv)), (5, .c (int iv4))], []⟩) (fun o e st => match o with | .inl _ => e = .exit 0 ∧ Sub [] st ⟨[], []⟩ | .inr x => e = .ret ∧ Done [.t 4] (fun t _ => t = .c (bool x)) .ret st) ?_ ?_ ?_ ?_
  ·try dsimp only
   exact Sub.env ⟨Z, Z, Z, Y⟩
  ·intro iv4 s hloiv4 hltiv4 _
   try dsimp only
   refine AWP.d (.d (.f (.a Z Z (.a Z Z (S.len Z Z (fun hl13 => .j Z Z Z (.nil (b5 (.q Z hltiv4 (.exit (d8 (d8 ⟨Z, ?_⟩))))))))))))
   exact Sub.env trivial
  ·intro iv4 s o hloiv4 hltiv4 h
   unfold ab1 at h
   try dsimp only at h ⊢
   refine AWP.d (.d (.f (.a Z Z (.a Z Z (S.len Z Z (fun hl13 => .j Z Z Z (.nil (b5 (.r Z hltiv4 (.skip (b5 (.d (.k ?_)))))))))))))
   obtain ⟨t5, hx6, h⟩ := b6 h
   refine AWP.seqJ (⟨[(0, .c (row 2 g7 av)), (1, .c (row 2 g7 bv)), (5, .c (int iv4)), (41, .c (bool t5))], []⟩) ?_ ?_
   ·obtain ⟨a19, ha19, a24, ha24, hx6⟩ := b2 hx6
    rcases bft (!(decide (a19.operator = a24.operator))) with hb7 | hb7
    ·replace hx6 := w9 hb7 hx6
     refine AWP.drawI mixed Z ?_
     refine i5.consF Z (fun E => AOps.a Z Z (.nil ⟨Z, Z⟩)) Z (.consF Z (fun E => AOps.a Z Z (.nil ⟨Z, Z⟩)) Z (.consF Z (fun E => S.idx ha19 Z Z Z Z (.nil ⟨Z, Z⟩)) Z (.consF Z (fun E => W.fieldAddrI Z Z Z Z (.nil ⟨Z, Z⟩)) Z (.consF Z (fun E => AOps.o Z Z Z Z (.nil ⟨Z, Z⟩)) Z (.consF Z (fun E => AOps.a Z Z (.nil ⟨Z, Z⟩)) Z (.consF Z (fun E => AOps.a Z Z (.nil ⟨Z, Z⟩)) Z (.consF Z (fun E => S.idx ha24 Z Z Z Z (.nil ⟨Z, Z⟩)) Z (.consF Z (fun E => W.fieldAddrI Z Z Z Z (.nil ⟨Z, Z⟩)) Z (.consF Z (fun E => AOps.o Z Z Z Z (.nil ⟨Z, Z⟩)) Z (.consF Z (fun E => AOps.neq Z Z Z (.nil ⟨Z, Z⟩)) Z (.consF Z (fun E => AOps.a Z Z (.nil ⟨Z, Z⟩)) Z (.consF Z (fun E => AOps.i Z Z Z hb7 (.nil ⟨Z, Z⟩)) Z (.consF Z (fun E => AOps.i Z Z Z hb7 (.nil ⟨Z, Z⟩)) Z (.consF Z (fun E => AOps.i Z Z Z hb7 (.nil ⟨Z, Z⟩)) Z (.consF Z (fun E => AOps.i Z Z Z hb7 (.nil ⟨Z, Z⟩)) Z (.consF Z (fun E => AOps.i Z Z Z hb7 (.nil ⟨Z, Z⟩)) Z (.consF Z (fun E => AOps.i Z Z Z hb7 (.nil ⟨Z, Z⟩)) Z (.consF Z (fun E => AOps.i Z Z Z hb7 (.nil ⟨Z, Z⟩)) Z (.consF Z (fun E => AOps.i Z Z Z hb7 (.nil ⟨Z, Z⟩)) Z (.consF Z (fun E => AOps.i Z Z Z hb7 (.nil ⟨Z, Z⟩)) Z (.consF Z (fun E => AOps.i Z Z Z hb7 (.nil ⟨Z, Z⟩)) Z (.consF Z (fun E => AOps.i Z Z Z hb7 (.nil ⟨Z, Z⟩)) Z (.consF Z (fun E => AOps.i Z Z Z hb7 (.nil ⟨Z, Z⟩)) Z (.consF Z (fun E => AOps.p Z hb7 Z Z (.nil ⟨Z, Z⟩)) Z ?_))))))))))))))))))))))))
     refine i5.done ?_
     dsimp only [j6]
     obtain rfl := oi hx6
     refine b5 (Sub.env ⟨Z, Z, Z, Z, Y⟩)
    ·replace hx6 := w6 hb7 hx6
     obtain ⟨a31, ha31, a36, ha36, a39, ha39, hx6⟩ := b3 hx6
     refine AWP.drawI mixed Z ?_
     refine i5.consF Z (fun E => AOps.a Z Z (.nil ⟨Z, Z⟩)) Z (.consF Z (fun E => AOps.a Z Z (.nil ⟨Z, Z⟩)) Z (.consF Z (fun E => S.idx ha19 Z Z Z Z (.nil ⟨Z, Z⟩)) Z (.consF Z (fun E => W.fieldAddrI Z Z Z Z (.nil ⟨Z, Z⟩)) Z (.consF Z (fun E => AOps.o Z Z Z Z (.nil ⟨Z, Z⟩)) Z (.consF Z (fun E => AOps.a Z Z (.nil ⟨Z, Z⟩)) Z (.consF Z (fun E => AOps.a Z Z (.nil ⟨Z, Z⟩)) Z (.consF Z (fun E => S.idx ha24 Z Z Z Z (.nil ⟨Z, Z⟩)) Z (.consF Z (fun E => W.fieldAddrI Z Z Z Z (.nil ⟨Z, Z⟩)) Z (.consF Z (fun E => AOps.o Z Z Z Z (.nil ⟨Z, Z⟩)) Z (.consF Z (fun E => AOps.neq Z Z Z (.nil ⟨Z, Z⟩)) Z (.consF Z (fun E => AOps.a Z Z (.nil ⟨Z, Z⟩)) Z (.consF Z (fun E => AOps.g Z Z Z hb7 (.a Z Z (.nil ⟨Z, Z⟩))) Z (.consF Z (fun E => AOps.g Z Z Z hb7 (.a Z Z (.nil ⟨Z, Z⟩))) Z (.consF Z (fun E => AOps.g Z Z Z hb7 (S.idx ha31 Z Z Z Z (.nil ⟨Z, Z⟩))) Z (.consF Z (fun E => AOps.g Z Z Z hb7 (W.fieldAddrI Z Z Z Z (.nil ⟨Z, Z⟩))) Z (.consF Z (fun E => AOps.g Z Z Z hb7 (.o Z Z Z Z (.nil ⟨Z, Z⟩))) Z (.consF Z (fun E => AOps.g Z Z Z hb7 (.a Z Z (.nil ⟨Z, Z⟩))) Z (.consF Z (fun E => AOps.g Z Z Z hb7 (.a Z Z (.nil ⟨Z, Z⟩))) Z (.consF Z (fun E => AOps.g Z Z Z hb7 (S.idx ha36 Z Z Z Z (.nil ⟨Z, Z⟩))) Z (.consF Z (fun E => AOps.g Z Z Z hb7 (W.fieldAddrI Z Z Z Z (.nil ⟨Z, Z⟩))) Z (.consF Z (fun E => AOps.g Z Z Z hb7 (.o Z Z Z Z (.nil ⟨Z, Z⟩))) Z (.consF Z (fun E => AOps.g Z Z Z hb7 (.l Z Z Z Z (ab6 ha39) Z (.nil ⟨Z, Z⟩))) Z (.consF Z (fun E => AOps.g Z Z Z hb7 (.u Z Z (.nil ⟨Z, Z⟩))) Z (.consF Z (fun E => AOps.n Z hb7 Z Z (.nil ⟨Z, Z⟩)) Z ?_))))))))))))))))))))))))
     refine i5.done ?_
     dsimp only [j6]
     obtain rfl := oi hx6
     refine b5 (Sub.env ⟨Z, Z, Z, Z, Y⟩)
   ·refine AWP.s Z h (fun hc8 h => ?_) (fun hc8 h => ?_)
    ·refine AWP.d (.f (.e Z Z (.nil (b5 (.ret (h9 (e8 ?_)))))))
     obtain rfl := oi h
     refine e8 ⟨_, Z, Z, ?_⟩
     exact Done.ret Z Z
    ·refine AWP.skip (d7 (b5 (.f (.a Z Z (.add Z Z Z (by omega) (.e Z Z (.nil ?_)))))))
     obtain rfl := oi h
     refine b5 ⟨_, Z, ?_⟩
     exact Sub.env ⟨Z, Z, Z, Y⟩
  ·intro e s hq
   rcases oo with u | x
   ·try dsimp only at h hq
    obtain ⟨rfl, hs⟩ := hq
    refine ⟨_, hs, ?_⟩
    refine g8 (b5 (.d (.f (.e Z Z (.nil (b5 (.ret ?_)))))))
    obtain rfl := oi h
    exact Done.ret Z Z
   ·try dsimp only at h hq
    obtain ⟨rfl, hs⟩ := hq
    refine ⟨_, Sub.refl _ _, ?_⟩
    refine h9 (e8 ?_)
    obtain rfl := oi h
    exact hs
theorem af7 {sv : List Int} {r : Int} (h : O3 sv = some r) : f8 Tryz.prog 39 [.c (row 1 intI sv)] (.c (int r)) := by
 unfold f8
 refine FnOk.enter (rs := [.t 2]) Tryz.func39 Z Tryz.ntmps39 Tryz.results39 Z ⟨trivial, Y⟩ (by kernel_rfl) Z ?_
 unfold O3 at h
 refine AWP.d (.f (.e Z Z (.nil (b5 (.d (.f (.e Z Z (.nil (b5 (.d (.d (.f (.e Z Z (.nil (b5 (.k ?_))))))))))))))))
 obtain ⟨w2, ho1, h⟩ := b6 h
 refine AWP.forS ho1 (fun iv3 w2 => ⟨[(0, .c (row 1 intI sv)), (3, .c (int w2)), (4, .c (int iv3))], []⟩) (fun w2 e st => e = .exit 0 ∧ Sub [] st ⟨[(3, .c (int w2))], []⟩) ?_ ?_ ?_ ?_
 ·try dsimp only
  exact Sub.env ⟨Z, Z, Z, Y⟩
 ·intro iv3 w2 hloiv3 hltiv3 _
  try dsimp only
  refine AWP.d (.d (.f (.a Z Z (.a Z Z (S.len Z Z (fun hl7 => .j Z Z Z (.nil (b5 (.q Z hltiv3 (.exit (d8 (d8 ⟨Z, ?_⟩))))))))))))
  exact Sub.env ⟨Z, Y⟩
 ·intro iv3 w2 o hloiv3 hltiv3 h
  unfold aa6 at h
  try dsimp only at h ⊢
  refine AWP.d (.d (.f (.a Z Z (.a Z Z (S.len Z Z (fun hl7 => .j Z Z Z (.nil (b5 (.r Z hltiv3 (.skip (b5 (.d (.k ?_)))))))))))))
  obtain ⟨a14, ha14, u17, hu17, h⟩ := b2 h
  refine AWP.f (.a Z Z (.a Z Z (.a Z Z (S.idx ha14 Z Z Z Z (.o Z Z Z Z (.z Z Z (S.shl hu17 Z Z Z (S.add Z Z Z (.e Z Z (.nil (d7 (b5 (.f (.a Z Z (.add Z Z Z (by omega) (.e Z Z (.nil ?_)))))))))))))))))
  obtain rfl := oi h
  refine b5 (Sub.env ⟨Z, Z, Z, Y⟩)
 ·intro e s hq
  obtain ⟨rfl, hs⟩ := hq
  refine ⟨_, hs, ?_⟩
  refine g8 (b5 (.d (.f (.a Z Z (.e Z Z (.nil (b5 (.ret ?_))))))))
  obtain rfl := oi h
  exact Done.ret Z Z
theorem aj1 {part : List Int} {l : List Int} {r : Bool} (h : Q0 part l = some r) : f8 Tryz.prog 76 [.c (row 1 intI part), .c (row 1 intI l)] (.c (bool r)) := by
 unfold f8
 refine FnOk.enter (rs := [.t 4]) Tryz.func76 Z Tryz.ntmps76 Tryz.results76 Z ⟨trivial, Y⟩ (by kernel_rfl) Z ?_
 unfold Q0 at h
 refine AWP.d (.f (.e Z Z (.nil (b5 (.d (.d (.f (.e Z Z (.nil (b5 (.k ?_)))))))))))
 obtain ⟨oo, ho1, h⟩ := b6 h
 refine AWP.rngS ho1 (fun iv3 _ => ⟨[(0, .c (row 1 intI part)), (1, .c (row 1 intI l)), (5, .c (int iv3))], []⟩) (fun o e st => match o with | .inl _ => e = .exit 0 ∧ Sub [] st ⟨[], []⟩ | .inr x => e = .ret ∧ Done [.t 4] (fun t _ => t = .c (bool x)) .ret st) ?_ ?_ ?_ ?_
 ·try dsimp only
  exact Sub.env ⟨Z, Z, Z, Y⟩
 ·intro iv3 s hloiv3 hltiv3 _
  try dsimp only
  refine AWP.d (.d (.f (.a Z Z (.a Z Z (S.len Z Z (fun hl8 => .j Z Z Z (.nil (b5 (.q Z hltiv3 (.exit (d8 (d8 ⟨Z, ?_⟩))))))))))))
  exact Sub.env trivial
 ·intro iv3 s o hloiv3 hltiv3 h
  unfold ab7 at h
  try dsimp only at h ⊢
  refine AWP.d (.d (.f (.a Z Z (.a Z Z (S.len Z Z (fun hl8 => .j Z Z Z (.nil (b5 (.r Z hltiv3 (.skip (b5 (.d (.k (.d ?_))))))))))))))
  obtain ⟨a15, ha15, a17, ha17, h⟩ := b2 h
  refine AWP.f (.a Z Z (.a Z Z (.a Z Z (S.idx ha15 Z Z Z Z (.o Z Z Z Z (.l Z Z Z Z (F5 ha17) Z (.u Z Z (.nil (b5 (.s Z h (fun hc4 h => ?_) (fun hc4 h => ?_)))))))))))
  ·refine AWP.d (.f (.e Z Z (.nil (b5 (.ret (h9 (e8 ?_)))))))
   obtain rfl := oi h
   refine e8 ⟨_, Z, Z, ?_⟩
   exact Done.ret Z Z
  ·refine AWP.skip (d7 (b5 (.f (.a Z Z (.add Z Z Z (by omega) (.e Z Z (.nil ?_)))))))
   obtain rfl := oi h
   refine b5 ⟨_, Z, ?_⟩
   exact Sub.env ⟨Z, Z, Z, Y⟩
 ·intro e s hq
  rcases oo with u | x
  ·try dsimp only at h hq
   obtain ⟨rfl, hs⟩ := hq
   refine ⟨_, hs, ?_⟩
   refine g8 (b5 (.d (.f (.e Z Z (.nil (b5 (.ret ?_)))))))
   obtain rfl := oi h
   exact Done.ret Z Z
  ·try dsimp only at h hq
   obtain ⟨rfl, hs⟩ := hq
   refine ⟨_, Sub.refl _ _, ?_⟩
   refine h9 (e8 ?_)
   obtain rfl := oi h
   exact hs
theorem s6 {ov : b9} {sv : List Int} {op : Int} {r : Bool} (h : D1 ov sv op = some r) : f8 Tryz.prog 40 [.agg (tO ov), .c (row 1 intI sv), .c (int op)] (.c (bool r)) := by
 unfold f8
 refine FnOk.enter (rs := [.t 6]) Tryz.func40 Z Tryz.ntmps40 Tryz.results40 Z ⟨trivial, Y⟩ (by kernel_rfl) Z ?_
 unfold D1 at h
 refine AWP.d (.f (W.box Z Z Z Z Z Z (.e Z Z (.nil (b5 (.d ?_))))))
 obtain ⟨a10, ha10, a14, ha14, h⟩ := b2 h
 refine AWP.f (W.fieldAddr Z Z Z Z (.m Z Z Z Z Z Z (.a Z Z (S.idx ha10 Z Z Z Z (W.fieldAddrI Z Z Z Z (.o Z Z Z Z (.a Z Z (.l Z Z Z Z (aj1 ha14) Z (.e Z Z (.nil (b5 (.ret ?_))))))))))))
 obtain rfl := oi h
 exact Done.ret Z Z
theorem aj0 {ov : b9} {sv : List Int} {xv : j8} {r : (List Int)} (h : Q3 ov sv xv = some r) : m5 Tryz.prog 77 [.agg (tO ov), .c (row 1 intI sv), .agg [row 1 intI xv.add, row 1 intI xv.del, int xv.weight]] 1 (List.map intI r) := by
 unfold m5
 refine FnOk.enter (rs := [.t 6]) Tryz.func77 Z Tryz.ntmps77 Tryz.results77 Z ⟨trivial, Y⟩ (by kernel_rfl) Z ?_
 unfold Q3 at h
 refine AWP.d (.f (W.box Z Z Z Z Z Z (W.box Z Z Z Z Z Z (.e Z Z (.nil (b5 (.d (.f (.e Z Z (.nil (b5 (.d (.d (.f (.e Z Z (.nil (b5 (.k (.virtV 1 intI 7 Z Z Z ?_)))))))))))))))))))
 obtain ⟨hnp5, h⟩ := ite_none h
 obtain ⟨c4, ho1, h⟩ := b6 h
 refine AWP.forS ho1 (fun p5 c4 => ⟨[(1, .c (row 1 intI sv)), (3, .c (.ptr 0 0 0)), (5, .c (.ptr 1 0 0)), (7, .c (.own 2 0 c4.length)), (8, .c (int p5))], [.one (.cells 4 [(tO ov)]), .one (.cells 3 [[row 1 intI xv.add, row 1 intI xv.del, int xv.weight]]), .one (vec 1 intI c4)]⟩) (fun c4 e st => e = .exit 0 ∧ Sub [] st ⟨[(7, .c (.own 2 0 c4.length))], [.one (.cells 4 [(tO ov)]), .one (.cells 3 [[row 1 intI xv.add, row 1 intI xv.del, int xv.weight]]), .one (vec 1 intI c4)]⟩) ?_ ?_ ?_ ?_
 ·try dsimp only
  exact Sub.env ⟨Z, Z, Z, (x9 (by first | rfl | simp only [List.length_set])), Z, Y⟩
 ·intro p5 c4 hlop5 hltp5 _
  try dsimp only
  refine AWP.d (.d (.f (.a Z Z (W.fieldAddr Z Z Z Z (.m Z Z Z Z Z Z (.j Z Z Z (.nil (b5 (.q Z hltp5 (.exit (d8 (d8 ⟨Z, ?_⟩))))))))))))
  exact Sub.env ⟨Z, Y⟩
 ·intro p5 c4 o hlop5 hltp5 h
  unfold ac1 at h
  try dsimp only at h ⊢
  refine AWP.d (.d (.f (.a Z Z (W.fieldAddr Z Z Z Z (.m Z Z Z Z Z Z (.j Z Z Z (.nil (b5 (.r Z hltp5 (.skip (b5 ?_)))))))))))
  obtain ⟨c6, hx7, h⟩ := b6 h
  refine AWP.seqJ (⟨[(1, .c (row 1 intI sv)), (3, .c (.ptr 0 0 0)), (5, .c (.ptr 1 0 0)), (7, .c (.own 4 0 c6.length)), (8, .c (int p5))], [.one (.cells 4 [(tO ov)]), .one (.cells 3 [[row 1 intI xv.add, row 1 intI xv.del, int xv.weight]]), .dead, .dead, .one (vec 1 intI c6)]⟩) ?_ ?_
  ·refine AWP.k ?_
   obtain ⟨t8, hx9, hx7⟩ := b6 hx7
   refine AWP.seqJ (⟨[(1, .c (row 1 intI sv)), (3, .c (.ptr 0 0 0)), (5, .c (.ptr 1 0 0)), (7, .c (.own 2 0 c4.length)), (8, .c (int p5)), (30, .c (bool t8))], [.one (.cells 4 [(tO ov)]), .one (.cells 3 [[row 1 intI xv.add, row 1 intI xv.del, int xv.weight]]), .one (vec 1 intI c4)]⟩) ?_ ?_
   ·obtain ⟨a18, ha18, hx9⟩ := b6 hx9
    rcases bft (a18) with hb10 | hb10
    ·replace hx9 := w9 hb10 hx9
     refine AWP.f (W.fieldAddr Z Z Z Z (.m Z Z Z Z Z Z (.a Z Z (.l Z Z Z Z (F5 ha18) Z (.a Z Z (.i Z Z Z hb10 (.i Z Z Z hb10 (.i Z Z Z hb10 (.i Z Z Z hb10 (.x Z Z Z (.x Z Z Z (.x Z Z Z (.x Z Z Z (.x Z Z Z (.i Z Z Z hb10 (.p Z hb10 Z Z (.nil ?_)))))))))))))))))
     obtain rfl := oi hx9
     refine b5 (Sub.env ⟨Z, Z, Z, Z, Z, Z, Y⟩)
    ·replace hx9 := w6 hb10 hx9
     obtain ⟨a22, ha22, hx9⟩ := b6 hx9
     rcases bft (a22) with hb11 | hb11
     ·replace hx9 := w9 hb11 hx9
      obtain ⟨a27, ha27, hx9⟩ := b6 hx9
      refine AWP.f (W.fieldAddr Z Z Z Z (.m Z Z Z Z Z Z (.a Z Z (.l Z Z Z Z (F5 ha18) Z (.a Z Z (.g Z Z Z hb10 (.a Z Z (.g Z Z Z hb10 (.a Z Z (.g Z Z Z hb10 (.l Z Z Z Z (F5 ha22) Z (.g Z Z Z hb10 (.a Z Z (.g Z Z Z hb11 (W.fieldAddr Z Z Z Z (.g Z Z Z hb11 (.m Z Z Z Z Z Z (.g Z Z Z hb11 (.a Z Z (.g Z Z Z hb11 (.l Z Z Z Z (F5 ha27) Z (.g Z Z Z hb11 (.u Z Z (.g Z Z Z hb10 (.p Z hb11 Z Z (.n Z hb10 Z Z (.nil ?_)))))))))))))))))))))))))))
      obtain rfl := oi hx9
      refine b5 (Sub.env ⟨Z, Z, Z, Z, Z, Z, Y⟩)
     ·replace hx9 := w6 hb11 hx9
      refine AWP.f (W.fieldAddr Z Z Z Z (.m Z Z Z Z Z Z (.a Z Z (.l Z Z Z Z (F5 ha18) Z (.a Z Z (.g Z Z Z hb10 (.a Z Z (.g Z Z Z hb10 (.a Z Z (.g Z Z Z hb10 (.l Z Z Z Z (F5 ha22) Z (.g Z Z Z hb10 (.a Z Z (.i Z Z Z hb11 (.i Z Z Z hb11 (.i Z Z Z hb11 (.i Z Z Z hb11 (.i Z Z Z hb11 (.g Z Z Z hb10 (.n Z hb11 Z Z (.n Z hb10 Z Z (.nil ?_))))))))))))))))))))))
      obtain rfl := oi hx9
      refine b5 (Sub.env ⟨Z, Z, Z, Z, Z, Z, Y⟩)
   ·refine AWP.s Z hx7 (fun hc12 hx7 => ?_) (fun hc12 hx7 => ?_)
    ·obtain ⟨a34, ha34, hx7⟩ := b6 hx7
     refine AWP.f (.a Z Z (.a Z Z (S.lit (f := intI) (l := [p5]) (ess := [[int p5]]) Z Z Z Z Z Z Z ⟨⟨.inl Z, Y⟩, Y⟩ Z Z Z (S.append (f := intI) ha34 Z Z Z Z Z Z (.own Z Z) Z Z Z Z (.e Z Z (.nil (d7 ?_)))))))
     obtain rfl := oi hx7
     refine b5 (Sub.cut ⟨Z, Z, Z, Z, Z, Y⟩ Z ⟨.one Z, .one Z, .dead, .dead, .vec, Y⟩ Z)
    ·refine AWP.skip (d7 ?_)
     obtain rfl := oi hx7
     refine b5 ((Sub.move (env' := [(1, .c (row 1 intI sv)), (3, .c (.ptr 0 0 0)), (5, .c (.ptr 1 0 0)), (7, .c (.own 4 0 c4.length)), (8, .c (int p5))]) (σ' := [.one (.cells 4 [(tO ov)]), .one (.cells 3 [[row 1 intI xv.add, row 1 intI xv.del, int xv.weight]]), .dead, .dead, .one (vec 1 intI c4)]) 4 2 Z Z Z ⟨Z, Z, Z, Z, Z, Y⟩ Z ⟨⟨Z, Z⟩, ⟨Z, Z⟩, trivial, trivial, ⟨Blk.im_ok _ _ _, l8 Z⟩, Y⟩).trans (Sub.env ⟨Z, Z, Z, Z, Z, Y⟩))
  ·refine AWP.f (.a Z Z (.add Z Z Z (by omega) (.e Z Z (.nil ?_))))
   obtain rfl := oi h
   refine b5 ((Sub.move (env' := [(1, .c (row 1 intI sv)), (3, .c (.ptr 0 0 0)), (5, .c (.ptr 1 0 0)), (7, .c (.own 2 0 c6.length)), (8, .c (int (p5 + 1)))]) (σ' := [.one (.cells 4 [(tO ov)]), .one (.cells 3 [[row 1 intI xv.add, row 1 intI xv.del, int xv.weight]]), .one (vec 1 intI c6), .dead]) 2 4 Z Z Z ⟨Z, Z, Z, Z, Z, Y⟩ Z ⟨⟨Z, Z⟩, ⟨Z, Z⟩, ⟨Blk.im_ok _ _ _, l8 Z⟩, trivial, Y⟩).trans (Sub.cut ⟨Z, Z, Z, Z, Z, Y⟩ Z ⟨.one Z, .one Z, .vec, Y⟩ Z))
 ·intro e s hq
  obtain ⟨rfl, hs⟩ := hq
  refine ⟨_, hs, ?_⟩
  refine g8 (b5 (.d (.f (.a Z Z (.e Z Z (.nil (b5 (.ret ?_))))))))
  obtain rfl := oi h
  exact Done.ret Z (Fresh.mk Z Z)
theorem aj4 {av : List Int} {bv : List Int} {r : Bool} (h : I0 av bv = some r) : f8 Tryz.prog 51 [.c (row 1 intI av), .c (row 1 intI bv)] (.c (bool r)) := by
 unfold f8
 refine FnOk.enter (rs := [.t 4]) Tryz.func51 Z Tryz.ntmps51 Tryz.results51 Z ⟨trivial, Y⟩ (by kernel_rfl) Z ?_
 unfold I0 at h
 refine AWP.d (.f (.e Z Z (.nil (b5 (.d (.d (.f (.e Z Z (.nil (b5 (.k ?_)))))))))))
 obtain ⟨oo, ho1, h⟩ := b6 h
 refine AWP.loopS ho1 (fun iv3 => ⟨[(0, .c (row 1 intI av)), (1, .c (row 1 intI bv)), (5, .c (int iv3))], []⟩) (fun o e st => match o with | .inl _ => e = .exit 0 ∧ Sub [] st ⟨[(0, .c (row 1 intI av)), (1, .c (row 1 intI bv))], []⟩ | .inr x => e = .ret ∧ Done [.t 4] (fun t _ => t = .c (bool x)) .ret st) ?_ ?_ ?_
 ·try dsimp only
  exact Sub.env ⟨Z, Z, Z, Y⟩
 ·intro iv3 o h
  unfold U9 at h
  try dsimp only at h ⊢
  refine AWP.d (.seqJ (⟨[(0, .c (row 1 intI av)), (1, .c (row 1 intI bv)), (5, .c (int iv3)), (15, .c (bool ((decide (iv3 < (av.length : Int))) && (decide (iv3 < (bv.length : Int))))))], []⟩) ?_ ?_)
  ·rcases bft (decide (iv3 < (av.length : Int))) with hb1 | hb1
   ·refine AWP.f (.a Z Z (.a Z Z (S.len Z Z (fun hl8 => .j Z Z Z (.a Z Z (.g Z Z Z hb1 (.a Z Z (.g Z Z Z hb1 (.a Z Z ?_)))))))))
    refine AOps.g Z Z Z hb1 ?_; refine S.len Z Z (fun hl13 => ?_)
    refine AOps.g Z Z Z hb1 (.j Z Z Z (.p Z hb1 Z Z (.nil (b5 ?_))))
    simp only [and_t hb1, or_t hb1, Bool.false_or, Bool.true_or, Bool.false_and, Bool.true_and]
    exact Sub.env ⟨Z, Z, Z, Z, Y⟩
   ·refine AWP.f (.a Z Z (.a Z Z (S.len Z Z (fun hl8 => .j Z Z Z (.a Z Z (.i Z Z Z hb1 (.i Z Z Z hb1 (.i Z Z Z hb1 (.i Z Z Z hb1 (.n Z hb1 Z Z (.nil (b5 ?_))))))))))))
    simp only [and_f hb1, or_f hb1, Bool.false_or, Bool.true_or, Bool.false_and, Bool.true_and]
    exact Sub.env ⟨Z, Z, Z, Z, Y⟩
  ·refine AWP.s Z h (fun hc4 h => ?_) (fun hc4 h => ?_)
   ·refine AWP.skip (b5 (.d (.k (.d ?_))))
    obtain ⟨a20, ha20, a24, ha24, h⟩ := b2 h
    refine AWP.drawI mixed Z ?_
    refine i5.consF Z (fun E => AOps.a Z Z (.nil ⟨Z, Z⟩)) Z (.consF Z (fun E => AOps.a Z Z (.nil ⟨Z, Z⟩)) Z (.consF Z (fun E => S.idx ha20 Z Z Z Z (.nil ⟨Z, Z⟩)) Z (.consF Z (fun E => AOps.o Z Z Z Z (.nil ⟨Z, Z⟩)) Z (.consF Z (fun E => AOps.a Z Z (.nil ⟨Z, Z⟩)) Z (.consF Z (fun E => AOps.a Z Z (.nil ⟨Z, Z⟩)) Z (.consF Z (fun E => S.idx ha24 Z Z Z Z (.nil ⟨Z, Z⟩)) Z (.consF Z (fun E => AOps.o Z Z Z Z (.nil ⟨Z, Z⟩)) Z (.consF Z (fun E => AOps.neq Z Z Z (.nil ⟨Z, Z⟩)) Z ?_))))))))
    refine i5.done ?_
    dsimp only [j6]
    refine b5 (.iteN Z h (fun hc5 h => ?_) (fun hc5 h => ?_))
    ·refine AWP.d ?_
     obtain ⟨a29, ha29, a33, ha33, h⟩ := b2 h
     refine AWP.drawI mixed Z ?_
     refine i5.consF Z (fun E => AOps.a Z Z (.nil ⟨Z, Z⟩)) Z (.consF Z (fun E => AOps.a Z Z (.nil ⟨Z, Z⟩)) Z (.consF Z (fun E => S.idx ha29 Z Z Z Z (.nil ⟨Z, Z⟩)) Z (.consF Z (fun E => AOps.o Z Z Z Z (.nil ⟨Z, Z⟩)) Z (.consF Z (fun E => AOps.a Z Z (.nil ⟨Z, Z⟩)) Z (.consF Z (fun E => AOps.a Z Z (.nil ⟨Z, Z⟩)) Z (.consF Z (fun E => S.idx ha33 Z Z Z Z (.nil ⟨Z, Z⟩)) Z (.consF Z (fun E => AOps.o Z Z Z Z (.nil ⟨Z, Z⟩)) Z (.consF Z (fun E => AOps.j Z Z Z (.nil ⟨Z, Z⟩)) Z (.consF Z (fun E => AOps.e Z Z (.nil ⟨Z, Z⟩)) Z ?_)))))))))
     refine i5.done ?_
     dsimp only [j6]
     refine b5 (.ret (h9 (e8 ?_)))
     obtain rfl := oi h
     refine e8 ⟨_, Z, Z, ?_⟩
     exact Done.ret Z Z
    ·refine AWP.skip (d7 (b5 (.f (.a Z Z (S.add Z Z Z (.e Z Z (.nil ?_)))))))
     obtain rfl := oi h
     refine b5 ⟨_, Z, ?_⟩
     exact Sub.env ⟨Z, Z, Z, Y⟩
   ·refine AWP.exit (d8 ?_)
    obtain rfl := oi h
    refine d8 ⟨_, Z, Z, ?_⟩
    exact Sub.env ⟨Z, Z, Y⟩
 ·intro e s hq
  rcases oo with u | x
  ·try dsimp only at h hq
   obtain ⟨rfl, hs⟩ := hq
   refine ⟨_, hs, ?_⟩
   refine g8 (b5 (.d (.f (.a Z Z (S.len Z Z (fun hl37 => .a Z Z (S.len Z Z (fun hl39 => .j Z Z Z (.e Z Z (.nil (b5 (.ret ?_))))))))))))
   obtain rfl := oi h
   exact Done.ret Z Z
  ·try dsimp only at h hq
   obtain ⟨rfl, hs⟩ := hq
   refine ⟨_, Sub.refl _ _, ?_⟩
   refine h9 (e8 ?_)
   obtain rfl := oi h
   exact hs
theorem ac7 {l : LL} {sv : List Int} {r : LL} (h : M4 l sv = some r) : f8 Tryz.prog 43 [.c (row 1 d6 l), .c (row 1 intI sv)] (.c (row 1 d6 r)) := by
 unfold f8
 refine FnOk.enter (rs := [.t 4]) Tryz.func43 Z Tryz.ntmps43 Tryz.results43 Z ⟨trivial, Y⟩ (by kernel_rfl) Z ?_
 unfold M4 at h
 refine AWP.d (.f (.e Z Z (.nil (b5 (.d (.f (.e Z Z (.nil (b5 (.d (.k ?_)))))))))))
 obtain ⟨kv4, ho1, h⟩ := b6 h
 refine AWP.loopS ho1 (fun kv3 => ⟨[(0, .c (row 1 d6 l)), (1, .c (row 1 intI sv)), (5, .c (int kv3))], []⟩) (fun kv4 e st => e = .exit 0 ∧ Sub [] st ⟨[(0, .c (row 1 d6 l)), (1, .c (row 1 intI sv)), (5, .c (int kv4))], []⟩) ?_ ?_ ?_
 ·try dsimp only
  exact Sub.env ⟨Z, Z, Z, Y⟩
 ·intro kv3 o h
  unfold V5 at h
  try dsimp only at h ⊢
  refine AWP.d ?_
  obtain ⟨t5, hx6, h⟩ := b6 h
  refine AWP.seqJ (⟨[(0, .c (row 1 d6 l)), (1, .c (row 1 intI sv)), (5, .c (int kv3)), (17, .c (bool t5))], []⟩) ?_ ?_
  ·rcases bft (decide (kv3 < (l.length : Int))) with hb7 | hb7
   ·replace hx6 := C2 hb7 hx6
    obtain ⟨a13, ha13, a16, ha16, hx6⟩ := b2 hx6
    refine AWP.f (.a Z Z (.a Z Z (S.len Z Z (fun hl8 => .j Z Z Z (.a Z Z (.g Z Z Z hb7 (.a Z Z (.g Z Z Z hb7 (.a Z Z (.g Z Z Z hb7 (S.idx ha13 Z Z Z Z (.g Z Z Z hb7 (.o Z Z Z Z (.g Z Z Z hb7 (.a Z Z (.g Z Z Z hb7 (.l Z Z Z Z (aj4 ha16) Z (.p Z hb7 Z Z (.nil ?_)))))))))))))))))))
    obtain rfl := oi hx6
    refine b5 (Sub.env ⟨Z, Z, Z, Z, Y⟩)
   ·replace hx6 := B9 hb7 hx6
    refine AWP.f (.a Z Z (.a Z Z (S.len Z Z (fun hl8 => .j Z Z Z (.a Z Z (.i Z Z Z hb7 (.i Z Z Z hb7 (.i Z Z Z hb7 (.i Z Z Z hb7 (.i Z Z Z hb7 (.i Z Z Z hb7 (.n Z hb7 Z Z (.nil ?_)))))))))))))
    obtain rfl := oi hx6
    refine b5 (Sub.env ⟨Z, Z, Z, Z, Y⟩)
  ·refine AWP.s Z h (fun hc8 h => ?_) (fun hc8 h => ?_)
   ·refine AWP.skip (b5 (.k (.f (.a Z Z (S.add Z Z Z (.e Z Z (.nil (d7 ?_))))))))
    obtain rfl := oi h
    refine b5 ⟨_, Z, ?_⟩
    exact Sub.env ⟨Z, Z, Z, Y⟩
   ·refine AWP.exit (d8 ?_)
    obtain rfl := oi h
    refine d8 ⟨_, Z, Z, ?_⟩
    exact Sub.env ⟨Z, Z, Z, Y⟩
 ·intro e s hq
  obtain ⟨rfl, hs⟩ := hq
  refine ⟨_, hs, ?_⟩
  refine g8 (b5 (.d ?_))
  obtain ⟨t9, hx10, h⟩ := b6 h
  refine AWP.seqJ (⟨[(0, .c (row 1 d6 l)), (1, .c (row 1 intI sv)), (5, .c (int kv4)), (31, .c (bool t9))], []⟩) ?_ ?_
  ·rcases bft (decide (kv4 < (l.length : Int))) with hb11 | hb11
   ·replace hx10 := C2 hb11 hx10
    obtain ⟨a27, ha27, a30, ha30, hx10⟩ := b2 hx10
    refine AWP.f (.a Z Z (.a Z Z (S.len Z Z (fun hl22 => .j Z Z Z (.a Z Z (.g Z Z Z hb11 (.a Z Z (.g Z Z Z hb11 (.a Z Z (.g Z Z Z hb11 (S.idx ha27 Z Z Z Z (.g Z Z Z hb11 (.o Z Z Z Z (.g Z Z Z hb11 (.a Z Z (.g Z Z Z hb11 (.l Z Z Z Z (ab6 ha30) Z (.p Z hb11 Z Z (.nil ?_)))))))))))))))))))
    obtain rfl := oi hx10
    refine b5 (Sub.env ⟨Z, Z, Z, Z, Y⟩)
   ·replace hx10 := B9 hb11 hx10
    refine AWP.f (.a Z Z (.a Z Z (S.len Z Z (fun hl22 => .j Z Z Z (.a Z Z (.i Z Z Z hb11 (.i Z Z Z hb11 (.i Z Z Z hb11 (.i Z Z Z hb11 (.i Z Z Z hb11 (.i Z Z Z hb11 (.n Z hb11 Z Z (.nil ?_)))))))))))))
    obtain rfl := oi hx10
    refine b5 (Sub.env ⟨Z, Z, Z, Z, Y⟩)
  ·refine AWP.s Z h (fun hc12 h => ?_) (fun hc12 h => ?_)
   ·refine AWP.d (.f (.a Z Z (.e Z Z (.nil (b5 (.ret (e8 ?_)))))))
    obtain rfl := oi h
    exact Done.ret Z Z
   ·refine AWP.skip (b5 (.d ?_))
    obtain ⟨a36, ha36, a37, ha37, a40, ha40, h⟩ := b3 h
    obtain ⟨a43, ha43, a44, ha44, h⟩ := b2 h
    refine AWP.sub (s' := ⟨[(0, .c (row 1 d6 l)), (1, .c (row 1 intI sv)), (5, .c (int kv4)), (31, .c (bool t9))], [.dead, .dead, .dead, .dead, .dead]⟩) (Sub.cut ⟨Z, Z, Z, Z, Y⟩ Z ⟨.dead, .dead, .dead, .dead, .dead, Y⟩ Z) (.drawTI [.c (.own 0 0 (([] : LL).length)), .c (row 1 d6 l), .c (int kv4), .c (row 1 d6 a36), .c (.own 1 0 a37.length), .c (row 1 intI sv), .c (.own 2 0 ([sv].length)), .c (.own 3 0 a40.length), .c (row 1 d6 l), .c (int kv4), .c (row 1 d6 a43), .c (.own 4 0 a44.length), .c (.own 4 0 a44.length)] [0, 4, 6, 7, 11] [([], [.dead, .dead, .dead, .dead, .dead]), ([0], [.one (vec 1 d6 ([] : LL)), .dead, .dead, .dead, .dead]), ([0, 4], [.dead, .one (vec 1 d6 a37), .dead, .dead, .dead]), ([6], [.dead, .dead, .one (vec 1 d6 [sv]), .dead, .dead]), ([0, 6], [.one (vec 1 d6 ([] : LL)), .dead, .one (vec 1 d6 [sv]), .dead, .dead]), ([0, 4, 6], [.dead, .one (vec 1 d6 a37), .one (vec 1 d6 [sv]), .dead, .dead]), ([0, 4, 6, 7], [.dead, .dead, .one (vec 1 d6 [sv]), .one (vec 1 d6 a40), .dead]), ([0, 4, 6, 7, 11], [.dead, .dead, .one (vec 1 d6 [sv]), .dead, .one (vec 1 d6 a44)])] [.dead, .dead, .one (vec 1 d6 [sv]), .dead, .one (vec 1 d6 a44)] mixed Z Z Z Z Z ?_ ?_)
    ·refine G7.cons ?_ ?_
     ·apply f9.eff; exact Z; exact Z; exact Z; exact Z; intro E hE; (refine AOps.newAt 0 (.c (.own 0 0 (([] : LL).length))) (vec 1 d6 ([] : LL)) (.inl Z) Z hE Z Z Z Z (.vec) (.vec) Z Z Z ⟨.dead, .dead, .dead, .dead, .dead, Y⟩ (fun hh => by (refine S.lit (f := d6) (l := []) (ess := []) Z Z Z Z Z Z Z trivial Z Z Z ?_; exact hh)) ?_); exact AOps.nil ⟨Z, Z⟩
      apply f9.go; exact Z; exact Z; exact Z; intro E hE; (refine AOps.a Z Z ?_); exact AOps.nil ⟨Z, Z⟩
      apply f9.go; exact Z; exact Z; exact Z; intro E hE; (refine AOps.a Z Z ?_); exact AOps.nil ⟨Z, Z⟩
      apply f9.go; exact Z; exact Z; exact Z; intro E hE; (refine S.subTo ha36 Z Z Z ?_); exact AOps.nil ⟨Z, Z⟩
      refine f9.no Z ?_
      apply f9.go; exact Z; exact Z; exact Z; intro E hE; (refine AOps.a Z Z ?_); exact AOps.nil ⟨Z, Z⟩
      apply f9.eff; exact Z; exact Z; exact Z; exact Z; intro E hE; (refine AOps.newAt 2 (.c (.own 2 0 ([sv].length))) (vec 1 d6 [sv]) (.inl Z) Z hE Z Z Z Z (.vec) (.vec) Z Z Z ⟨.dead, .dead, .dead, .dead, .dead, Y⟩ (fun hh => by (refine S.lit (f := d6) (l := [sv]) (ess := [[row 1 intI sv]]) Z Z Z Z Z Z Z ⟨⟨.inl Z, Y⟩, Y⟩ Z Z Z ?_; exact hh)) ?_); exact AOps.nil ⟨Z, Z⟩
      refine f9.no Z ?_
      apply f9.go; exact Z; exact Z; exact Z; intro E hE; (refine AOps.a Z Z ?_); exact AOps.nil ⟨Z, Z⟩
      apply f9.go; exact Z; exact Z; exact Z; intro E hE; (refine AOps.a Z Z ?_); exact AOps.nil ⟨Z, Z⟩
      apply f9.go; exact Z; exact Z; exact Z; intro E hE; (refine S.subFrom ha43 Z Z Z ?_); exact AOps.nil ⟨Z, Z⟩
      refine f9.no Z (f9.no Z (f9.nil))
     refine G7.cons ?_ ?_
     ·refine f9.no Z ?_
      apply f9.go; exact Z; exact Z; exact Z; intro E hE; (refine AOps.a Z Z ?_); exact AOps.nil ⟨Z, Z⟩
      apply f9.go; exact Z; exact Z; exact Z; intro E hE; (refine AOps.a Z Z ?_); exact AOps.nil ⟨Z, Z⟩
      apply f9.go; exact Z; exact Z; exact Z; intro E hE; (refine S.subTo ha36 Z Z Z ?_); exact AOps.nil ⟨Z, Z⟩
      apply f9.eff; exact Z; exact Z; exact Z; exact Z; intro E hE; (refine AOps.newAt 1 (.c (.own 1 0 a37.length)) (vec 1 d6 a37) (.inr ⟨0, Z⟩) Z hE Z Z Z Z (.vec) (.vec) Z Z Z ⟨.dead, .dead, .dead, .dead, .dead, Y⟩ (fun hh => by (refine S.append (f := d6) ha37 Z Z Z Z Z Z .row Z Z Z Z ?_; exact hh)) ?_); exact AOps.nil ⟨Z, Z⟩
      apply f9.go; exact Z; exact Z; exact Z; intro E hE; (refine AOps.a Z Z ?_); exact AOps.nil ⟨Z, Z⟩
      apply f9.eff; exact Z; exact Z; exact Z; exact Z; intro E hE; (refine AOps.newAt 2 (.c (.own 2 0 ([sv].length))) (vec 1 d6 [sv]) (.inl Z) Z hE Z Z Z Z (.vec) (.vec) Z Z Z ⟨.vec, .dead, .dead, .dead, .dead, Y⟩ (fun hh => by (refine S.lit (f := d6) (l := [sv]) (ess := [[row 1 intI sv]]) Z Z Z Z Z Z Z ⟨⟨.inl Z, Y⟩, Y⟩ Z Z Z ?_; exact hh)) ?_); exact AOps.nil ⟨Z, Z⟩
      refine f9.no Z ?_
      apply f9.go; exact Z; exact Z; exact Z; intro E hE; (refine AOps.a Z Z ?_); exact AOps.nil ⟨Z, Z⟩
      apply f9.go; exact Z; exact Z; exact Z; intro E hE; (refine AOps.a Z Z ?_); exact AOps.nil ⟨Z, Z⟩
      apply f9.go; exact Z; exact Z; exact Z; intro E hE; (refine S.subFrom ha43 Z Z Z ?_); exact AOps.nil ⟨Z, Z⟩
      refine f9.no Z (f9.no Z (f9.nil))
     refine G7.cons ?_ ?_
     ·refine f9.no Z (f9.no Z (f9.no Z (f9.no Z (f9.no Z ?_))))
      apply f9.go; exact Z; exact Z; exact Z; intro E hE; (refine AOps.a Z Z ?_); exact AOps.nil ⟨Z, Z⟩
      apply f9.eff; exact Z; exact Z; exact Z; exact Z; intro E hE; (refine AOps.newAt 2 (.c (.own 2 0 ([sv].length))) (vec 1 d6 [sv]) (.inl Z) Z hE Z Z Z Z (.vec) (.vec) Z Z Z ⟨.dead, .vec, .dead, .dead, .dead, Y⟩ (fun hh => by (refine S.lit (f := d6) (l := [sv]) (ess := [[row 1 intI sv]]) Z Z Z Z Z Z Z ⟨⟨.inl Z, Y⟩, Y⟩ Z Z Z ?_; exact hh)) ?_); exact AOps.nil ⟨Z, Z⟩
      refine f9.no Z ?_
      apply f9.go; exact Z; exact Z; exact Z; intro E hE; (refine AOps.a Z Z ?_); exact AOps.nil ⟨Z, Z⟩
      apply f9.go; exact Z; exact Z; exact Z; intro E hE; (refine AOps.a Z Z ?_); exact AOps.nil ⟨Z, Z⟩
      apply f9.go; exact Z; exact Z; exact Z; intro E hE; (refine S.subFrom ha43 Z Z Z ?_); exact AOps.nil ⟨Z, Z⟩
      refine f9.no Z (f9.no Z (f9.nil))
     refine G7.cons ?_ ?_
     ·apply f9.eff; exact Z; exact Z; exact Z; exact Z; intro E hE; (refine AOps.newAt 0 (.c (.own 0 0 (([] : LL).length))) (vec 1 d6 ([] : LL)) (.inl Z) Z hE Z Z Z Z (.vec) (.vec) Z Z Z ⟨.dead, .dead, .vec, .dead, .dead, Y⟩ (fun hh => by (refine S.lit (f := d6) (l := []) (ess := []) Z Z Z Z Z Z Z trivial Z Z Z ?_; exact hh)) ?_); exact AOps.nil ⟨Z, Z⟩
      apply f9.go; exact Z; exact Z; exact Z; intro E hE; (refine AOps.a Z Z ?_); exact AOps.nil ⟨Z, Z⟩
      apply f9.go; exact Z; exact Z; exact Z; intro E hE; (refine AOps.a Z Z ?_); exact AOps.nil ⟨Z, Z⟩
      apply f9.go; exact Z; exact Z; exact Z; intro E hE; (refine S.subTo ha36 Z Z Z ?_); exact AOps.nil ⟨Z, Z⟩
      refine f9.no Z (f9.no Z (f9.no Z (f9.no Z ?_)))
      apply f9.go; exact Z; exact Z; exact Z; intro E hE; (refine AOps.a Z Z ?_); exact AOps.nil ⟨Z, Z⟩
      apply f9.go; exact Z; exact Z; exact Z; intro E hE; (refine AOps.a Z Z ?_); exact AOps.nil ⟨Z, Z⟩
      apply f9.go; exact Z; exact Z; exact Z; intro E hE; (refine S.subFrom ha43 Z Z Z ?_); exact AOps.nil ⟨Z, Z⟩
      refine f9.no Z (f9.no Z (f9.nil))
     refine G7.cons ?_ ?_
     ·refine f9.no Z ?_
      apply f9.go; exact Z; exact Z; exact Z; intro E hE; (refine AOps.a Z Z ?_); exact AOps.nil ⟨Z, Z⟩
      apply f9.go; exact Z; exact Z; exact Z; intro E hE; (refine AOps.a Z Z ?_); exact AOps.nil ⟨Z, Z⟩
      apply f9.go; exact Z; exact Z; exact Z; intro E hE; (refine S.subTo ha36 Z Z Z ?_); exact AOps.nil ⟨Z, Z⟩
      apply f9.eff; exact Z; exact Z; exact Z; exact Z; intro E hE; (refine AOps.newAt 1 (.c (.own 1 0 a37.length)) (vec 1 d6 a37) (.inr ⟨0, Z⟩) Z hE Z Z Z Z (.vec) (.vec) Z Z Z ⟨.dead, .dead, .vec, .dead, .dead, Y⟩ (fun hh => by (refine S.append (f := d6) ha37 Z Z Z Z Z Z .row Z Z Z Z ?_; exact hh)) ?_); exact AOps.nil ⟨Z, Z⟩
      refine f9.no Z (f9.no Z (f9.no Z ?_))
      apply f9.go; exact Z; exact Z; exact Z; intro E hE; (refine AOps.a Z Z ?_); exact AOps.nil ⟨Z, Z⟩
      apply f9.go; exact Z; exact Z; exact Z; intro E hE; (refine AOps.a Z Z ?_); exact AOps.nil ⟨Z, Z⟩
      apply f9.go; exact Z; exact Z; exact Z; intro E hE; (refine S.subFrom ha43 Z Z Z ?_); exact AOps.nil ⟨Z, Z⟩
      refine f9.no Z (f9.no Z (f9.nil))
     refine G7.cons ?_ ?_
     ·refine f9.no Z (f9.no Z (f9.no Z (f9.no Z (f9.no Z (f9.no Z (f9.no Z ?_))))))
      apply f9.eff; exact Z; exact Z; exact Z; exact Z; intro E hE; (refine AOps.newAt 3 (.c (.own 3 0 a40.length)) (vec 1 d6 a40) (.inr ⟨1, Z⟩) Z hE Z Z Z Z (.vec) (.vec) Z Z Z ⟨.dead, .dead, .vec, .dead, .dead, Y⟩ (fun hh => by (refine S.append (f := d6) ha40 Z Z Z Z Z Z (.own Z Z) Z Z Z Z ?_; exact hh)) ?_); exact AOps.nil ⟨Z, Z⟩
      apply f9.go; exact Z; exact Z; exact Z; intro E hE; (refine AOps.a Z Z ?_); exact AOps.nil ⟨Z, Z⟩
      apply f9.go; exact Z; exact Z; exact Z; intro E hE; (refine AOps.a Z Z ?_); exact AOps.nil ⟨Z, Z⟩
      apply f9.go; exact Z; exact Z; exact Z; intro E hE; (refine S.subFrom ha43 Z Z Z ?_); exact AOps.nil ⟨Z, Z⟩
      refine f9.no Z (f9.no Z (f9.nil))
     refine G7.cons ?_ ?_
     ·refine f9.no Z (f9.no Z (f9.no Z (f9.no Z (f9.no Z (f9.no Z (f9.no Z (f9.no Z ?_)))))))
      apply f9.go; exact Z; exact Z; exact Z; intro E hE; (refine AOps.a Z Z ?_); exact AOps.nil ⟨Z, Z⟩
      apply f9.go; exact Z; exact Z; exact Z; intro E hE; (refine AOps.a Z Z ?_); exact AOps.nil ⟨Z, Z⟩
      apply f9.go; exact Z; exact Z; exact Z; intro E hE; (refine S.subFrom ha43 Z Z Z ?_); exact AOps.nil ⟨Z, Z⟩
      apply f9.eff; exact Z; exact Z; exact Z; exact Z; intro E hE; (refine AOps.newAt 4 (.c (.own 4 0 a44.length)) (vec 1 d6 a44) (.inr ⟨3, Z⟩) Z hE Z Z Z Z (.vec) (.vec) Z Z Z ⟨.dead, .dead, .vec, .dead, .dead, Y⟩ (fun hh => by (refine S.append (f := d6) ha44 Z Z Z Z Z Z .row Z Z Z Z ?_; exact hh)) ?_); exact AOps.nil ⟨Z, Z⟩
      refine f9.no Z (f9.nil)
     refine G7.cons ?_ ?_
     ·refine f9.no Z (f9.no Z (f9.no Z (f9.no Z (f9.no Z (f9.no Z (f9.no Z (f9.no Z (f9.no Z (f9.no Z (f9.no Z (f9.no Z ?_)))))))))))
      apply f9.go; exact Z; exact Z; exact Z; intro E hE; (refine AOps.e Z Z ?_); exact AOps.nil ⟨Z, Z⟩
      exact f9.nil
     exact G7.nil
    dsimp only [j6]
    refine b5 (.frzV (id := 4) (l := a44) (env2 := [(4, .c (row 1 d6 a44))]) (σ2 := [.dead, .dead, .one (vec 1 d6 [sv]), .dead, .dead]) Z Z (by exact ⟨⟨_, Z, .inr ⟨_, Z, Z, Z⟩⟩, Y⟩) Z (by exact ⟨trivial, trivial, FrzB.vec, trivial, trivial, Y⟩) (.ret ?_))
    obtain rfl := oi h
    exact Done.ret Z Z
theorem A7 {l : LL} {sv : List Int} {r : Int} (h : B2 l sv = some r) : f8 Tryz.prog 17 [.c (row 1 d6 l), .c (row 1 intI sv)] (.c (int r)) := by
 unfold f8
 refine FnOk.enter (rs := [.t 4]) Tryz.func17 Z Tryz.ntmps17 Tryz.results17 Z ⟨trivial, Y⟩ (by kernel_rfl) Z ?_
 unfold B2 at h
 refine AWP.d (.f (.e Z Z (.nil (b5 (.d (.d (.f (.e Z Z (.nil (b5 (.k ?_)))))))))))
 obtain ⟨oo, ho1, h⟩ := b6 h
 refine AWP.rngS ho1 (fun iv3 _ => ⟨[(0, .c (row 1 d6 l)), (1, .c (row 1 intI sv)), (5, .c (int iv3))], []⟩) (fun o e st => match o with | .inl _ => e = .exit 0 ∧ Sub [] st ⟨[], []⟩ | .inr x => e = .ret ∧ Done [.t 4] (fun t _ => t = .c (int x)) .ret st) ?_ ?_ ?_ ?_
 ·try dsimp only
  exact Sub.env ⟨Z, Z, Z, Y⟩
 ·intro iv3 s hloiv3 hltiv3 _
  try dsimp only
  refine AWP.d (.d (.f (.a Z Z (.a Z Z (S.len Z Z (fun hl8 => .j Z Z Z (.nil (b5 (.q Z hltiv3 (.exit (d8 (d8 ⟨Z, ?_⟩))))))))))))
  exact Sub.env trivial
 ·intro iv3 s o hloiv3 hltiv3 h
  unfold W9 at h
  try dsimp only at h ⊢
  refine AWP.d (.d (.f (.a Z Z (.a Z Z (S.len Z Z (fun hl8 => .j Z Z Z (.nil (b5 (.r Z hltiv3 (.skip (b5 (.d (.k (.d ?_))))))))))))))
  obtain ⟨a14, ha14, a17, ha17, h⟩ := b2 h
  refine AWP.f (.a Z Z (.a Z Z (S.idx ha14 Z Z Z Z (.o Z Z Z Z (.a Z Z (.l Z Z Z Z (ab6 ha17) Z (.nil (b5 (.s Z h (fun hc4 h => ?_) (fun hc4 h => ?_))))))))))
  ·refine AWP.d (.f (.a Z Z (.e Z Z (.nil (b5 (.ret (h9 (e8 ?_))))))))
   obtain rfl := oi h
   refine e8 ⟨_, Z, Z, ?_⟩
   exact Done.ret Z Z
  ·refine AWP.skip (d7 (b5 (.f (.a Z Z (.add Z Z Z (by omega) (.e Z Z (.nil ?_)))))))
   obtain rfl := oi h
   refine b5 ⟨_, Z, ?_⟩
   exact Sub.env ⟨Z, Z, Z, Y⟩
 ·intro e s hq
  rcases oo with u | x
  ·try dsimp only at h hq
   obtain ⟨rfl, hs⟩ := hq
   refine ⟨_, hs, ?_⟩
   refine g8 (b5 (.d (.f (.e Z Z (.nil (b5 (.ret ?_)))))))
   obtain rfl := oi h
   exact Done.ret Z Z
  ·try dsimp only at h hq
   obtain ⟨rfl, hs⟩ := hq
   refine ⟨_, Sub.refl _ _, ?_⟩
   refine h9 (e8 ?_)
   obtain rfl := oi h
   exact hs
theorem P7 {ov : b9} {sv : List Int} {op : Int} {r : LL × (List Int)} (h : H5 ov sv op = some r) : f8 Tryz.prog 41 [.agg (tO ov), .c (row 1 intI sv), .c (int op)] (.tup [.c (row 1 d6 r.1), .c (row 1 intI r.2)]) := by
 unfold f8
 refine FnOk.enter (rs := [.t 6, .t 7]) Tryz.func41 Z Tryz.ntmps41 Tryz.results41 Z ⟨trivial, trivial, Y⟩ (by kernel_rfl) Z ?_
 unfold H5 at h
 refine AWP.d (.f (W.box Z Z Z Z Z Z (.e Z Z (.e Z Z (.nil (b5 (.d (.f (.e Z Z (.nil (b5 (.d ?_))))))))))))
 obtain ⟨a17, ha17, h⟩ := b6 h
 refine AWP.f (W.fieldAddr Z Z Z Z (.m Z Z Z Z Z Z (.a Z Z (S.idx ha17 Z Z Z Z (W.fieldAddrI Z Z Z Z (.o Z Z Z Z (.e Z Z (.nil (b5 (.d (.d (.f (.e Z Z (.nil (b5 (.k ?_))))))))))))))))
 obtain ⟨states4, ho1, h⟩ := b6 h
 refine AWP.forS ho1 (fun kv5 states4 => ⟨[(1, .c (row 1 intI sv)), (3, .c (.ptr 0 0 0)), (8, .c (row 1 d6 states4)), (9, .c (row 3 p7 a17.outcomes)), (10, .c (int kv5))], [.one (.cells 4 [(tO ov)])]⟩) (fun states4 e st => e = .exit 0 ∧ Sub [] st ⟨[(1, .c (row 1 intI sv)), (3, .c (.ptr 0 0 0)), (8, .c (row 1 d6 states4)), (9, .c (row 3 p7 a17.outcomes))], [.one (.cells 4 [(tO ov)])]⟩) ?_ ?_ ?_ ?_
 ·try dsimp only
  exact (Sub.nilrow 1 8 Z).trans (Sub.env ⟨Z, Z, Z, Z, Z, Y⟩)
 ·intro kv5 states4 hlokv5 hltkv5 _
  try dsimp only
  refine AWP.d (.d (.f (.a Z Z (.a Z Z (S.len Z Z (fun hl22 => .j Z Z Z (.nil (b5 (.q Z hltkv5 (.exit (d8 (d8 ⟨Z, ?_⟩))))))))))))
  exact Sub.env ⟨Z, Z, Z, Z, Y⟩
 ·intro kv5 states4 o hlokv5 hltkv5 h
  unfold X4 at h
  try dsimp only at h ⊢
  refine AWP.d (.d (.f (.a Z Z (.a Z Z (S.len Z Z (fun hl22 => .j Z Z Z (.nil (b5 (.r Z hltkv5 (.skip (b5 (.d (.k ?_)))))))))))))
  obtain ⟨a31, ha31, a33, ha33, a34, ha34, h⟩ := b3 h
  refine AWP.drawI mixed Z ?_
  refine i5.consF Z (fun E => AOps.a Z Z (.nil ⟨Z, Z⟩)) Z (.consF Z (fun E => W.loadAgg Z Z Z Z Z Z Z (.nil ⟨Z, Z⟩)) Z (.consF Z (fun E => AOps.a Z Z (.nil ⟨Z, Z⟩)) Z (.consF Z (fun E => AOps.a Z Z (.nil ⟨Z, Z⟩)) Z (.consF Z (fun E => AOps.a Z Z (.nil ⟨Z, Z⟩)) Z (.consF Z (fun E => S.idx ha31 Z Z Z Z (.nil ⟨Z, Z⟩)) Z (.consF Z (fun E => W.loadIAgg Z Z Z Z Z (.nil ⟨Z, Z⟩)) Z (.consF Z (fun E => AOps.l Z Z Z Z (m5.data (aj0 ha33)) Z (.nil ⟨Z, Z⟩)) Z (.consF Z (fun E => AOps.l Z Z Z Z (ac7 ha34) Z (.nil ⟨Z, Z⟩)) Z (.consF Z (fun E => AOps.e Z Z (.nil ⟨Z, Z⟩)) Z ?_)))))))))
  refine i5.done ?_
  dsimp only [j6]
  refine d7 (b5 (.f (.a Z Z (.add Z Z Z (by omega) (.e Z Z (.nil ?_))))))
  obtain rfl := oi h
  refine b5 (Sub.env ⟨Z, Z, Z, Z, Z, Y⟩)
 ·intro e s hq
  obtain ⟨rfl, hs⟩ := hq
  refine ⟨_, hs, ?_⟩
  refine g8 (b5 (.d ?_))
  obtain ⟨a37, ha37, h⟩ := b6 h
  refine AWP.f (.a Z Z (S.len Z Z (fun hl36 => S.make (f := intI) ha37 (.val .nil) Z Z Z Z Z Z (.e Z Z (.nil (b5 (.d (.d (.f (.e Z Z (.nil (b5 (.k ?_)))))))))))))
  obtain ⟨c6, ho2, h⟩ := b6 h
  refine AWP.forS ho2 (fun kv7 c6 => ⟨[(1, .c (row 1 intI sv)), (3, .c (.ptr 0 0 0)), (8, .c (row 1 d6 states4)), (9, .c (row 3 p7 a17.outcomes)), (11, .c (.own 1 0 c6.length)), (12, .c (int kv7))], [.one (.cells 4 [(tO ov)]), .one (vec 1 intI c6)]⟩) (fun c6 e st => e = .exit 2 ∧ Sub [] st ⟨[(8, .c (row 1 d6 states4)), (11, .c (.own 1 0 c6.length))], [.one (.cells 4 [(tO ov)]), .one (vec 1 intI c6)]⟩) ?_ ?_ ?_ ?_
  ·try dsimp only
   exact Sub.env ⟨Z, Z, Z, Z, Z, Z, Y⟩
  ·intro kv7 c6 hlokv7 hltkv7 _
   try dsimp only
   refine AWP.d (.d (.f (.a Z Z (.a Z Z (S.len Z Z (fun hl40 => .j Z Z Z (.nil (b5 (.q Z hltkv7 (.exit (d8 (d8 ⟨Z, ?_⟩))))))))))))
   exact Sub.env ⟨Z, Z, Y⟩
  ·intro kv7 c6 o hlokv7 hltkv7 h
   unfold W8 at h
   try dsimp only at h ⊢
   refine AWP.d (.d (.f (.a Z Z (.a Z Z (S.len Z Z (fun hl40 => .j Z Z Z (.nil (b5 (.r Z hltkv7 (.skip (b5 (.d (.k (.d ?_))))))))))))))
   obtain ⟨a49, ha49, a51, ha51, a52, ha52, h⟩ := b3 h
   refine AWP.drawEI [7] mixed Z Z Z ?_
   refine g9.consN Z Z (fun E => AOps.a Z Z (.nil ⟨Z, Z⟩)) Z (.consN Z Z (fun E => W.loadAgg Z Z Z Z Z Z Z (.nil ⟨Z, Z⟩)) Z (.consN Z Z (fun E => AOps.a Z Z (.nil ⟨Z, Z⟩)) Z (.consN Z Z (fun E => AOps.a Z Z (.nil ⟨Z, Z⟩)) Z (.consN Z Z (fun E => AOps.a Z Z (.nil ⟨Z, Z⟩)) Z (.consN Z Z (fun E => S.idx ha49 Z Z Z Z (.nil ⟨Z, Z⟩)) Z (.consN Z Z (fun E => W.loadIAgg Z Z Z Z Z (.nil ⟨Z, Z⟩)) Z ?_))))))
   apply g9.consE; exact Z; exact Z; intro E
   refine S.fresh Z Z Z Z (aj0 ha51) Z Z (.nil ⟨Z, Z⟩)
   exact Z
   exact Z
   refine g9.consN Z Z (fun E => AOps.y Z Z (.cons (.c .imm) (.cons (.c (.own Z Z)) .nil)) Z (A7 ha52) Z (.nil ⟨Z, Z⟩)) Z (.consN Z Z (fun E => AOps.e Z Z (.nil ⟨Z, Z⟩)) Z ?_)
   refine g9.done Z ?_ ?_
   ·refine e9.cons Z Z ?_ ?_
    refine b8.go Z Z (fun E => AOps.a Z Z (AOps.nil ⟨Z, Z⟩)) ?_
    refine b8.go Z Z (fun E => AOps.a Z Z (AOps.nil ⟨Z, Z⟩)) ?_
    exact b8.nil
    refine e9.cons Z Z ?_ ?_
    refine b8.go Z Z (fun E => W.loadAgg Z Z Z Z Z Z Z (AOps.nil ⟨Z, Z⟩)) ?_
    refine b8.skip Z (b8.nil)
    refine e9.cons Z Z ?_ ?_
    refine b8.go Z Z (fun E => AOps.a Z Z (AOps.nil ⟨Z, Z⟩)) ?_
    refine b8.skip Z (b8.nil)
    refine e9.cons Z Z ?_ ?_
    refine b8.go Z Z (fun E => AOps.a Z Z (AOps.nil ⟨Z, Z⟩)) ?_
    refine b8.skip Z (b8.nil)
    refine e9.cons Z Z ?_ ?_
    refine b8.go Z Z (fun E => AOps.a Z Z (AOps.nil ⟨Z, Z⟩)) ?_
    refine b8.skip Z (b8.nil)
    refine e9.cons Z Z ?_ ?_
    refine b8.go Z Z (fun E => S.idx ha49 Z Z Z Z (AOps.nil ⟨Z, Z⟩)) ?_
    refine b8.skip Z (b8.nil)
    refine e9.cons Z Z ?_ ?_
    refine b8.go Z Z (fun E => W.loadIAgg Z Z Z Z Z (AOps.nil ⟨Z, Z⟩)) ?_
    refine b8.skip Z (b8.nil)
    refine e9.skip Z ?_
    refine e9.cons Z Z ?_ ?_
    refine b8.skip Z ?_
    refine b8.go Z Z (fun E => AOps.y Z Z (.cons (.c .imm) (.cons (.c (.own Z Z)) .nil)) Z (A7 ha52) Z (AOps.nil ⟨Z, Z⟩)) ?_
    exact b8.nil
    refine e9.cons Z Z ?_ ?_
    refine b8.skip Z ?_
    refine b8.go Z Z (fun E => AOps.e Z Z (AOps.nil ⟨Z, Z⟩)) ?_
    exact b8.nil
    exact e9.nil
   dsimp only [j6]
   refine b5 ?_
   obtain ⟨a57, ha57, a61, ha61, a65, ha65, h⟩ := b3 h
   refine AWP.drawEI [13] mixed Z Z Z ?_
   refine g9.consN Z Z (fun E => AOps.a Z Z (.nil ⟨Z, Z⟩)) Z (.consN Z Z (fun E => AOps.a Z Z (.nil ⟨Z, Z⟩)) Z (.consN Z Z (fun E => AOps.a Z Z (.nil ⟨Z, Z⟩)) Z (.consN Z Z (fun E => AOps.a Z Z (.nil ⟨Z, Z⟩)) Z (.consN Z Z (fun E => S.idxO ha57 Z Z Z Z Z (.nil ⟨Z, Z⟩)) Z (.consN Z Z (fun E => S.loadO ha57 Z Z Z Z Z (.nil ⟨Z, Z⟩)) Z (.consN Z Z (fun E => AOps.a Z Z (.nil ⟨Z, Z⟩)) Z (.consN Z Z (fun E => AOps.a Z Z (.nil ⟨Z, Z⟩)) Z (.consN Z Z (fun E => S.idx ha61 Z Z Z Z (.nil ⟨Z, Z⟩)) Z (.consN Z Z (fun E => W.fieldAddrI Z Z Z Z (.nil ⟨Z, Z⟩)) Z (.consN Z Z (fun E => AOps.o Z Z Z Z (.nil ⟨Z, Z⟩)) Z (.consN Z Z (fun E => S.add Z Z Z (.nil ⟨Z, Z⟩)) Z (.consN Z Z (fun E => S.idxO ha65 Z Z Z Z Z (.nil ⟨Z, Z⟩)) Z ?_))))))))))))
   apply g9.consE (v := .undef); exact Z; exact Z; intro E
   refine S.storeO1 (f := intI) (a' := w64 (a57 + a61.weight)) (x5 ha65) (fun _ => ⟨_, Z⟩) Z Z Z Z Z ?_
   exact AOps.nil ⟨Z, Z⟩
   exact Z
   exact Z
   refine g9.done Z ?_ ?_
   ·refine e9.cons Z Z ?_ ?_
    refine b8.go Z Z (fun E => AOps.a Z Z (AOps.nil ⟨Z, Z⟩)) ?_
    refine b8.skip Z (b8.nil)
    refine e9.cons Z Z ?_ ?_
    refine b8.go Z Z (fun E => AOps.a Z Z (AOps.nil ⟨Z, Z⟩)) ?_
    refine b8.skip Z (b8.nil)
    refine e9.cons Z Z ?_ ?_
    refine b8.go Z Z (fun E => AOps.a Z Z (AOps.nil ⟨Z, Z⟩)) ?_
    refine b8.skip Z (b8.nil)
    refine e9.cons Z Z ?_ ?_
    refine b8.go Z Z (fun E => AOps.a Z Z (AOps.nil ⟨Z, Z⟩)) ?_
    refine b8.skip Z (b8.nil)
    refine e9.cons Z Z ?_ ?_
    refine b8.go Z Z (fun E => S.idxO ha57 Z Z Z Z Z (AOps.nil ⟨Z, Z⟩)) ?_
    refine b8.skip Z (b8.nil)
    refine e9.cons Z Z ?_ ?_
    refine b8.go Z Z (fun E => S.loadO ha57 Z Z Z Z Z (AOps.nil ⟨Z, Z⟩)) ?_
    refine b8.skip Z (b8.nil)
    refine e9.cons Z Z ?_ ?_
    refine b8.go Z Z (fun E => AOps.a Z Z (AOps.nil ⟨Z, Z⟩)) ?_
    refine b8.skip Z (b8.nil)
    refine e9.cons Z Z ?_ ?_
    refine b8.go Z Z (fun E => AOps.a Z Z (AOps.nil ⟨Z, Z⟩)) ?_
    refine b8.skip Z (b8.nil)
    refine e9.cons Z Z ?_ ?_
    refine b8.go Z Z (fun E => S.idx ha61 Z Z Z Z (AOps.nil ⟨Z, Z⟩)) ?_
    refine b8.skip Z (b8.nil)
    refine e9.cons Z Z ?_ ?_
    refine b8.go Z Z (fun E => W.fieldAddrI Z Z Z Z (AOps.nil ⟨Z, Z⟩)) ?_
    refine b8.skip Z (b8.nil)
    refine e9.cons Z Z ?_ ?_
    refine b8.go Z Z (fun E => AOps.o Z Z Z Z (AOps.nil ⟨Z, Z⟩)) ?_
    refine b8.skip Z (b8.nil)
    refine e9.cons Z Z ?_ ?_
    refine b8.go Z Z (fun E => S.add Z Z Z (AOps.nil ⟨Z, Z⟩)) ?_
    refine b8.skip Z (b8.nil)
    refine e9.cons Z Z ?_ ?_
    refine b8.go Z Z (fun E => S.idxO ha65 Z Z Z Z Z (AOps.nil ⟨Z, Z⟩)) ?_
    refine b8.skip Z (b8.nil)
    refine e9.skip Z (e9.nil)
   dsimp only [j6]
   refine d7 (b5 (.f (.a Z Z (.add Z Z Z (by omega) (.e Z Z (.nil ?_))))))
   obtain rfl := oi h
   refine b5 (Sub.cut ⟨Z, Z, Z, Z, (x9 (by first | rfl | simp only [List.length_set])), Z, Y⟩ Z ⟨.one Z, .vec, Y⟩ Z)
  ·intro e s hq
   obtain ⟨rfl, hs⟩ := hq
   refine ⟨_, hs, ?_⟩
   refine g8 (b5 (.d (.f (.a Z Z (.a Z Z (.e Z Z (.e Z Z (.nil (b5 (.frzV (id := 1) (l := c6) (env2 := [(6, .c (row 1 d6 states4)), (7, .c (row 1 intI c6))]) (σ2 := [.one (.cells 4 [(tO ov)]), .dead]) Z Z (by exact ⟨⟨_, Z, .inl ⟨Z, Z⟩⟩, ⟨_, Z, .inr ⟨_, Z, Z, Z⟩⟩, Y⟩) Z (by exact ⟨⟨Z, .inl ⟨Z, Z⟩, .inl ⟨Z, Z⟩, .inl ⟨Z, Z⟩, .inl ⟨Z, Z⟩, Y⟩, trivial, Y⟩) (.ret ?_)))))))))))
   obtain rfl := oi h
   exact Done.ret Z Z
theorem ref8_Reached_ok {ov : b9} {most : Int} {r : LL × Bool} (h : u9 ov most = some r) : f8 Tryz.prog 15 [.agg (tO ov), .c (int most)] (.tup [.c (row 1 d6 r.1), .c (bool r.2)]) := by
 unfold f8
 refine FnOk.enter (rs := [.t 4, .t 5]) Tryz.func15 Z Tryz.ntmps15 Tryz.results15 Z ⟨trivial, trivial, Y⟩ (by kernel_rfl) Z ?_
 unfold u9 at h
 refine AWP.d (.f (W.box Z Z Z Z Z Z (.e Z Z (.e Z Z (.nil (b5 (.d (.f (W.fieldAddr Z Z Z Z (.m Z Z Z Z Z Z (S.lit (f := d6) (l := [ov.init]) (ess := [[row 1 intI ov.init]]) Z Z Z Z Z Z Z ⟨⟨.inl Z, Y⟩, Y⟩ Z Z Z (.e Z Z (.nil (b5 (.d (.f (.e Z Z (.nil (b5 (.d ?_))))))))))))))))))))
 obtain ⟨a21, ha21, a23, ha23, h⟩ := b2 h
 refine AWP.f (.a Z Z (W.fieldAddr Z Z Z Z (.m Z Z Z Z Z Z (.l Z Z Z Z (af7 ha21) Z (S.lit (f := intI) (l := [a21]) (ess := [[int a21]]) Z Z Z Z Z Z Z ⟨⟨.inl Z, Y⟩, Y⟩ Z Z Z (S.appendNil (f := intI) ha23 Z Z Z Z (.own Z Z) Z Z Z (.e Z Z (.nil (b5 (.d (.d (.f (.e Z Z (.nil (b5 (.k ?_))))))))))))))))
 obtain ⟨oo, ho1, h⟩ := b6 h
 refine AWP.loopS ho1 (fun (c3, c4, iv5) => ⟨[(1, .c (int most)), (2, .c (.ptr 0 0 0)), (6, .c (.own 1 0 c3.length)), (7, .c (.own 3 0 c4.length)), (8, .c (int iv5))], [.one (.cells 4 [(tO ov)]), .one (vec 1 d6 c3), .dead, .one (vec 1 intI c4)]⟩) (fun o e st => match o with | .inl c6 => e = .exit 0 ∧ Sub [] st ⟨[(6, .c (.own 1 0 c6.length))], [.dead, .one (vec 1 d6 c6)]⟩ | .inr x => e = .ret ∧ Done [.t 4, .t 5] (fun t _ => t = .tup [.c (row 1 d6 x.1), .c (bool x.2)]) .ret st) ?_ ?_ ?_
 ·try dsimp only
  exact Sub.cut ⟨Z, Z, Z, Z, Z, Y⟩ Z ⟨.one Z, .vec, .dead, .vec, Y⟩ Z
 ·intro s o h
  obtain ⟨c3, c4, iv5⟩ := s
  unfold n9 at h
  try dsimp only at h ⊢
  refine AWP.d (.d (.f (.a Z Z (.a Z Z (S.lenO Z Z Z (fun hl26 => .j Z Z Z (.nil (b5 (.ite Z h (fun hc7 h => ?_) (fun hc7 h => ?_))))))))))
  ·refine AWP.skip (b5 (.d (.k (.d (.f (.e Z Z (.nil (b5 (.k ?_)))))))))
   obtain ⟨oo, ho2, h⟩ := b6 h
   refine AWP.rngS ho2 (fun op10 (c8, c9) => ⟨[(1, .c (int most)), (2, .c (.ptr 0 0 0)), (6, .c (.own 1 0 c8.length)), (7, .c (.own 3 0 c9.length)), (8, .c (int iv5)), (9, .c (int op10))], [.one (.cells 4 [(tO ov)]), .one (vec 1 d6 c8), .dead, .one (vec 1 intI c9)]⟩) (fun o e st => match o with | .inl (c8, c9) => e = .exit 2 ∧ Sub [] st ⟨[(1, .c (int most)), (2, .c (.ptr 0 0 0)), (6, .c (.own 1 0 c8.length)), (7, .c (.own 3 0 c9.length)), (8, .c (int iv5))], [.one (.cells 4 [(tO ov)]), .one (vec 1 d6 c8), .dead, .one (vec 1 intI c9)]⟩ | .inr x => e = .ret ∧ Done [.t 4, .t 5] (fun t _ => t = .tup [.c (row 1 d6 x.1), .c (bool x.2)]) .ret st) ?_ ?_ ?_ ?_
   ·try dsimp only
    exact Sub.env ⟨Z, Z, Z, Z, Z, Z, Y⟩
   ·intro op10 s hloop10 hltop10 _
    obtain ⟨c8, c9⟩ := s
    try dsimp only
    refine AWP.d (.d (.f (.a Z Z (W.fieldAddr Z Z Z Z (.m Z Z Z Z Z Z (S.len Z Z (fun hl33 => .j Z Z Z (.nil (b5 (.q Z hltop10 (.exit (d8 (d8 ⟨Z, ?_⟩)))))))))))))
    exact Sub.env ⟨Z, Z, Z, Z, Z, Y⟩
   ·intro op10 s o hloop10 hltop10 h
    obtain ⟨c8, c9⟩ := s
    unfold m8 at h
    try dsimp only at h ⊢
    refine AWP.d (.d (.f (.a Z Z (W.fieldAddr Z Z Z Z (.m Z Z Z Z Z Z (S.len Z Z (fun hl33 => .j Z Z Z (.nil (b5 (.r Z hltop10 (.skip (b5 (.seqF (L7) o (fun (c11, c12) => ⟨[(1, .c (int most)), (2, .c (.ptr 0 0 0)), (6, .c (.own 1 0 c11.length)), (7, .c (.own 3 0 c12.length)), (8, .c (int iv5)), (9, .c (int op10))], [.one (.cells 4 [(tO ov)]), .one (vec 1 d6 c11), .dead, .one (vec 1 intI c12)]⟩) (fun x h => ?_) ?_)))))))))))))
    ·obtain ⟨c11, c12⟩ := x
     unfold L7 at h
     try dsimp only at h ⊢
     refine AWP.f (.a Z Z (.add Z Z Z (by omega) (.e Z Z (.nil ?_))))
     obtain rfl := oi h
     refine b5 ⟨_, Z, ?_⟩
     exact Sub.env ⟨Z, Z, Z, Z, Z, Z, Y⟩
    ·refine AWP.k (.d (.d ?_))
     obtain ⟨a40, ha40, a43, ha43, h⟩ := b2 h
     refine AWP.drawI mixed Z ?_
     refine i5.consF Z (fun E => W.loadAgg Z Z Z Z Z Z Z (.nil ⟨Z, Z⟩)) Z (.consF Z (fun E => AOps.a Z Z (.nil ⟨Z, Z⟩)) Z (.consF Z (fun E => AOps.a Z Z (.nil ⟨Z, Z⟩)) Z (.consF Z (fun E => S.idxO ha40 Z Z Z Z Z (.nil ⟨Z, Z⟩)) Z (.consF Z (fun E => S.loadO ha40 Z Z Z Z Z (.nil ⟨Z, Z⟩)) Z (.consF Z (fun E => AOps.a Z Z (.nil ⟨Z, Z⟩)) Z (.consF Z (fun E => AOps.l Z Z Z Z (s6 ha43) Z (.nil ⟨Z, Z⟩)) Z (.consF Z (fun E => AOps.u Z Z (.nil ⟨Z, Z⟩)) Z ?_)))))))
     refine i5.done ?_
     dsimp only [j6]
     refine b5 (.s Z h (fun hc13 h => ?_) (fun hc13 h => ?_))
     ·refine AWP.exit (d8 (g8 (b5 ⟨_, h, ?_⟩)))
      exact Sub.env ⟨Z, Z, Z, Z, Z, Z, Y⟩
     ·refine AWP.skip (b5 (.d ?_))
      obtain ⟨a49, ha49, a52, ha52, h⟩ := b2 h
      refine AWP.drawI mixed Z ?_
      refine i5.consF Z (fun E => W.loadAgg Z Z Z Z Z Z Z (.nil ⟨Z, Z⟩)) Z (.consF Z (fun E => AOps.a Z Z (.nil ⟨Z, Z⟩)) Z (.consF Z (fun E => AOps.a Z Z (.nil ⟨Z, Z⟩)) Z (.consF Z (fun E => S.idxO ha49 Z Z Z Z Z (.nil ⟨Z, Z⟩)) Z (.consF Z (fun E => S.loadO ha49 Z Z Z Z Z (.nil ⟨Z, Z⟩)) Z (.consF Z (fun E => AOps.a Z Z (.nil ⟨Z, Z⟩)) Z (.consF Z (fun E => AOps.l Z Z Z Z (P7 ha52) Z (.nil ⟨Z, Z⟩)) Z (.consF Z (fun E => AOps.a Z Z (.nil ⟨Z, Z⟩)) Z (.consF Z (fun E => AOps.w Z Z Z (.nil ⟨Z, Z⟩)) Z (.consF Z (fun E => AOps.w Z Z Z (.nil ⟨Z, Z⟩)) Z (.consF Z (fun E => AOps.e Z Z (.nil ⟨Z, Z⟩)) Z (.consF Z (fun E => AOps.e Z Z (.nil ⟨Z, Z⟩)) Z ?_)))))))))))
      refine i5.done ?_
      dsimp only [j6]
      refine b5 (.d (.f (.e Z Z (.nil (b5 (.k ?_))))))
      obtain ⟨oo, ho4, h⟩ := b6 h
      refine AWP.rngS ho4 (fun kv16 (c14, c15) => ⟨[(1, .c (int most)), (2, .c (.ptr 0 0 0)), (6, .c (.own 1 0 c14.length)), (7, .c (.own 3 0 c15.length)), (8, .c (int iv5)), (9, .c (int op10)), (10, .c (row 1 d6 a52.1)), (12, .c (int kv16))], [.one (.cells 4 [(tO ov)]), .one (vec 1 d6 c14), .dead, .one (vec 1 intI c15)]⟩) (fun o e st => match o with | .inl (c14, c15) => e = .exit 4 ∧ Sub [] st ⟨[(1, .c (int most)), (2, .c (.ptr 0 0 0)), (6, .c (.own 1 0 c14.length)), (7, .c (.own 3 0 c15.length)), (8, .c (int iv5)), (9, .c (int op10))], [.one (.cells 4 [(tO ov)]), .one (vec 1 d6 c14), .dead, .one (vec 1 intI c15)]⟩ | .inr x => e = .ret ∧ Done [.t 4, .t 5] (fun t _ => t = .tup [.c (row 1 d6 x.1), .c (bool x.2)]) .ret st) ?_ ?_ ?_ ?_
      ·try dsimp only
       exact Sub.env ⟨Z, Z, Z, Z, Z, Z, Z, Z, Y⟩
      ·intro kv16 s hlokv16 hltkv16 _
       obtain ⟨c14, c15⟩ := s
       try dsimp only
       refine AWP.d (.d (.f (.a Z Z (.a Z Z (S.len Z Z (fun hl57 => .j Z Z Z (.nil (b5 (.q Z hltkv16 (.exit (d8 (d8 ⟨Z, ?_⟩))))))))))))
       exact Sub.env ⟨Z, Z, Z, Z, Z, Z, Y⟩
      ·intro kv16 s o hlokv16 hltkv16 h
       obtain ⟨c14, c15⟩ := s
       unfold n8 at h
       try dsimp only at h ⊢
       refine AWP.d (.d (.f (.a Z Z (.a Z Z (S.len Z Z (fun hl57 => .j Z Z Z (.nil (b5 (.r Z hltkv16 (.skip (b5 (.seqF (K6) o (fun (c17, c18) => ⟨[(1, .c (int most)), (2, .c (.ptr 0 0 0)), (6, .c (.own 1 0 c17.length)), (7, .c (.own 3 0 c18.length)), (8, .c (int iv5)), (9, .c (int op10)), (10, .c (row 1 d6 a52.1)), (12, .c (int kv16))], [.one (.cells 4 [(tO ov)]), .one (vec 1 d6 c17), .dead, .one (vec 1 intI c18)]⟩) (fun x h => ?_) ?_))))))))))))
       ·obtain ⟨c17, c18⟩ := x
        unfold K6 at h
        try dsimp only at h ⊢
        refine AWP.f (.a Z Z (.add Z Z Z (by omega) (.e Z Z (.nil ?_))))
        obtain rfl := oi h
        refine b5 ⟨_, Z, ?_⟩
        exact Sub.env ⟨Z, Z, Z, Z, Z, Z, Z, Z, Y⟩
       ·refine AWP.k (.d (.d ?_))
        obtain ⟨a64, ha64, a66, ha66, a67, ha67, h⟩ := b3 h
        refine AWP.f (.a Z Z (.a Z Z (.a Z Z (S.idx ha64 Z Z Z Z (.o Z Z Z Z (.l Z Z Z Z (af7 ha66) Z (.y Z Z (.cons (.c (.own Z Z)) (.cons (.c .imm) .nil)) Z (F5 ha67) Z (.nil (b5 (.s Z h (fun hc19 h => ?_) (fun hc19 h => ?_)))))))))))
        ·refine AWP.exit (d8 (g8 (b5 ⟨_, h, ?_⟩)))
         exact Sub.env ⟨Z, Z, Z, Z, Z, Z, Z, Z, Y⟩
        ·refine AWP.skip (b5 (.d (.d (.f (.a Z Z (S.lenO Z Z Z (fun hl69 => .a Z Z (.geq Z Z Z (.nil (b5 (.ite Z h (fun hc20 h => ?_) (fun hc20 h => ?_))))))))))))
         ·refine AWP.d (.f (.e Z Z (.e Z Z (.nil (b5 (.nilrow 1 4 Z (.ret (e8 (h9 (e8 ?_))))))))))
          obtain rfl := oi h
          refine e8 ⟨_, Z, Z, ?_⟩
          exact Done.ret Z Z
         ·refine AWP.skip (b5 (.d ?_))
          obtain ⟨a75, ha75, a78, ha78, h⟩ := b2 h
          refine AWP.f (.a Z Z (.a Z Z (.a Z Z (S.idx ha75 Z Z Z Z (.o Z Z Z Z (S.lit (f := d6) (l := [a75]) (ess := [[row 1 intI a75]]) Z Z Z Z Z Z Z ⟨⟨.inl Z, Y⟩, Y⟩ Z Z Z (S.append (f := d6) ha78 Z Z Z Z Z Z (.own Z Z) Z Z Z Z (.e Z Z (.nil (b5 (.a (env' := [(1, .c (int most)), (2, .c (.ptr 0 0 0)), (6, .c (.own 1 0 a78.length)), (7, .c (.own 3 0 c15.length)), (8, .c (int iv5)), (9, .c (int op10)), (10, .c (row 1 d6 a52.1)), (12, .c (int kv16))]) (σ' := [.one (.cells 4 [(tO ov)]), .one (vec 1 d6 a78), .dead, .one (vec 1 intI c15), .one (vec 1 d6 [a75])]) 1 5 Z Z Z ⟨Z, Z, Z, Z, Z, Z, Z, Z, Y⟩ Z ⟨⟨Z, Z⟩, ⟨Blk.im_ok _ _ _, l8 Z⟩, trivial, ⟨Blk.im_ok _ _ _, l8 Z⟩, ⟨Blk.im_ok _ _ _, l8 Z⟩, Y⟩ ?_)))))))))))
          obtain ⟨a82, ha82, a84, ha84, a86, ha86, h⟩ := b3 h
          refine AWP.f (.a Z Z (.a Z Z (.a Z Z (S.idx ha82 Z Z Z Z (.o Z Z Z Z (.l Z Z Z Z (af7 ha84) Z (S.lit (f := intI) (l := [a84]) (ess := [[int a84]]) Z Z Z Z Z Z Z ⟨⟨.inl Z, Y⟩, Y⟩ Z Z Z (S.append (f := intI) ha86 Z Z Z Z Z Z (.own Z Z) Z Z Z Z (.e Z Z (.nil (d7 (b5 ⟨_, h, ?_⟩))))))))))))
          exact (Sub.move (env' := [(1, .c (int most)), (2, .c (.ptr 0 0 0)), (6, .c (.own 1 0 a78.length)), (7, .c (.own 3 0 a86.length)), (8, .c (int iv5)), (9, .c (int op10)), (10, .c (row 1 d6 a52.1)), (12, .c (int kv16))]) (σ' := [.one (.cells 4 [(tO ov)]), .one (vec 1 d6 a78), .dead, .one (vec 1 intI a86), .one (vec 1 d6 [a75]), .one (vec 1 intI [a84])]) 3 6 Z Z Z ⟨Z, Z, Z, Z, Z, Z, Z, Z, Y⟩ Z ⟨⟨Z, Z⟩, ⟨Blk.im_ok _ _ _, l8 Z⟩, trivial, ⟨Blk.im_ok _ _ _, l8 Z⟩, ⟨Blk.im_ok _ _ _, l8 Z⟩, ⟨Blk.im_ok _ _ _, l8 Z⟩, Y⟩).trans (Sub.cut ⟨Z, Z, Z, Z, Z, Z, Z, Z, Y⟩ Z ⟨.one Z, .vec, .dead, .vec, Y⟩ Z)
      ·intro e s hq
       rcases oo with ⟨c14, c15⟩ | x
       ·try dsimp only at h hq
        obtain ⟨rfl, hs⟩ := hq
        refine ⟨_, hs, ?_⟩
        refine g8 (d7 (b5 ⟨_, h, ?_⟩))
        exact Sub.env ⟨Z, Z, Z, Z, Z, Z, Y⟩
       ·try dsimp only at h hq
        obtain ⟨rfl, hs⟩ := hq
        refine ⟨_, Sub.refl _ _, ?_⟩
        refine h9 (h9 (e8 ?_))
        obtain rfl := oi h
        refine e8 ⟨_, Z, Z, ?_⟩
        exact hs
   ·intro e s hq
    rcases oo with ⟨c8, c9⟩ | x
    ·try dsimp only at h hq
     obtain ⟨rfl, hs⟩ := hq
     refine ⟨_, hs, ?_⟩
     refine g8 (d7 (b5 (.f (.a Z Z (S.add Z Z Z (.e Z Z (.nil ?_)))))))
     obtain rfl := oi h
     refine b5 ⟨_, Z, ?_⟩
     exact Sub.env ⟨Z, Z, Z, Z, Z, Y⟩
    ·try dsimp only at h hq
     obtain ⟨rfl, hs⟩ := hq
     refine ⟨_, Sub.refl _ _, ?_⟩
     refine h9 (h9 (e8 ?_))
     obtain rfl := oi h
     refine e8 ⟨_, Z, Z, ?_⟩
     exact hs
  ·refine AWP.exit (d8 ?_)
   obtain rfl := oi h
   refine d8 ⟨_, Z, Z, ?_⟩
   exact Sub.cut ⟨Z, Y⟩ Z ⟨.dead, .vec, Y⟩ Z
 ·intro e s hq
  rcases oo with c6 | x
  ·try dsimp only at h hq
   obtain ⟨rfl, hs⟩ := hq
   refine ⟨_, hs, ?_⟩
   refine g8 (b5 (.d (.f (.e Z Z (.nil (b5 (.d (.d (.f (.e Z Z (.nil (b5 (.k ?_)))))))))))))
   obtain ⟨out21, ho6, h⟩ := b6 h
   refine AWP.forS ho6 (fun iv22 out21 => ⟨[(6, .c (.own 1 0 c6.length)), (13, .c (row 1 d6 out21)), (14, .c (int iv22))], [.dead, .one (vec 1 d6 c6)]⟩) (fun out21 e st => e = .exit 6 ∧ Sub [] st ⟨[(13, .c (row 1 d6 out21))], [.dead, .one (vec 1 d6 c6)]⟩) ?_ ?_ ?_ ?_
   ·try dsimp only
    exact (Sub.nilrow 1 13 Z).trans (Sub.env ⟨Z, Z, Z, Y⟩)
   ·intro iv22 out21 hloiv22 hltiv22 _
    try dsimp only
    refine AWP.d (.d (.f (.a Z Z (.a Z Z (S.lenO Z Z Z (fun hl89 => .j Z Z Z (.nil (b5 (.q Z hltiv22 (.exit (d8 (d8 ⟨Z, ?_⟩))))))))))))
    exact Sub.env ⟨Z, Y⟩
   ·intro iv22 out21 o hloiv22 hltiv22 h
    unfold K3 at h
    try dsimp only at h ⊢
    refine AWP.d (.d (.f (.a Z Z (.a Z Z (S.lenO Z Z Z (fun hl89 => .j Z Z Z (.nil (b5 (.r Z hltiv22 (.skip (b5 (.d (.k ?_)))))))))))))
    obtain ⟨a96, ha96, a98, ha98, h⟩ := b2 h
    refine AWP.f (.a Z Z (.a Z Z (.a Z Z (S.idxO ha96 Z Z Z Z Z (S.loadO ha96 Z Z Z Z Z (.l Z Z Z Z (ac7 ha98) Z (.e Z Z (.nil (d7 (b5 (.f (.a Z Z (.add Z Z Z (by omega) (.e Z Z (.nil ?_)))))))))))))))
    obtain rfl := oi h
    refine b5 (Sub.env ⟨Z, Z, Z, Y⟩)
   ·intro e s hq
    obtain ⟨rfl, hs⟩ := hq
    refine ⟨_, hs, ?_⟩
    refine g8 (b5 (.d (.f (.a Z Z (.e Z Z (.e Z Z (.nil (b5 (.ret ?_)))))))))
    obtain rfl := oi h
    exact Done.ret Z Z
  ·try dsimp only at h hq
   obtain ⟨rfl, hs⟩ := hq
   refine ⟨_, Sub.refl _ _, ?_⟩
   refine h9 (e8 ?_)
   obtain rfl := oi h
   exact hs
theorem ab0 {ov : b9} {sv : List Int} {r : Bool} (h : L8 ov sv = some r) : f8 Tryz.prog 44 [.agg (tO ov), .c (row 1 intI sv)] (.c (bool r)) := by
 unfold f8
 refine FnOk.enter (rs := [.t 4]) Tryz.func44 Z Tryz.ntmps44 Tryz.results44 Z ⟨trivial, Y⟩ (by kernel_rfl) Z ?_
 unfold L8 at h
 refine AWP.d (.f (W.box Z Z Z Z Z Z (.e Z Z (.nil (b5 (.d ?_))))))
 obtain ⟨a8, ha8, h⟩ := b6 h
 refine AWP.f (W.fieldAddr Z Z Z Z (.m Z Z Z Z Z Z (.a Z Z (.l Z Z Z Z (aj1 ha8) Z (.e Z Z (.nil (b5 (.ret ?_))))))))
 obtain rfl := oi h
 exact Done.ret Z Z
theorem ref8_Most_ok {ov : b9} {all : LL} {value : List Int} {sv : List Int} {op : Int} {r : Int} (h : ref8_Most ov all value sv op = some r) : f8 Tryz.prog 45 [.agg (tO ov), .c (row 1 d6 all), .c (row 1 intI value), .c (row 1 intI sv), .c (int op)] (.c (int r)) := by
 unfold f8
 refine FnOk.enter (rs := [.t 10]) Tryz.func45 Z Tryz.ntmps45 Tryz.results45 Z ⟨trivial, Y⟩ (by kernel_rfl) Z ?_
 unfold ref8_Most at h
 refine AWP.d (.f (W.box Z Z Z Z Z Z (.e Z Z (.nil (b5 (.d (.f (.e Z Z (.nil (b5 (.d ?_)))))))))))
 obtain ⟨a20, ha20, h⟩ := b6 h
 refine AWP.f (W.loadAgg Z Z Z Z Z Z Z (.a Z Z (.a Z Z (.l Z Z Z Z (P7 ha20) Z (.a Z Z (.w Z Z Z (.w Z Z Z (.e Z Z (.e Z Z (.nil (b5 (.d (.d (.f (.e Z Z (.nil (b5 (.k ?_))))))))))))))))))
 obtain ⟨nv6, ho1, h⟩ := b6 h
 refine AWP.forS ho1 (fun kv7 nv6 => ⟨[(1, .c (row 1 d6 all)), (2, .c (row 1 intI value)), (11, .c (int nv6)), (12, .c (row 1 d6 a20.1)), (14, .c (int kv7))], []⟩) (fun nv6 e st => e = .exit 0 ∧ Sub [] st ⟨[(11, .c (int nv6))], []⟩) ?_ ?_ ?_ ?_
 ·try dsimp only
  exact Sub.cut ⟨Z, Z, Z, Z, Z, Y⟩ Z trivial Z
 ·intro kv7 nv6 hlokv7 hltkv7 _
  try dsimp only
  refine AWP.d (.d (.f (.a Z Z (.a Z Z (S.len Z Z (fun hl25 => .j Z Z Z (.nil (b5 (.q Z hltkv7 (.exit (d8 (d8 ⟨Z, ?_⟩))))))))))))
  exact Sub.env ⟨Z, Y⟩
 ·intro kv7 nv6 o hlokv7 hltkv7 h
  unfold an1 at h
  try dsimp only at h ⊢
  refine AWP.d (.d (.f (.a Z Z (.a Z Z (S.len Z Z (fun hl25 => .j Z Z Z (.nil (b5 (.r Z hltkv7 (.skip (b5 ?_)))))))))))
  obtain ⟨nv8, hx9, h⟩ := b6 h
  refine AWP.seqJ (⟨[(1, .c (row 1 d6 all)), (2, .c (row 1 intI value)), (11, .c (int nv8)), (12, .c (row 1 d6 a20.1)), (14, .c (int kv7))], []⟩) ?_ ?_
  ·refine AWP.k (.d ?_)
   obtain ⟨a33, ha33, a35, ha35, a36, ha36, hx9⟩ := b3 hx9
   refine AWP.f (.a Z Z (.a Z Z (.a Z Z (.a Z Z (S.idx ha33 Z Z Z Z (.o Z Z Z Z (.l Z Z Z Z (A7 ha35) Z (S.idx ha36 Z Z Z Z (.o Z Z Z Z (.e Z Z (.nil (b5 (.d (.f (.a Z Z (.a Z Z (.gtr Z Z Z (.nil (b5 (.ite Z hx9 (fun hc10 hx9 => ?_) (fun hc10 hx9 => ?_)))))))))))))))))))))
   ·refine AWP.f (.a Z Z (.e Z Z (.nil (d7 ?_))))
    obtain rfl := oi hx9
    refine b5 (Sub.env ⟨Z, Z, Z, Z, Z, Y⟩)
   ·refine AWP.skip (d7 ?_)
    obtain rfl := oi hx9
    refine b5 (Sub.env ⟨Z, Z, Z, Z, Z, Y⟩)
  ·refine AWP.f (.a Z Z (.add Z Z Z (by omega) (.e Z Z (.nil ?_))))
   obtain rfl := oi h
   refine b5 (Sub.env ⟨Z, Z, Z, Z, Z, Y⟩)
 ·intro e s hq
  obtain ⟨rfl, hs⟩ := hq
  refine ⟨_, hs, ?_⟩
  refine g8 (b5 (.d (.f (.a Z Z (.e Z Z (.nil (b5 (.ret ?_))))))))
  obtain rfl := oi h
  exact Done.ret Z Z
theorem aj3 {p : List d9} {sv : List Int} {r : Int} (h : F7 p sv = some r) : f8 Tryz.prog 48 [.c (row 2 g7 p), .c (row 1 intI sv)] (.c (int r)) := by
 unfold f8
 refine FnOk.enter (rs := [.t 4]) Tryz.func48 Z Tryz.ntmps48 Tryz.results48 Z ⟨trivial, Y⟩ (by kernel_rfl) Z ?_
 unfold F7 at h
 refine AWP.d (.f (.e Z Z (.nil (b5 (.d (.d (.f (.e Z Z (.nil (b5 (.k ?_)))))))))))
 obtain ⟨oo, ho1, h⟩ := b6 h
 refine AWP.rngS ho1 (fun iv3 _ => ⟨[(0, .c (row 2 g7 p)), (1, .c (row 1 intI sv)), (5, .c (int iv3))], []⟩) (fun o e st => match o with | .inl _ => e = .exit 0 ∧ Sub [] st ⟨[], []⟩ | .inr x => e = .ret ∧ Done [.t 4] (fun t _ => t = .c (int x)) .ret st) ?_ ?_ ?_ ?_
 ·try dsimp only
  exact Sub.env ⟨Z, Z, Z, Y⟩
 ·intro iv3 s hloiv3 hltiv3 _
  try dsimp only
  refine AWP.d (.d (.f (.a Z Z (.a Z Z (S.len Z Z (fun hl8 => .j Z Z Z (.nil (b5 (.q Z hltiv3 (.exit (d8 (d8 ⟨Z, ?_⟩))))))))))))
  exact Sub.env trivial
 ·intro iv3 s o hloiv3 hltiv3 h
  unfold U7 at h
  try dsimp only at h ⊢
  refine AWP.d (.d (.f (.a Z Z (.a Z Z (S.len Z Z (fun hl8 => .j Z Z Z (.nil (b5 (.r Z hltiv3 (.skip (b5 (.d (.k (.d ?_))))))))))))))
  obtain ⟨a14, ha14, a18, ha18, h⟩ := b2 h
  refine AWP.f (.a Z Z (.a Z Z (S.idx ha14 Z Z Z Z (W.fieldAddrI Z Z Z Z (.o Z Z Z Z (.a Z Z (.l Z Z Z Z (ab6 ha18) Z (.nil (b5 (.s Z h (fun hc4 h => ?_) (fun hc4 h => ?_)))))))))))
  ·refine AWP.d ?_
   obtain ⟨a21, ha21, h⟩ := b6 h
   refine AWP.f (.a Z Z (.a Z Z (S.idx ha21 Z Z Z Z (W.fieldAddrI Z Z Z Z (.o Z Z Z Z (.e Z Z (.nil (b5 (.ret (h9 (e8 ?_)))))))))))
   obtain rfl := oi h
   refine e8 ⟨_, Z, Z, ?_⟩
   exact Done.ret Z Z
  ·refine AWP.skip (d7 (b5 (.f (.a Z Z (.add Z Z Z (by omega) (.e Z Z (.nil ?_)))))))
   obtain rfl := oi h
   refine b5 ⟨_, Z, ?_⟩
   exact Sub.env ⟨Z, Z, Z, Y⟩
 ·intro e s hq
  rcases oo with u | x
  ·try dsimp only at h hq
   obtain ⟨rfl, hs⟩ := hq
   refine ⟨_, hs, ?_⟩
   refine g8 (b5 (.d (.f (.e Z Z (.nil (b5 (.ret ?_)))))))
   obtain rfl := oi h
   exact Done.ret Z Z
  ·try dsimp only at h hq
   obtain ⟨rfl, hs⟩ := hq
   refine ⟨_, Sub.refl _ _, ?_⟩
   refine h9 (e8 ?_)
   obtain rfl := oi h
   exact hs
theorem ref8_Visited_ok {ov : b9} {p : List d9} {r : LL} (h : T9 ov p = some r) : f8 Tryz.prog 47 [.agg (tO ov), .c (row 2 g7 p)] (.c (row 1 d6 r)) := by
 unfold f8
 refine FnOk.enter (rs := [.t 4]) Tryz.func47 Z Tryz.ntmps47 Tryz.results47 Z ⟨trivial, Y⟩ (by kernel_rfl) Z ?_
 unfold T9 at h
 refine AWP.d (.f (W.box Z Z Z Z Z Z (.e Z Z (.nil (b5 (.d (.f (W.fieldAddr Z Z Z Z (.m Z Z Z Z Z Z (S.lit (f := d6) (l := [ov.init]) (ess := [[row 1 intI ov.init]]) Z Z Z Z Z Z Z ⟨⟨.inl Z, Y⟩, Y⟩ Z Z Z (.e Z Z (.nil (b5 (.d (.d (.f (.e Z Z (.nil (b5 (.k (.frzV (id := 1) (l := [ov.init]) (env2 := [(1, .c (row 2 g7 p)), (2, .c (.ptr 0 0 0)), (5, .c (row 1 d6 [ov.init])), (6, .c (bool true))]) (σ2 := [.one (.cells 4 [(tO ov)]), .dead]) Z Z (by exact ⟨⟨_, Z, .inl ⟨Z, Z⟩⟩, ⟨_, Z, .inl ⟨Z, Z⟩⟩, ⟨_, Z, .inr ⟨_, Z, Z, Z⟩⟩, ⟨_, Z, .inl ⟨Z, Z⟩⟩, Y⟩) Z (by exact ⟨⟨Z, .inl ⟨Z, Z⟩, .inl ⟨Z, Z⟩, .inl ⟨Z, Z⟩, .inl ⟨Z, Z⟩, Y⟩, trivial, Y⟩) ?_)))))))))))))))))))))
 obtain ⟨all5, ho1, h⟩ := b6 h
 refine AWP.loopS ho1 (fun (all3, again4) => ⟨[(1, .c (row 2 g7 p)), (2, .c (.ptr 0 0 0)), (5, .c (row 1 d6 all3)), (6, .c (bool again4))], [.one (.cells 4 [(tO ov)])]⟩) (fun all5 e st => e = .exit 0 ∧ Sub [] st ⟨[(5, .c (row 1 d6 all5))], []⟩) ?_ ?_ ?_
 ·try dsimp only
  exact Sub.cut ⟨Z, Z, Z, Z, Y⟩ Z ⟨.one Z, Y⟩ Z
 ·intro s o h
  obtain ⟨all3, again4⟩ := s
  unfold R7 at h
  try dsimp only at h ⊢
  refine AWP.d (.d (.f (.a Z Z (.nil (b5 (.s Z h (fun hc6 h => ?_) (fun hc6 h => ?_)))))))
  ·refine AWP.skip (b5 (.k (.d (.f (.e Z Z (.nil (b5 (.d (.f (.e Z Z (.nil (b5 (.k ?_)))))))))))))
   obtain ⟨⟨all10, again11⟩, ho2, h⟩ := b6 h
   try dsimp only at h
   refine AWP.loopS ho2 (fun (all7, again8, iv9) => ⟨[(1, .c (row 2 g7 p)), (2, .c (.ptr 0 0 0)), (5, .c (row 1 d6 all7)), (6, .c (bool again8)), (7, .c (int iv9))], [.one (.cells 4 [(tO ov)])]⟩) (fun (all10, again11) e st => e = .exit 2 ∧ Sub [] st ⟨[(1, .c (row 2 g7 p)), (2, .c (.ptr 0 0 0)), (5, .c (row 1 d6 all10)), (6, .c (bool again11))], [.one (.cells 4 [(tO ov)])]⟩) ?_ ?_ ?_
   ·try dsimp only
    exact Sub.env ⟨Z, Z, Z, Z, Z, Y⟩
   ·intro s o h
    obtain ⟨all7, again8, iv9⟩ := s
    unfold Q7 at h
    try dsimp only at h ⊢
    refine AWP.d (.d (.f (.a Z Z (.a Z Z (S.len Z Z (fun hl18 => .j Z Z Z (.nil (b5 (.ite Z h (fun hc12 h => ?_) (fun hc12 h => ?_))))))))))
    ·refine AWP.skip (b5 ?_)
     obtain ⟨⟨all13, again14⟩, hx15, h⟩ := b6 h
     refine AWP.seqJ (⟨[(1, .c (row 2 g7 p)), (2, .c (.ptr 0 0 0)), (5, .c (row 1 d6 all13)), (6, .c (bool again14)), (7, .c (int iv9))], [.one (.cells 4 [(tO ov)])]⟩) ?_ ?_
     ·refine AWP.k (.d ?_)
      obtain ⟨a25, ha25, a27, ha27, hx15⟩ := b2 hx15
      refine AWP.f (.a Z Z (.a Z Z (.a Z Z (S.idx ha25 Z Z Z Z (.o Z Z Z Z (.l Z Z Z Z (aj3 ha27) Z (.e Z Z (.nil (b5 (.d ?_))))))))))
      obtain ⟨t16, hx17, hx15⟩ := b6 hx15
      refine AWP.seqJ (⟨[(1, .c (row 2 g7 p)), (2, .c (.ptr 0 0 0)), (5, .c (row 1 d6 all7)), (6, .c (bool again8)), (7, .c (int iv9)), (8, .c (int a27)), (37, .c (bool t16))], [.one (.cells 4 [(tO ov)])]⟩) ?_ ?_
      ·rcases bft (decide (a27 < 0)) with hb18 | hb18
       ·replace hx17 := C2 hb18 hx17
        refine AWP.drawI mixed Z ?_
        refine i5.consF Z (fun E => AOps.a Z Z (.nil ⟨Z, Z⟩)) Z (.consF Z (fun E => AOps.j Z Z Z (.nil ⟨Z, Z⟩)) Z (.consF Z (fun E => AOps.a Z Z (.nil ⟨Z, Z⟩)) Z (.consF Z (fun E => AOps.i Z Z Z hb18 (.nil ⟨Z, Z⟩)) Z (.consF Z (fun E => AOps.i Z Z Z hb18 (.nil ⟨Z, Z⟩)) Z (.consF Z (fun E => AOps.i Z Z Z hb18 (.nil ⟨Z, Z⟩)) Z (.consF Z (fun E => AOps.i Z Z Z hb18 (.nil ⟨Z, Z⟩)) Z (.consF Z (fun E => AOps.i Z Z Z hb18 (.nil ⟨Z, Z⟩)) Z (.consF Z (fun E => AOps.i Z Z Z hb18 (.nil ⟨Z, Z⟩)) Z (.consF Z (fun E => AOps.p Z hb18 Z Z (.nil ⟨Z, Z⟩)) Z ?_)))))))))
        refine i5.done ?_
        dsimp only [j6]
        obtain rfl := oi hx17
        refine b5 (Sub.env ⟨Z, Z, Z, Z, Z, Z, Z, Y⟩)
       ·replace hx17 := B9 hb18 hx17
        obtain ⟨a34, ha34, a36, ha36, hx17⟩ := b2 hx17
        refine AWP.drawI mixed Z ?_
        refine i5.consF Z (fun E => AOps.a Z Z (.nil ⟨Z, Z⟩)) Z (.consF Z (fun E => AOps.j Z Z Z (.nil ⟨Z, Z⟩)) Z (.consF Z (fun E => AOps.a Z Z (.nil ⟨Z, Z⟩)) Z (.consF Z (fun E => AOps.g Z Z Z hb18 (W.loadAgg Z Z Z Z Z Z Z (.nil ⟨Z, Z⟩))) Z (.consF Z (fun E => AOps.g Z Z Z hb18 (.a Z Z (.nil ⟨Z, Z⟩))) Z (.consF Z (fun E => AOps.g Z Z Z hb18 (.a Z Z (.nil ⟨Z, Z⟩))) Z (.consF Z (fun E => AOps.g Z Z Z hb18 (S.idx ha34 Z Z Z Z (.nil ⟨Z, Z⟩))) Z (.consF Z (fun E => AOps.g Z Z Z hb18 (.o Z Z Z Z (.nil ⟨Z, Z⟩))) Z (.consF Z (fun E => AOps.g Z Z Z hb18 (.l Z Z Z Z (ab0 ha36) Z (.nil ⟨Z, Z⟩))) Z (.consF Z (fun E => AOps.n Z hb18 Z Z (.nil ⟨Z, Z⟩)) Z ?_)))))))))
        refine i5.done ?_
        dsimp only [j6]
        obtain rfl := oi hx17
        refine b5 (Sub.env ⟨Z, Z, Z, Z, Z, Z, Z, Y⟩)
      ·refine AWP.s Z hx15 (fun hc19 hx15 => ?_) (fun hc19 hx15 => ?_)
       ·refine AWP.exit (d8 (g8 ?_))
        obtain ⟨ej0, ej1⟩ := o2 hx15
        subst ej0 ej1
        refine b5 (Sub.env ⟨Z, Z, Z, Z, Z, Y⟩)
       ·refine AWP.skip (b5 (.d ?_))
        obtain ⟨a42, ha42, a45, ha45, hx15⟩ := b2 hx15
        refine AWP.drawI mixed Z ?_
        refine i5.consF Z (fun E => W.loadAgg Z Z Z Z Z Z Z (.nil ⟨Z, Z⟩)) Z (.consF Z (fun E => AOps.a Z Z (.nil ⟨Z, Z⟩)) Z (.consF Z (fun E => AOps.a Z Z (.nil ⟨Z, Z⟩)) Z (.consF Z (fun E => S.idx ha42 Z Z Z Z (.nil ⟨Z, Z⟩)) Z (.consF Z (fun E => AOps.o Z Z Z Z (.nil ⟨Z, Z⟩)) Z (.consF Z (fun E => AOps.a Z Z (.nil ⟨Z, Z⟩)) Z (.consF Z (fun E => AOps.l Z Z Z Z (P7 ha45) Z (.nil ⟨Z, Z⟩)) Z (.consF Z (fun E => AOps.a Z Z (.nil ⟨Z, Z⟩)) Z (.consF Z (fun E => AOps.w Z Z Z (.nil ⟨Z, Z⟩)) Z (.consF Z (fun E => AOps.w Z Z Z (.nil ⟨Z, Z⟩)) Z (.consF Z (fun E => AOps.e Z Z (.nil ⟨Z, Z⟩)) Z (.consF Z (fun E => AOps.e Z Z (.nil ⟨Z, Z⟩)) Z ?_)))))))))))
        refine i5.done ?_
        dsimp only [j6]
        refine b5 (.d (.f (.e Z Z (.nil (b5 (.k ?_))))))
        obtain ⟨⟨all20, again21⟩, ho3, hx15⟩ := b6 hx15
        try dsimp only at hx15
        refine AWP.forS ho3 (fun kv22 (all20, again21) => ⟨[(1, .c (row 2 g7 p)), (2, .c (.ptr 0 0 0)), (5, .c (row 1 d6 all20)), (6, .c (bool again21)), (7, .c (int iv9)), (9, .c (row 1 d6 a45.1)), (11, .c (int kv22))], [.one (.cells 4 [(tO ov)])]⟩) (fun (all20, again21) e st => e = .exit 4 ∧ Sub [] st ⟨[(1, .c (row 2 g7 p)), (2, .c (.ptr 0 0 0)), (5, .c (row 1 d6 all20)), (6, .c (bool again21)), (7, .c (int iv9))], [.one (.cells 4 [(tO ov)])]⟩) ?_ ?_ ?_ ?_
        ·try dsimp only
         exact Sub.env ⟨Z, Z, Z, Z, Z, Z, Z, Y⟩
        ·intro kv22 s hlokv22 hltkv22 _
         obtain ⟨all20, again21⟩ := s
         try dsimp only
         refine AWP.d (.d (.f (.a Z Z (.a Z Z (S.len Z Z (fun hl50 => .j Z Z Z (.nil (b5 (.q Z hltkv22 (.exit (d8 (d8 ⟨Z, ?_⟩))))))))))))
         exact Sub.env ⟨Z, Z, Z, Z, Z, Y⟩
        ·intro kv22 s o hlokv22 hltkv22 h
         obtain ⟨all20, again21⟩ := s
         unfold L3 at h
         try dsimp only at h ⊢
         refine AWP.d (.d (.f (.a Z Z (.a Z Z (S.len Z Z (fun hl50 => .j Z Z Z (.nil (b5 (.r Z hltkv22 (.skip (b5 ?_)))))))))))
         obtain ⟨⟨all23, again24⟩, hx25, h⟩ := b6 h
         refine AWP.seqJ (⟨[(1, .c (row 2 g7 p)), (2, .c (.ptr 0 0 0)), (5, .c (row 1 d6 all23)), (6, .c (bool again24)), (7, .c (int iv9)), (9, .c (row 1 d6 a45.1)), (11, .c (int kv22))], [.one (.cells 4 [(tO ov)])]⟩) ?_ ?_
         ·refine AWP.k (.d ?_)
          obtain ⟨a57, ha57, a59, ha59, hx25⟩ := b2 hx25
          refine AWP.f (.a Z Z (.a Z Z (.a Z Z (S.idx ha57 Z Z Z Z (.o Z Z Z Z (.l Z Z Z Z (A7 ha59) Z (.j Z Z Z (.nil (b5 (.ite Z hx25 (fun hc26 hx25 => ?_) (fun hc26 hx25 => ?_)))))))))))
          ·refine AWP.d ?_
           obtain ⟨a64, ha64, a66, ha66, hx25⟩ := b2 hx25
           refine AWP.f (.a Z Z (.a Z Z (.a Z Z (S.idx ha64 Z Z Z Z (.o Z Z Z Z (.l Z Z Z Z (ac7 ha66) Z (.e Z Z (.nil (b5 (.f (.e Z Z (.nil (d7 ?_)))))))))))))
           obtain ⟨ej0, ej1⟩ := o2 hx25
           subst ej0 ej1
           refine b5 (Sub.env ⟨Z, Z, Z, Z, Z, Z, Z, Y⟩)
          ·refine AWP.skip (d7 ?_)
           obtain ⟨ej0, ej1⟩ := o2 hx25
           subst ej0 ej1
           refine b5 (Sub.env ⟨Z, Z, Z, Z, Z, Z, Z, Y⟩)
         ·try dsimp only at h
          refine AWP.f (.a Z Z (.add Z Z Z (by omega) (.e Z Z (.nil ?_))))
          obtain rfl := oi h
          refine b5 (Sub.env ⟨Z, Z, Z, Z, Z, Z, Z, Y⟩)
        ·intro e s hq
         obtain ⟨rfl, hs⟩ := hq
         refine ⟨_, hs, ?_⟩
         refine g8 (d7 ?_)
         obtain ⟨ej0, ej1⟩ := o2 hx15
         subst ej0 ej1
         refine b5 (Sub.env ⟨Z, Z, Z, Z, Z, Y⟩)
     ·try dsimp only at h
      refine AWP.f (.a Z Z (S.add Z Z Z (.e Z Z (.nil ?_))))
      obtain rfl := oi h
      refine b5 ⟨_, Z, ?_⟩
      exact Sub.env ⟨Z, Z, Z, Z, Z, Y⟩
    ·refine AWP.exit (d8 ?_)
     obtain rfl := oi h
     refine d8 ⟨_, Z, Z, ?_⟩
     exact Sub.env ⟨Z, Z, Z, Z, Y⟩
   ·intro e s hq
    obtain ⟨rfl, hs⟩ := hq
    refine ⟨_, hs, ?_⟩
    refine g8 (d7 ?_)
    obtain rfl := oi h
    refine b5 ⟨_, Z, ?_⟩
    exact Sub.env ⟨Z, Z, Z, Z, Y⟩
  ·refine AWP.exit (d8 ?_)
   obtain rfl := oi h
   refine d8 ⟨_, Z, Z, ?_⟩
   exact Sub.cut ⟨Z, Y⟩ Z trivial Z
 ·intro e s hq
  obtain ⟨rfl, hs⟩ := hq
  refine ⟨_, hs, ?_⟩
  refine g8 (b5 (.d (.f (.a Z Z (.e Z Z (.nil (b5 (.ret ?_))))))))
  obtain rfl := oi h
  exact Done.ret Z Z
theorem aj5 {ov : b9} {all : LL} {rank : List Int} {sv : List Int} {r : Int} (h : M6 ov all rank sv = some r) : f8 Tryz.prog 49 [.agg (tO ov), .c (row 1 d6 all), .c (row 1 intI rank), .c (row 1 intI sv)] (.c (int r)) := by
 unfold f8
 refine FnOk.enter (rs := [.t 8]) Tryz.func49 Z Tryz.ntmps49 Tryz.results49 Z ⟨trivial, Y⟩ (by kernel_rfl) Z ?_
 unfold M6 at h
 refine AWP.d (.f (W.box Z Z Z Z Z Z (.e Z Z (.nil (b5 (.d (.d (.f (.e Z Z (.nil (b5 (.k ?_))))))))))))
 obtain ⟨oo, ho1, h⟩ := b6 h
 refine AWP.rngS ho1 (fun nv5 _ => ⟨[(1, .c (row 1 d6 all)), (2, .c (row 1 intI rank)), (3, .c (row 1 intI sv)), (4, .c (.ptr 0 0 0)), (9, .c (int nv5))], [.one (.cells 4 [(tO ov)])]⟩) (fun o e st => match o with | .inl _ => e = .exit 0 ∧ Sub [] st ⟨[], [.one (.cells 4 [(tO ov)])]⟩ | .inr x => e = .ret ∧ Done [.t 8] (fun t _ => t = .c (int x)) .ret st) ?_ ?_ ?_ ?_
 ·try dsimp only
  exact Sub.env ⟨Z, Z, Z, Z, Z, Y⟩
 ·intro nv5 s hlonv5 hltnv5 _
  try dsimp only
  refine AWP.d (.d (.f (.a Z Z (.j Z Z Z (.nil (b5 (.q Z hltnv5 (.exit (d8 (d8 ⟨Z, ?_⟩))))))))))
  exact Sub.env trivial
 ·intro nv5 s o hlonv5 hltnv5 h
  unfold ab4 at h
  try dsimp only at h ⊢
  refine AWP.d (.d (.f (.a Z Z (.j Z Z Z (.nil (b5 (.r Z hltnv5 (.skip (b5 (.d (.k (.d (.f (.e Z Z (.nil (b5 (.k ?_)))))))))))))))))
  obtain ⟨oo, ho2, h⟩ := b6 h
  refine AWP.rngS ho2 (fun op6 _ => ⟨[(1, .c (row 1 d6 all)), (2, .c (row 1 intI rank)), (3, .c (row 1 intI sv)), (4, .c (.ptr 0 0 0)), (9, .c (int nv5)), (10, .c (int op6))], [.one (.cells 4 [(tO ov)])]⟩) (fun o e st => match o with | .inl _ => e = .exit 2 ∧ Sub [] st ⟨[(1, .c (row 1 d6 all)), (2, .c (row 1 intI rank)), (3, .c (row 1 intI sv)), (4, .c (.ptr 0 0 0)), (9, .c (int nv5))], [.one (.cells 4 [(tO ov)])]⟩ | .inr x => e = .ret ∧ Done [.t 8] (fun t _ => t = .c (int x)) .ret st) ?_ ?_ ?_ ?_
  ·try dsimp only
   exact Sub.env ⟨Z, Z, Z, Z, Z, Z, Y⟩
  ·intro op6 s hloop6 hltop6 _
   try dsimp only
   refine AWP.d (.d (.f (.a Z Z (W.fieldAddr Z Z Z Z (.m Z Z Z Z Z Z (S.len Z Z (fun hl18 => .j Z Z Z (.nil (b5 (.q Z hltop6 (.exit (d8 (d8 ⟨Z, ?_⟩)))))))))))))
   exact Sub.env ⟨Z, Z, Z, Z, Z, Y⟩
  ·intro op6 s o hloop6 hltop6 h
   unfold aa8 at h
   try dsimp only at h ⊢
   refine AWP.d (.d (.f (.a Z Z (W.fieldAddr Z Z Z Z (.m Z Z Z Z Z Z (S.len Z Z (fun hl18 => .j Z Z Z (.nil (b5 (.r Z hltop6 (.skip (b5 (.d (.k ?_))))))))))))))
   obtain ⟨t7, hx8, h⟩ := b6 h
   refine AWP.seqJ (⟨[(1, .c (row 1 d6 all)), (2, .c (row 1 intI rank)), (3, .c (row 1 intI sv)), (4, .c (.ptr 0 0 0)), (9, .c (int nv5)), (10, .c (int op6)), (35, .c (bool t7))], [.one (.cells 4 [(tO ov)])]⟩) ?_ ?_
   ·obtain ⟨a25, ha25, hx8⟩ := b6 hx8
    rcases bft (a25) with hb9 | hb9
    ·replace hx8 := w9 hb9 hx8
     obtain ⟨a32, ha32, hx8⟩ := b6 hx8
     refine AWP.f (W.loadAgg Z Z Z Z Z Z Z (.a Z Z (.a Z Z (.l Z Z Z Z (s6 ha25) Z (.a Z Z (.g Z Z Z hb9 (W.loadAgg Z Z Z Z Z Z Z (.g Z Z Z hb9 (.a Z Z (.g Z Z Z hb9 (.a Z Z (.g Z Z Z hb9 (.a Z Z (.g Z Z Z hb9 (.a Z Z (.g Z Z Z hb9 (.l Z Z Z Z (ref8_Most_ok ha32) Z (.g Z Z Z hb9 (.a Z Z (.g Z Z Z hb9 (.v Z Z Z (.p Z hb9 Z Z (.nil ?_)))))))))))))))))))))))
     obtain rfl := oi hx8
     refine b5 (Sub.env ⟨Z, Z, Z, Z, Z, Z, Z, Y⟩)
    ·replace hx8 := w6 hb9 hx8
     refine AWP.f (W.loadAgg Z Z Z Z Z Z Z (.a Z Z (.a Z Z (.l Z Z Z Z (s6 ha25) Z (.a Z Z (.i Z Z Z hb9 (.i Z Z Z hb9 (.i Z Z Z hb9 (.i Z Z Z hb9 (.i Z Z Z hb9 (.i Z Z Z hb9 (.i Z Z Z hb9 (.i Z Z Z hb9 (.n Z hb9 Z Z (.nil ?_)))))))))))))))
     obtain rfl := oi hx8
     refine b5 (Sub.env ⟨Z, Z, Z, Z, Z, Z, Z, Y⟩)
   ·refine AWP.s Z h (fun hc10 h => ?_) (fun hc10 h => ?_)
    ·refine AWP.d (.f (.a Z Z (.e Z Z (.nil (b5 (.ret (h9 (e8 ?_))))))))
     obtain rfl := oi h
     refine e8 ⟨_, Z, Z, ?_⟩
     exact Done.ret Z Z
    ·refine AWP.skip (d7 (b5 (.f (.a Z Z (.add Z Z Z (by omega) (.e Z Z (.nil ?_)))))))
     obtain rfl := oi h
     refine b5 ⟨_, Z, ?_⟩
     exact Sub.env ⟨Z, Z, Z, Z, Z, Z, Y⟩
  ·intro e s hq
   rcases oo with u | x
   ·try dsimp only at h hq
    obtain ⟨rfl, hs⟩ := hq
    refine ⟨_, hs, ?_⟩
    refine g8 (d7 (b5 (.f (.a Z Z (.add Z Z Z (by omega) (.e Z Z (.nil ?_)))))))
    obtain rfl := oi h
    refine b5 ⟨_, Z, ?_⟩
    exact Sub.env ⟨Z, Z, Z, Z, Z, Y⟩
   ·try dsimp only at h hq
    obtain ⟨rfl, hs⟩ := hq
    refine ⟨_, Sub.refl _ _, ?_⟩
    refine h9 (h9 (e8 ?_))
    obtain rfl := oi h
    refine e8 ⟨_, Z, Z, ?_⟩
    exact hs
 ·intro e s hq
  rcases oo with u | x
  ·try dsimp only at h hq
   obtain ⟨rfl, hs⟩ := hq
   refine ⟨_, hs, ?_⟩
   refine g8 (b5 (.d (.f (.e Z Z (.nil (b5 (.ret ?_)))))))
   obtain rfl := oi h
   exact Done.ret Z Z
  ·try dsimp only at h hq
   obtain ⟨rfl, hs⟩ := hq
   refine ⟨_, Sub.refl _ _, ?_⟩
   refine h9 (e8 ?_)
   obtain rfl := oi h
   exact hs
theorem al1 {value : List Int} {r : (List Bool)} (h : aa4 value = some r) : m5 Tryz.prog 78 [.c (row 1 intI value)] 1 (List.map s7 r) := by
 unfold m5
 refine FnOk.enter (rs := [.t 2]) Tryz.func78 Z Tryz.ntmps78 Tryz.results78 Z ⟨trivial, Y⟩ (by kernel_rfl) Z ?_
 unfold aa4 at h
 refine AWP.d (.f (.e Z Z (.nil (b5 (.d (.f (.e Z Z (.nil (b5 (.d (.d (.f (.e Z Z (.nil (b5 (.k (.virtV 1 s7 3 Z Z Z ?_)))))))))))))))))
 obtain ⟨c2, ho1, h⟩ := b6 h
 refine AWP.forS ho1 (fun iv3 c2 => ⟨[(0, .c (row 1 intI value)), (3, .c (.own 0 0 c2.length)), (4, .c (int iv3))], [.one (vec 1 s7 c2)]⟩) (fun c2 e st => e = .exit 0 ∧ Sub [] st ⟨[(3, .c (.own 0 0 c2.length))], [.one (vec 1 s7 c2)]⟩) ?_ ?_ ?_ ?_
 ·try dsimp only
  exact Sub.env ⟨Z, (x9 (by first | rfl | simp only [List.length_set])), Z, Y⟩
 ·intro iv3 c2 hloiv3 hltiv3 _
  try dsimp only
  refine AWP.d (.d (.f (.a Z Z (.a Z Z (S.len Z Z (fun hl7 => .j Z Z Z (.nil (b5 (.q Z hltiv3 (.exit (d8 (d8 ⟨Z, ?_⟩))))))))))))
  exact Sub.env ⟨Z, Y⟩
 ·intro iv3 c2 o hloiv3 hltiv3 h
  unfold X2 at h
  try dsimp only at h ⊢
  refine AWP.d (.d (.f (.a Z Z (.a Z Z (S.len Z Z (fun hl7 => .j Z Z Z (.nil (b5 (.r Z hltiv3 (.skip (b5 (.d (.k ?_)))))))))))))
  obtain ⟨a14, ha14, a18, ha18, h⟩ := b2 h
  refine AWP.f (.a Z Z (.a Z Z (.a Z Z (S.idx ha14 Z Z Z Z (.o Z Z Z Z (.j Z Z Z (S.lit (f := s7) (l := [decide (a14 < 1000000000)]) (ess := [[bool (decide (a14 < 1000000000))]]) Z Z Z Z Z Z Z ⟨⟨.inl Z, Y⟩, Y⟩ Z Z Z (S.append (f := s7) ha18 Z Z Z Z Z Z (.own Z Z) Z Z Z Z (.e Z Z (.nil (d7 (b5 (.a (env' := [(0, .c (row 1 intI value)), (3, .c (.own 0 0 a18.length)), (4, .c (int iv3))]) (σ' := [.one (vec 1 s7 a18), .one (vec 1 s7 [decide (a14 < 1000000000)])]) 0 2 Z Z Z ⟨Z, Z, Z, Y⟩ Z ⟨⟨Blk.im_ok _ _ _, l8 Z⟩, ⟨Blk.im_ok _ _ _, l8 Z⟩, Y⟩ (.f (.a Z Z (.add Z Z Z (by omega) (.e Z Z (.nil ?_))))))))))))))))))
  obtain rfl := oi h
  refine b5 (Sub.cut ⟨Z, Z, Z, Y⟩ Z ⟨.vec, Y⟩ Z)
 ·intro e s hq
  obtain ⟨rfl, hs⟩ := hq
  refine ⟨_, hs, ?_⟩
  refine g8 (b5 (.d (.f (.a Z Z (.e Z Z (.nil (b5 (.ret ?_))))))))
  obtain rfl := oi h
  exact Done.ret Z (Fresh.mk Z Z)
theorem N6 {ov : b9} {all : LL} {inv : List Bool} {sv : List Int} {op : Int} {r : Bool} (h : M5 ov all inv sv op = some r) : f8 Tryz.prog 63 [.agg (tO ov), .c (row 1 d6 all), .c (row 1 s7 inv), .c (row 1 intI sv), .c (int op)] (.c (bool r)) := by
 unfold f8
 refine FnOk.enter (rs := [.t 10]) Tryz.func63 Z Tryz.ntmps63 Tryz.results63 Z ⟨trivial, Y⟩ (by kernel_rfl) Z ?_
 unfold M5 at h
 refine AWP.d (.f (W.box Z Z Z Z Z Z (.e Z Z (.nil (b5 (.d ?_))))))
 obtain ⟨a18, ha18, h⟩ := b6 h
 refine AWP.f (W.loadAgg Z Z Z Z Z Z Z (.a Z Z (.a Z Z (.l Z Z Z Z (P7 ha18) Z (.a Z Z (.w Z Z Z (.w Z Z Z (.e Z Z (.e Z Z (.nil (b5 (.d (.d (.f (.e Z Z (.nil (b5 (.k ?_))))))))))))))))))
 obtain ⟨oo, ho1, h⟩ := b6 h
 refine AWP.rngS ho1 (fun kv6 _ => ⟨[(1, .c (row 1 d6 all)), (2, .c (row 1 s7 inv)), (11, .c (row 1 d6 a18.1)), (13, .c (int kv6))], []⟩) (fun o e st => match o with | .inl _ => e = .exit 0 ∧ Sub [] st ⟨[], []⟩ | .inr x => e = .ret ∧ Done [.t 10] (fun t _ => t = .c (bool x)) .ret st) ?_ ?_ ?_ ?_
 ·try dsimp only
  exact Sub.cut ⟨Z, Z, Z, Z, Y⟩ Z trivial Z
 ·intro kv6 s hlokv6 hltkv6 _
  try dsimp only
  refine AWP.d (.d (.f (.a Z Z (.a Z Z (S.len Z Z (fun hl23 => .j Z Z Z (.nil (b5 (.q Z hltkv6 (.exit (d8 (d8 ⟨Z, ?_⟩))))))))))))
  exact Sub.env trivial
 ·intro kv6 s o hlokv6 hltkv6 h
  unfold V1 at h
  try dsimp only at h ⊢
  refine AWP.d (.d (.f (.a Z Z (.a Z Z (S.len Z Z (fun hl23 => .j Z Z Z (.nil (b5 (.r Z hltkv6 (.skip (b5 (.d (.k (.d ?_))))))))))))))
  obtain ⟨a31, ha31, a33, ha33, a34, ha34, h⟩ := b3 h
  refine AWP.f (.a Z Z (.a Z Z (.a Z Z (.a Z Z (S.idx ha31 Z Z Z Z (.o Z Z Z Z (.l Z Z Z Z (A7 ha33) Z (S.idx ha34 Z Z Z Z (.o Z Z Z Z (.u Z Z (.nil (b5 (.s Z h (fun hc7 h => ?_) (fun hc7 h => ?_))))))))))))))
  ·refine AWP.d (.f (.e Z Z (.nil (b5 (.ret (h9 (e8 ?_)))))))
   obtain rfl := oi h
   refine e8 ⟨_, Z, Z, ?_⟩
   exact Done.ret Z Z
  ·refine AWP.skip (d7 (b5 (.f (.a Z Z (.add Z Z Z (by omega) (.e Z Z (.nil ?_)))))))
   obtain rfl := oi h
   refine b5 ⟨_, Z, ?_⟩
   exact Sub.env ⟨Z, Z, Z, Z, Y⟩
 ·intro e s hq
  rcases oo with u | x
  ·try dsimp only at h hq
   obtain ⟨rfl, hs⟩ := hq
   refine ⟨_, hs, ?_⟩
   refine g8 (b5 (.d (.f (.e Z Z (.nil (b5 (.ret ?_)))))))
   obtain rfl := oi h
   exact Done.ret Z Z
  ·try dsimp only at h hq
   obtain ⟨rfl, hs⟩ := hq
   refine ⟨_, Sub.refl _ _, ?_⟩
   refine h9 (e8 ?_)
   obtain rfl := oi h
   exact hs
theorem ae1 {ov : b9} {all : LL} {value : List Int} {sv : List Int} {op : Int} {r : Int} (h : V3 ov all value sv op = some r) : f8 Tryz.prog 64 [.agg (tO ov), .c (row 1 d6 all), .c (row 1 intI value), .c (row 1 intI sv), .c (int op)] (.c (int r)) := by
 unfold f8
 refine FnOk.enter (rs := [.t 10]) Tryz.func64 Z Tryz.ntmps64 Tryz.results64 Z ⟨trivial, Y⟩ (by kernel_rfl) Z ?_
 unfold V3 at h
 refine AWP.d (.f (W.box Z Z Z Z Z Z (.e Z Z (.nil (b5 (.d (.f (.e Z Z (.nil (b5 (.d ?_)))))))))))
 obtain ⟨a20, ha20, h⟩ := b6 h
 refine AWP.f (W.loadAgg Z Z Z Z Z Z Z (.a Z Z (.a Z Z (.l Z Z Z Z (P7 ha20) Z (.a Z Z (.w Z Z Z (.w Z Z Z (.e Z Z (.e Z Z (.nil (b5 (.d (.d (.f (.e Z Z (.nil (b5 (.k ?_))))))))))))))))))
 obtain ⟨nv6, ho1, h⟩ := b6 h
 refine AWP.forS ho1 (fun kv7 nv6 => ⟨[(1, .c (row 1 d6 all)), (2, .c (row 1 intI value)), (11, .c (int nv6)), (12, .c (row 1 d6 a20.1)), (14, .c (int kv7))], []⟩) (fun nv6 e st => e = .exit 0 ∧ Sub [] st ⟨[(11, .c (int nv6))], []⟩) ?_ ?_ ?_ ?_
 ·try dsimp only
  exact Sub.cut ⟨Z, Z, Z, Z, Z, Y⟩ Z trivial Z
 ·intro kv7 nv6 hlokv7 hltkv7 _
  try dsimp only
  refine AWP.d (.d (.f (.a Z Z (.a Z Z (S.len Z Z (fun hl25 => .j Z Z Z (.nil (b5 (.q Z hltkv7 (.exit (d8 (d8 ⟨Z, ?_⟩))))))))))))
  exact Sub.env ⟨Z, Y⟩
 ·intro kv7 nv6 o hlokv7 hltkv7 h
  unfold X0 at h
  try dsimp only at h ⊢
  refine AWP.d (.d (.f (.a Z Z (.a Z Z (S.len Z Z (fun hl25 => .j Z Z Z (.nil (b5 (.r Z hltkv7 (.skip (b5 ?_)))))))))))
  obtain ⟨nv8, hx9, h⟩ := b6 h
  refine AWP.seqJ (⟨[(1, .c (row 1 d6 all)), (2, .c (row 1 intI value)), (11, .c (int nv8)), (12, .c (row 1 d6 a20.1)), (14, .c (int kv7))], []⟩) ?_ ?_
  ·refine AWP.k (.d ?_)
   obtain ⟨a33, ha33, a35, ha35, a36, ha36, hx9⟩ := b3 hx9
   refine AWP.f (.a Z Z (.a Z Z (.a Z Z (.a Z Z (S.idx ha33 Z Z Z Z (.o Z Z Z Z (.l Z Z Z Z (A7 ha35) Z (S.idx ha36 Z Z Z Z (.o Z Z Z Z (.e Z Z (.nil (b5 (.d (.f (.a Z Z (.a Z Z (.j Z Z Z (.nil (b5 (.ite Z hx9 (fun hc10 hx9 => ?_) (fun hc10 hx9 => ?_)))))))))))))))))))))
   ·refine AWP.f (.a Z Z (.e Z Z (.nil (d7 ?_))))
    obtain rfl := oi hx9
    refine b5 (Sub.env ⟨Z, Z, Z, Z, Z, Y⟩)
   ·refine AWP.skip (d7 ?_)
    obtain rfl := oi hx9
    refine b5 (Sub.env ⟨Z, Z, Z, Z, Z, Y⟩)
  ·refine AWP.f (.a Z Z (.add Z Z Z (by omega) (.e Z Z (.nil ?_))))
   obtain rfl := oi h
   refine b5 (Sub.env ⟨Z, Z, Z, Z, Z, Y⟩)
 ·intro e s hq
  obtain ⟨rfl, hs⟩ := hq
  refine ⟨_, hs, ?_⟩
  refine g8 (b5 (.d (.f (.a Z Z (.e Z Z (.nil (b5 (.ret ?_))))))))
  obtain rfl := oi h
  exact Done.ret Z Z
theorem aj7 {ov : b9} {all : LL} {value : List Int} {sv : List Int} {r : Int} (h : D8 ov all value sv = some r) : f8 Tryz.prog 50 [.agg (tO ov), .c (row 1 d6 all), .c (row 1 intI value), .c (row 1 intI sv)] (.c (int r)) := by
 unfold f8
 refine FnOk.enter (rs := [.t 8]) Tryz.func50 Z Tryz.ntmps50 Tryz.results50 Z ⟨trivial, Y⟩ (by kernel_rfl) Z ?_
 unfold D8 at h
 refine AWP.d (.f (W.box Z Z Z Z Z Z (.e Z Z (.nil (b5 (.d (.d (.f (.e Z Z (.nil (b5 (.k ?_))))))))))))
 obtain ⟨oo, ho1, h⟩ := b6 h
 refine AWP.rngS ho1 (fun op5 _ => ⟨[(1, .c (row 1 d6 all)), (2, .c (row 1 intI value)), (3, .c (row 1 intI sv)), (4, .c (.ptr 0 0 0)), (9, .c (int op5))], [.one (.cells 4 [(tO ov)])]⟩) (fun o e st => match o with | .inl _ => e = .exit 0 ∧ Sub [] st ⟨[], [.one (.cells 4 [(tO ov)])]⟩ | .inr x => e = .ret ∧ Done [.t 8] (fun t _ => t = .c (int x)) .ret st) ?_ ?_ ?_ ?_
 ·try dsimp only
  exact Sub.env ⟨Z, Z, Z, Z, Z, Y⟩
 ·intro op5 s hloop5 hltop5 _
  try dsimp only
  refine AWP.d (.d (.f (.a Z Z (W.fieldAddr Z Z Z Z (.m Z Z Z Z Z Z (S.len Z Z (fun hl13 => .j Z Z Z (.nil (b5 (.q Z hltop5 (.exit (d8 (d8 ⟨Z, ?_⟩)))))))))))))
  exact Sub.env trivial
 ·intro op5 s o hloop5 hltop5 h
  unfold H4 at h
  try dsimp only at h ⊢
  refine AWP.d (.d (.f (.a Z Z (W.fieldAddr Z Z Z Z (.m Z Z Z Z Z Z (S.len Z Z (fun hl13 => .j Z Z Z (.nil (b5 (.r Z hltop5 (.skip (b5 (.d (.k ?_))))))))))))))
  obtain ⟨t6, hx7, h⟩ := b6 h
  refine AWP.seqJ (⟨[(1, .c (row 1 d6 all)), (2, .c (row 1 intI value)), (3, .c (row 1 intI sv)), (4, .c (.ptr 0 0 0)), (9, .c (int op5)), (44, .c (bool t6))], [.one (.cells 4 [(tO ov)])]⟩) ?_ ?_
  ·obtain ⟨a20, ha20, hx7⟩ := b6 hx7
   rcases bft (a20) with hb8 | hb8
   ·replace hx7 := w9 hb8 hx7
    obtain ⟨a25, ha25, a28, ha28, hx7⟩ := b2 hx7
    rcases bft (a28) with hb9 | hb9
    ·replace hx7 := w9 hb9 hx7
     obtain ⟨a36, ha36, a40, ha40, a41, ha41, hx7⟩ := b3 hx7
     refine AWP.drawEI [8] mixed Z Z Z ?_
     refine g9.consN Z Z (fun E => W.loadAgg Z Z Z Z Z Z Z (.nil ⟨Z, Z⟩)) Z (.consN Z Z (fun E => AOps.a Z Z (.nil ⟨Z, Z⟩)) Z (.consN Z Z (fun E => AOps.a Z Z (.nil ⟨Z, Z⟩)) Z (.consN Z Z (fun E => AOps.l Z Z Z Z (s6 ha20) Z (.nil ⟨Z, Z⟩)) Z (.consN Z Z (fun E => AOps.a Z Z (.nil ⟨Z, Z⟩)) Z (.consN Z Z (fun E => AOps.g Z Z Z hb8 (W.loadAgg Z Z Z Z Z Z Z (.nil ⟨Z, Z⟩))) Z (.consN Z Z (fun E => AOps.g Z Z Z hb8 (.a Z Z (.nil ⟨Z, Z⟩))) Z (.consN Z Z (fun E => AOps.g Z Z Z hb8 (.a Z Z (.nil ⟨Z, Z⟩))) Z ?_)))))))
     apply g9.consE; exact Z; exact Z; intro E
     refine AOps.g Z Z Z hb8 (S.fresh Z Z Z Z (al1 ha25) Z Z (.nil ⟨Z, Z⟩))
     exact Z
     exact Z
     refine g9.consN Z Z (fun E => AOps.g Z Z Z hb8 (.a Z Z (.nil ⟨Z, Z⟩))) Z (.consN Z Z (fun E => AOps.g Z Z Z hb8 (.a Z Z (.nil ⟨Z, Z⟩))) Z (.consN Z Z (fun E => AOps.g Z Z Z hb8 (.y Z Z (.cons (.agg (.cons .imm (.cons .imm (.cons .imm (.cons .imm .nil))))) (.cons (.c .imm) (.cons (.c (.own Z Z)) (.cons (.c .imm) (.cons (.c .imm) .nil))))) Z (N6 ha28) Z (.nil ⟨Z, Z⟩))) Z (.consN Z Z (fun E => AOps.p Z hb8 Z Z (.nil ⟨Z, Z⟩)) Z (.consN Z Z (fun E => AOps.a Z Z (.nil ⟨Z, Z⟩)) Z (.consN Z Z (fun E => AOps.g Z Z Z hb9 (W.loadAgg Z Z Z Z Z Z Z (.nil ⟨Z, Z⟩))) Z (.consN Z Z (fun E => AOps.g Z Z Z hb9 (.a Z Z (.nil ⟨Z, Z⟩))) Z (.consN Z Z (fun E => AOps.g Z Z Z hb9 (.a Z Z (.nil ⟨Z, Z⟩))) Z (.consN Z Z (fun E => AOps.g Z Z Z hb9 (.a Z Z (.nil ⟨Z, Z⟩))) Z (.consN Z Z (fun E => AOps.g Z Z Z hb9 (.a Z Z (.nil ⟨Z, Z⟩))) Z (.consN Z Z (fun E => AOps.g Z Z Z hb9 (.l Z Z Z Z (ae1 ha36) Z (.nil ⟨Z, Z⟩))) Z (.consN Z Z (fun E => AOps.g Z Z Z hb9 (.a Z Z (.nil ⟨Z, Z⟩))) Z (.consN Z Z (fun E => AOps.g Z Z Z hb9 (.a Z Z (.nil ⟨Z, Z⟩))) Z (.consN Z Z (fun E => AOps.g Z Z Z hb9 (.a Z Z (.nil ⟨Z, Z⟩))) Z (.consN Z Z (fun E => AOps.g Z Z Z hb9 (.l Z Z Z Z (A7 ha40) Z (.nil ⟨Z, Z⟩))) Z (.consN Z Z (fun E => AOps.g Z Z Z hb9 (S.idx ha41 Z Z Z Z (.nil ⟨Z, Z⟩))) Z (.consN Z Z (fun E => AOps.g Z Z Z hb9 (.o Z Z Z Z (.nil ⟨Z, Z⟩))) Z (.consN Z Z (fun E => AOps.g Z Z Z hb9 (.j Z Z Z (.nil ⟨Z, Z⟩))) Z (.consN Z Z (fun E => AOps.p Z hb9 Z Z (.nil ⟨Z, Z⟩)) Z ?_))))))))))))))))))
     refine g9.done Z ?_ ?_
     ·refine e9.cons Z Z ?_ ?_
      refine b8.go Z Z (fun E => W.loadAgg Z Z Z Z Z Z Z (AOps.nil ⟨Z, Z⟩)) ?_
      refine b8.skip Z (b8.nil)
      refine e9.cons Z Z ?_ ?_
      refine b8.go Z Z (fun E => AOps.a Z Z (AOps.nil ⟨Z, Z⟩)) ?_
      refine b8.skip Z (b8.nil)
      refine e9.cons Z Z ?_ ?_
      refine b8.go Z Z (fun E => AOps.a Z Z (AOps.nil ⟨Z, Z⟩)) ?_
      refine b8.skip Z (b8.nil)
      refine e9.cons Z Z ?_ ?_
      refine b8.go Z Z (fun E => AOps.l Z Z Z Z (s6 ha20) Z (AOps.nil ⟨Z, Z⟩)) ?_
      refine b8.skip Z (b8.nil)
      refine e9.cons Z Z ?_ ?_
      refine b8.go Z Z (fun E => AOps.a Z Z (AOps.nil ⟨Z, Z⟩)) ?_
      refine b8.skip Z (b8.nil)
      refine e9.cons Z Z ?_ ?_
      refine b8.go Z Z (fun E => AOps.g Z Z Z hb8 (W.loadAgg Z Z Z Z Z Z Z (AOps.nil ⟨Z, Z⟩))) ?_
      refine b8.go Z Z (fun E => AOps.g Z Z Z hb8 (W.loadAgg Z Z Z Z Z Z Z (AOps.nil ⟨Z, Z⟩))) ?_
      exact b8.nil
      refine e9.cons Z Z ?_ ?_
      refine b8.go Z Z (fun E => AOps.g Z Z Z hb8 (AOps.a Z Z (AOps.nil ⟨Z, Z⟩))) ?_
      refine b8.go Z Z (fun E => AOps.g Z Z Z hb8 (AOps.a Z Z (AOps.nil ⟨Z, Z⟩))) ?_
      exact b8.nil
      refine e9.cons Z Z ?_ ?_
      refine b8.go Z Z (fun E => AOps.g Z Z Z hb8 (AOps.a Z Z (AOps.nil ⟨Z, Z⟩))) ?_
      refine b8.skip Z (b8.nil)
      refine e9.skip Z ?_
      refine e9.cons Z Z ?_ ?_
      refine b8.go Z Z (fun E => AOps.g Z Z Z hb8 (AOps.a Z Z (AOps.nil ⟨Z, Z⟩))) ?_
      refine b8.go Z Z (fun E => AOps.g Z Z Z hb8 (AOps.a Z Z (AOps.nil ⟨Z, Z⟩))) ?_
      exact b8.nil
      refine e9.cons Z Z ?_ ?_
      refine b8.go Z Z (fun E => AOps.g Z Z Z hb8 (AOps.a Z Z (AOps.nil ⟨Z, Z⟩))) ?_
      refine b8.go Z Z (fun E => AOps.g Z Z Z hb8 (AOps.a Z Z (AOps.nil ⟨Z, Z⟩))) ?_
      exact b8.nil
      refine e9.cons Z Z ?_ ?_
      refine b8.skip Z ?_
      refine b8.go Z Z (fun E => AOps.g Z Z Z hb8 (AOps.y Z Z (.cons (.agg (.cons .imm (.cons .imm (.cons .imm (.cons .imm .nil))))) (.cons (.c .imm) (.cons (.c (.own Z Z)) (.cons (.c .imm) (.cons (.c .imm) .nil))))) Z (N6 ha28) Z (AOps.nil ⟨Z, Z⟩))) ?_
      exact b8.nil
      refine e9.cons Z Z ?_ ?_
      refine b8.skip Z ?_
      refine b8.go Z Z (fun E => AOps.p Z hb8 Z Z (AOps.nil ⟨Z, Z⟩)) ?_
      exact b8.nil
      refine e9.cons Z Z ?_ ?_
      refine b8.skip Z ?_
      refine b8.go Z Z (fun E => AOps.a Z Z (AOps.nil ⟨Z, Z⟩)) ?_
      exact b8.nil
      refine e9.cons Z Z ?_ ?_
      refine b8.skip Z ?_
      refine b8.go Z Z (fun E => AOps.g Z Z Z hb9 (W.loadAgg Z Z Z Z Z Z Z (AOps.nil ⟨Z, Z⟩))) ?_
      exact b8.nil
      refine e9.cons Z Z ?_ ?_
      refine b8.skip Z ?_
      refine b8.go Z Z (fun E => AOps.g Z Z Z hb9 (AOps.a Z Z (AOps.nil ⟨Z, Z⟩))) ?_
      exact b8.nil
      refine e9.cons Z Z ?_ ?_
      refine b8.skip Z ?_
      refine b8.go Z Z (fun E => AOps.g Z Z Z hb9 (AOps.a Z Z (AOps.nil ⟨Z, Z⟩))) ?_
      exact b8.nil
      refine e9.cons Z Z ?_ ?_
      refine b8.skip Z ?_
      refine b8.go Z Z (fun E => AOps.g Z Z Z hb9 (AOps.a Z Z (AOps.nil ⟨Z, Z⟩))) ?_
      exact b8.nil
      refine e9.cons Z Z ?_ ?_
      refine b8.skip Z ?_
      refine b8.go Z Z (fun E => AOps.g Z Z Z hb9 (AOps.a Z Z (AOps.nil ⟨Z, Z⟩))) ?_
      exact b8.nil
      refine e9.cons Z Z ?_ ?_
      refine b8.skip Z ?_
      refine b8.go Z Z (fun E => AOps.g Z Z Z hb9 (AOps.l Z Z Z Z (ae1 ha36) Z (AOps.nil ⟨Z, Z⟩))) ?_
      exact b8.nil
      refine e9.cons Z Z ?_ ?_
      refine b8.skip Z ?_
      refine b8.go Z Z (fun E => AOps.g Z Z Z hb9 (AOps.a Z Z (AOps.nil ⟨Z, Z⟩))) ?_
      exact b8.nil
      refine e9.cons Z Z ?_ ?_
      refine b8.skip Z ?_
      refine b8.go Z Z (fun E => AOps.g Z Z Z hb9 (AOps.a Z Z (AOps.nil ⟨Z, Z⟩))) ?_
      exact b8.nil
      refine e9.cons Z Z ?_ ?_
      refine b8.skip Z ?_
      refine b8.go Z Z (fun E => AOps.g Z Z Z hb9 (AOps.a Z Z (AOps.nil ⟨Z, Z⟩))) ?_
      exact b8.nil
      refine e9.cons Z Z ?_ ?_
      refine b8.skip Z ?_
      refine b8.go Z Z (fun E => AOps.g Z Z Z hb9 (AOps.l Z Z Z Z (A7 ha40) Z (AOps.nil ⟨Z, Z⟩))) ?_
      exact b8.nil
      refine e9.cons Z Z ?_ ?_
      refine b8.skip Z ?_
      refine b8.go Z Z (fun E => AOps.g Z Z Z hb9 (S.idx ha41 Z Z Z Z (AOps.nil ⟨Z, Z⟩))) ?_
      exact b8.nil
      refine e9.cons Z Z ?_ ?_
      refine b8.skip Z ?_
      refine b8.go Z Z (fun E => AOps.g Z Z Z hb9 (AOps.o Z Z Z Z (AOps.nil ⟨Z, Z⟩))) ?_
      exact b8.nil
      refine e9.cons Z Z ?_ ?_
      refine b8.skip Z ?_
      refine b8.go Z Z (fun E => AOps.g Z Z Z hb9 (AOps.j Z Z Z (AOps.nil ⟨Z, Z⟩))) ?_
      exact b8.nil
      refine e9.cons Z Z ?_ ?_
      refine b8.skip Z ?_
      refine b8.go Z Z (fun E => AOps.p Z hb9 Z Z (AOps.nil ⟨Z, Z⟩)) ?_
      exact b8.nil
      exact e9.nil
     dsimp only [j6]
     obtain rfl := oi hx7
     refine b5 (Sub.cut ⟨Z, Z, Z, Z, Z, Z, Y⟩ Z ⟨.one Z, Y⟩ Z)
    ·replace hx7 := w6 hb9 hx7
     refine AWP.drawEI [8] mixed Z Z Z ?_
     refine g9.consN Z Z (fun E => W.loadAgg Z Z Z Z Z Z Z (.nil ⟨Z, Z⟩)) Z (.consN Z Z (fun E => AOps.a Z Z (.nil ⟨Z, Z⟩)) Z (.consN Z Z (fun E => AOps.a Z Z (.nil ⟨Z, Z⟩)) Z (.consN Z Z (fun E => AOps.l Z Z Z Z (s6 ha20) Z (.nil ⟨Z, Z⟩)) Z (.consN Z Z (fun E => AOps.a Z Z (.nil ⟨Z, Z⟩)) Z (.consN Z Z (fun E => AOps.g Z Z Z hb8 (W.loadAgg Z Z Z Z Z Z Z (.nil ⟨Z, Z⟩))) Z (.consN Z Z (fun E => AOps.g Z Z Z hb8 (.a Z Z (.nil ⟨Z, Z⟩))) Z (.consN Z Z (fun E => AOps.g Z Z Z hb8 (.a Z Z (.nil ⟨Z, Z⟩))) Z ?_)))))))
     apply g9.consE; exact Z; exact Z; intro E
     refine AOps.g Z Z Z hb8 (S.fresh Z Z Z Z (al1 ha25) Z Z (.nil ⟨Z, Z⟩))
     exact Z
     exact Z
     refine g9.consN Z Z (fun E => AOps.g Z Z Z hb8 (.a Z Z (.nil ⟨Z, Z⟩))) Z (.consN Z Z (fun E => AOps.g Z Z Z hb8 (.a Z Z (.nil ⟨Z, Z⟩))) Z (.consN Z Z (fun E => AOps.g Z Z Z hb8 (.y Z Z (.cons (.agg (.cons .imm (.cons .imm (.cons .imm (.cons .imm .nil))))) (.cons (.c .imm) (.cons (.c (.own Z Z)) (.cons (.c .imm) (.cons (.c .imm) .nil))))) Z (N6 ha28) Z (.nil ⟨Z, Z⟩))) Z (.consN Z Z (fun E => AOps.p Z hb8 Z Z (.nil ⟨Z, Z⟩)) Z (.consN Z Z (fun E => AOps.a Z Z (.nil ⟨Z, Z⟩)) Z (.consN Z Z (fun E => AOps.i Z Z Z hb9 (.nil ⟨Z, Z⟩)) Z (.consN Z Z (fun E => AOps.i Z Z Z hb9 (.nil ⟨Z, Z⟩)) Z (.consN Z Z (fun E => AOps.i Z Z Z hb9 (.nil ⟨Z, Z⟩)) Z (.consN Z Z (fun E => AOps.i Z Z Z hb9 (.nil ⟨Z, Z⟩)) Z (.consN Z Z (fun E => AOps.i Z Z Z hb9 (.nil ⟨Z, Z⟩)) Z (.consN Z Z (fun E => AOps.i Z Z Z hb9 (.nil ⟨Z, Z⟩)) Z (.consN Z Z (fun E => AOps.i Z Z Z hb9 (.nil ⟨Z, Z⟩)) Z (.consN Z Z (fun E => AOps.i Z Z Z hb9 (.nil ⟨Z, Z⟩)) Z (.consN Z Z (fun E => AOps.i Z Z Z hb9 (.nil ⟨Z, Z⟩)) Z (.consN Z Z (fun E => AOps.i Z Z Z hb9 (.nil ⟨Z, Z⟩)) Z (.consN Z Z (fun E => AOps.i Z Z Z hb9 (.nil ⟨Z, Z⟩)) Z (.consN Z Z (fun E => AOps.i Z Z Z hb9 (.nil ⟨Z, Z⟩)) Z (.consN Z Z (fun E => AOps.i Z Z Z hb9 (.nil ⟨Z, Z⟩)) Z (.consN Z Z (fun E => AOps.n Z hb9 Z Z (.nil ⟨Z, Z⟩)) Z ?_))))))))))))))))))
     refine g9.done Z ?_ ?_
     ·refine e9.cons Z Z ?_ ?_
      refine b8.go Z Z (fun E => W.loadAgg Z Z Z Z Z Z Z (AOps.nil ⟨Z, Z⟩)) ?_
      refine b8.skip Z (b8.nil)
      refine e9.cons Z Z ?_ ?_
      refine b8.go Z Z (fun E => AOps.a Z Z (AOps.nil ⟨Z, Z⟩)) ?_
      refine b8.skip Z (b8.nil)
      refine e9.cons Z Z ?_ ?_
      refine b8.go Z Z (fun E => AOps.a Z Z (AOps.nil ⟨Z, Z⟩)) ?_
      refine b8.skip Z (b8.nil)
      refine e9.cons Z Z ?_ ?_
      refine b8.go Z Z (fun E => AOps.l Z Z Z Z (s6 ha20) Z (AOps.nil ⟨Z, Z⟩)) ?_
      refine b8.skip Z (b8.nil)
      refine e9.cons Z Z ?_ ?_
      refine b8.go Z Z (fun E => AOps.a Z Z (AOps.nil ⟨Z, Z⟩)) ?_
      refine b8.skip Z (b8.nil)
      refine e9.cons Z Z ?_ ?_
      refine b8.go Z Z (fun E => AOps.g Z Z Z hb8 (W.loadAgg Z Z Z Z Z Z Z (AOps.nil ⟨Z, Z⟩))) ?_
      refine b8.go Z Z (fun E => AOps.g Z Z Z hb8 (W.loadAgg Z Z Z Z Z Z Z (AOps.nil ⟨Z, Z⟩))) ?_
      exact b8.nil
      refine e9.cons Z Z ?_ ?_
      refine b8.go Z Z (fun E => AOps.g Z Z Z hb8 (AOps.a Z Z (AOps.nil ⟨Z, Z⟩))) ?_
      refine b8.go Z Z (fun E => AOps.g Z Z Z hb8 (AOps.a Z Z (AOps.nil ⟨Z, Z⟩))) ?_
      exact b8.nil
      refine e9.cons Z Z ?_ ?_
      refine b8.go Z Z (fun E => AOps.g Z Z Z hb8 (AOps.a Z Z (AOps.nil ⟨Z, Z⟩))) ?_
      refine b8.skip Z (b8.nil)
      refine e9.skip Z ?_
      refine e9.cons Z Z ?_ ?_
      refine b8.go Z Z (fun E => AOps.g Z Z Z hb8 (AOps.a Z Z (AOps.nil ⟨Z, Z⟩))) ?_
      refine b8.go Z Z (fun E => AOps.g Z Z Z hb8 (AOps.a Z Z (AOps.nil ⟨Z, Z⟩))) ?_
      exact b8.nil
      refine e9.cons Z Z ?_ ?_
      refine b8.go Z Z (fun E => AOps.g Z Z Z hb8 (AOps.a Z Z (AOps.nil ⟨Z, Z⟩))) ?_
      refine b8.go Z Z (fun E => AOps.g Z Z Z hb8 (AOps.a Z Z (AOps.nil ⟨Z, Z⟩))) ?_
      exact b8.nil
      refine e9.cons Z Z ?_ ?_
      refine b8.skip Z ?_
      refine b8.go Z Z (fun E => AOps.g Z Z Z hb8 (AOps.y Z Z (.cons (.agg (.cons .imm (.cons .imm (.cons .imm (.cons .imm .nil))))) (.cons (.c .imm) (.cons (.c (.own Z Z)) (.cons (.c .imm) (.cons (.c .imm) .nil))))) Z (N6 ha28) Z (AOps.nil ⟨Z, Z⟩))) ?_
      exact b8.nil
      refine e9.cons Z Z ?_ ?_
      refine b8.skip Z ?_
      refine b8.go Z Z (fun E => AOps.p Z hb8 Z Z (AOps.nil ⟨Z, Z⟩)) ?_
      exact b8.nil
      refine e9.cons Z Z ?_ ?_
      refine b8.skip Z ?_
      refine b8.go Z Z (fun E => AOps.a Z Z (AOps.nil ⟨Z, Z⟩)) ?_
      exact b8.nil
      refine e9.cons Z Z ?_ ?_
      refine b8.skip Z ?_
      refine b8.go Z Z (fun E => AOps.i Z Z Z hb9 (AOps.nil ⟨Z, Z⟩)) ?_
      exact b8.nil
      refine e9.cons Z Z ?_ ?_
      refine b8.skip Z ?_
      refine b8.go Z Z (fun E => AOps.i Z Z Z hb9 (AOps.nil ⟨Z, Z⟩)) ?_
      exact b8.nil
      refine e9.cons Z Z ?_ ?_
      refine b8.skip Z ?_
      refine b8.go Z Z (fun E => AOps.i Z Z Z hb9 (AOps.nil ⟨Z, Z⟩)) ?_
      exact b8.nil
      refine e9.cons Z Z ?_ ?_
      refine b8.skip Z ?_
      refine b8.go Z Z (fun E => AOps.i Z Z Z hb9 (AOps.nil ⟨Z, Z⟩)) ?_
      exact b8.nil
      refine e9.cons Z Z ?_ ?_
      refine b8.skip Z ?_
      refine b8.go Z Z (fun E => AOps.i Z Z Z hb9 (AOps.nil ⟨Z, Z⟩)) ?_
      exact b8.nil
      refine e9.cons Z Z ?_ ?_
      refine b8.skip Z ?_
      refine b8.go Z Z (fun E => AOps.i Z Z Z hb9 (AOps.nil ⟨Z, Z⟩)) ?_
      exact b8.nil
      refine e9.cons Z Z ?_ ?_
      refine b8.skip Z ?_
      refine b8.go Z Z (fun E => AOps.i Z Z Z hb9 (AOps.nil ⟨Z, Z⟩)) ?_
      exact b8.nil
      refine e9.cons Z Z ?_ ?_
      refine b8.skip Z ?_
      refine b8.go Z Z (fun E => AOps.i Z Z Z hb9 (AOps.nil ⟨Z, Z⟩)) ?_
      exact b8.nil
      refine e9.cons Z Z ?_ ?_
      refine b8.skip Z ?_
      refine b8.go Z Z (fun E => AOps.i Z Z Z hb9 (AOps.nil ⟨Z, Z⟩)) ?_
      exact b8.nil
      refine e9.cons Z Z ?_ ?_
      refine b8.skip Z ?_
      refine b8.go Z Z (fun E => AOps.i Z Z Z hb9 (AOps.nil ⟨Z, Z⟩)) ?_
      exact b8.nil
      refine e9.cons Z Z ?_ ?_
      refine b8.skip Z ?_
      refine b8.go Z Z (fun E => AOps.i Z Z Z hb9 (AOps.nil ⟨Z, Z⟩)) ?_
      exact b8.nil
      refine e9.cons Z Z ?_ ?_
      refine b8.skip Z ?_
      refine b8.go Z Z (fun E => AOps.i Z Z Z hb9 (AOps.nil ⟨Z, Z⟩)) ?_
      exact b8.nil
      refine e9.cons Z Z ?_ ?_
      refine b8.skip Z ?_
      refine b8.go Z Z (fun E => AOps.i Z Z Z hb9 (AOps.nil ⟨Z, Z⟩)) ?_
      exact b8.nil
      refine e9.cons Z Z ?_ ?_
      refine b8.skip Z ?_
      refine b8.go Z Z (fun E => AOps.n Z hb9 Z Z (AOps.nil ⟨Z, Z⟩)) ?_
      exact b8.nil
      exact e9.nil
     dsimp only [j6]
     obtain rfl := oi hx7
     refine b5 (Sub.cut ⟨Z, Z, Z, Z, Z, Z, Y⟩ Z ⟨.one Z, Y⟩ Z)
   ·replace hx7 := w6 hb8 hx7
    refine AWP.drawEI [8] mixed Z Z Z ?_
    refine g9.consN Z Z (fun E => W.loadAgg Z Z Z Z Z Z Z (.nil ⟨Z, Z⟩)) Z (.consN Z Z (fun E => AOps.a Z Z (.nil ⟨Z, Z⟩)) Z (.consN Z Z (fun E => AOps.a Z Z (.nil ⟨Z, Z⟩)) Z (.consN Z Z (fun E => AOps.l Z Z Z Z (s6 ha20) Z (.nil ⟨Z, Z⟩)) Z (.consN Z Z (fun E => AOps.a Z Z (.nil ⟨Z, Z⟩)) Z (.consN Z Z (fun E => AOps.i Z Z Z hb8 (.nil ⟨Z, Z⟩)) Z (.consN Z Z (fun E => AOps.i Z Z Z hb8 (.nil ⟨Z, Z⟩)) Z (.consN Z Z (fun E => AOps.i Z Z Z hb8 (.nil ⟨Z, Z⟩)) Z ?_)))))))
    apply g9.consE; exact Z; exact Z; intro E
    refine AOps.i Z Z Z hb8 (.nil ⟨Z, Z⟩)
    exact Z
    exact Z
    refine g9.consN Z Z (fun E => AOps.i Z Z Z hb8 (.nil ⟨Z, Z⟩)) Z (.consN Z Z (fun E => AOps.i Z Z Z hb8 (.nil ⟨Z, Z⟩)) Z (.consN Z Z (fun E => AOps.i Z Z Z hb8 (.nil ⟨Z, Z⟩)) Z (.consN Z Z (fun E => AOps.n Z hb8 Z Z (.nil ⟨Z, Z⟩)) Z (.consN Z Z (fun E => AOps.a Z Z (.nil ⟨Z, Z⟩)) Z (.consN Z Z (fun E => AOps.i Z Z Z Z (.nil ⟨Z, Z⟩)) Z (.consN Z Z (fun E => AOps.i Z Z Z Z (.nil ⟨Z, Z⟩)) Z (.consN Z Z (fun E => AOps.i Z Z Z Z (.nil ⟨Z, Z⟩)) Z (.consN Z Z (fun E => AOps.i Z Z Z Z (.nil ⟨Z, Z⟩)) Z (.consN Z Z (fun E => AOps.i Z Z Z Z (.nil ⟨Z, Z⟩)) Z (.consN Z Z (fun E => AOps.i Z Z Z Z (.nil ⟨Z, Z⟩)) Z (.consN Z Z (fun E => AOps.i Z Z Z Z (.nil ⟨Z, Z⟩)) Z (.consN Z Z (fun E => AOps.i Z Z Z Z (.nil ⟨Z, Z⟩)) Z (.consN Z Z (fun E => AOps.i Z Z Z Z (.nil ⟨Z, Z⟩)) Z (.consN Z Z (fun E => AOps.i Z Z Z Z (.nil ⟨Z, Z⟩)) Z (.consN Z Z (fun E => AOps.i Z Z Z Z (.nil ⟨Z, Z⟩)) Z (.consN Z Z (fun E => AOps.i Z Z Z Z (.nil ⟨Z, Z⟩)) Z (.consN Z Z (fun E => AOps.i Z Z Z Z (.nil ⟨Z, Z⟩)) Z (.consN Z Z (fun E => AOps.n Z Z Z Z (.nil ⟨Z, Z⟩)) Z ?_))))))))))))))))))
    refine g9.done Z ?_ ?_
    ·refine e9.cons Z Z ?_ ?_
     refine b8.go Z Z (fun E => W.loadAgg Z Z Z Z Z Z Z (AOps.nil ⟨Z, Z⟩)) ?_
     refine b8.skip Z (b8.nil)
     refine e9.cons Z Z ?_ ?_
     refine b8.go Z Z (fun E => AOps.a Z Z (AOps.nil ⟨Z, Z⟩)) ?_
     refine b8.skip Z (b8.nil)
     refine e9.cons Z Z ?_ ?_
     refine b8.go Z Z (fun E => AOps.a Z Z (AOps.nil ⟨Z, Z⟩)) ?_
     refine b8.skip Z (b8.nil)
     refine e9.cons Z Z ?_ ?_
     refine b8.go Z Z (fun E => AOps.l Z Z Z Z (s6 ha20) Z (AOps.nil ⟨Z, Z⟩)) ?_
     refine b8.skip Z (b8.nil)
     refine e9.cons Z Z ?_ ?_
     refine b8.go Z Z (fun E => AOps.a Z Z (AOps.nil ⟨Z, Z⟩)) ?_
     refine b8.skip Z (b8.nil)
     refine e9.cons Z Z ?_ ?_
     refine b8.go Z Z (fun E => AOps.i Z Z Z hb8 (AOps.nil ⟨Z, Z⟩)) ?_
     refine b8.go Z Z (fun E => AOps.i Z Z Z hb8 (AOps.nil ⟨Z, Z⟩)) ?_
     exact b8.nil
     refine e9.cons Z Z ?_ ?_
     refine b8.go Z Z (fun E => AOps.i Z Z Z hb8 (AOps.nil ⟨Z, Z⟩)) ?_
     refine b8.go Z Z (fun E => AOps.i Z Z Z hb8 (AOps.nil ⟨Z, Z⟩)) ?_
     exact b8.nil
     refine e9.cons Z Z ?_ ?_
     refine b8.go Z Z (fun E => AOps.i Z Z Z hb8 (AOps.nil ⟨Z, Z⟩)) ?_
     refine b8.skip Z (b8.nil)
     refine e9.skip Z ?_
     refine e9.cons Z Z ?_ ?_
     refine b8.go Z Z (fun E => AOps.i Z Z Z hb8 (AOps.nil ⟨Z, Z⟩)) ?_
     refine b8.go Z Z (fun E => AOps.i Z Z Z hb8 (AOps.nil ⟨Z, Z⟩)) ?_
     exact b8.nil
     refine e9.cons Z Z ?_ ?_
     refine b8.go Z Z (fun E => AOps.i Z Z Z hb8 (AOps.nil ⟨Z, Z⟩)) ?_
     refine b8.go Z Z (fun E => AOps.i Z Z Z hb8 (AOps.nil ⟨Z, Z⟩)) ?_
     exact b8.nil
     refine e9.cons Z Z ?_ ?_
     refine b8.skip Z ?_
     refine b8.go Z Z (fun E => AOps.i Z Z Z hb8 (AOps.nil ⟨Z, Z⟩)) ?_
     exact b8.nil
     refine e9.cons Z Z ?_ ?_
     refine b8.skip Z ?_
     refine b8.go Z Z (fun E => AOps.n Z hb8 Z Z (AOps.nil ⟨Z, Z⟩)) ?_
     exact b8.nil
     refine e9.cons Z Z ?_ ?_
     refine b8.skip Z ?_
     refine b8.go Z Z (fun E => AOps.a Z Z (AOps.nil ⟨Z, Z⟩)) ?_
     exact b8.nil
     refine e9.cons Z Z ?_ ?_
     refine b8.skip Z ?_
     refine b8.go Z Z (fun E => AOps.i Z Z Z Z (AOps.nil ⟨Z, Z⟩)) ?_
     exact b8.nil
     refine e9.cons Z Z ?_ ?_
     refine b8.skip Z ?_
     refine b8.go Z Z (fun E => AOps.i Z Z Z Z (AOps.nil ⟨Z, Z⟩)) ?_
     exact b8.nil
     refine e9.cons Z Z ?_ ?_
     refine b8.skip Z ?_
     refine b8.go Z Z (fun E => AOps.i Z Z Z Z (AOps.nil ⟨Z, Z⟩)) ?_
     exact b8.nil
     refine e9.cons Z Z ?_ ?_
     refine b8.skip Z ?_
     refine b8.go Z Z (fun E => AOps.i Z Z Z Z (AOps.nil ⟨Z, Z⟩)) ?_
     exact b8.nil
     refine e9.cons Z Z ?_ ?_
     refine b8.skip Z ?_
     refine b8.go Z Z (fun E => AOps.i Z Z Z Z (AOps.nil ⟨Z, Z⟩)) ?_
     exact b8.nil
     refine e9.cons Z Z ?_ ?_
     refine b8.skip Z ?_
     refine b8.go Z Z (fun E => AOps.i Z Z Z Z (AOps.nil ⟨Z, Z⟩)) ?_
     exact b8.nil
     refine e9.cons Z Z ?_ ?_
     refine b8.skip Z ?_
     refine b8.go Z Z (fun E => AOps.i Z Z Z Z (AOps.nil ⟨Z, Z⟩)) ?_
     exact b8.nil
     refine e9.cons Z Z ?_ ?_
     refine b8.skip Z ?_
     refine b8.go Z Z (fun E => AOps.i Z Z Z Z (AOps.nil ⟨Z, Z⟩)) ?_
     exact b8.nil
     refine e9.cons Z Z ?_ ?_
     refine b8.skip Z ?_
     refine b8.go Z Z (fun E => AOps.i Z Z Z Z (AOps.nil ⟨Z, Z⟩)) ?_
     exact b8.nil
     refine e9.cons Z Z ?_ ?_
     refine b8.skip Z ?_
     refine b8.go Z Z (fun E => AOps.i Z Z Z Z (AOps.nil ⟨Z, Z⟩)) ?_
     exact b8.nil
     refine e9.cons Z Z ?_ ?_
     refine b8.skip Z ?_
     refine b8.go Z Z (fun E => AOps.i Z Z Z Z (AOps.nil ⟨Z, Z⟩)) ?_
     exact b8.nil
     refine e9.cons Z Z ?_ ?_
     refine b8.skip Z ?_
     refine b8.go Z Z (fun E => AOps.i Z Z Z Z (AOps.nil ⟨Z, Z⟩)) ?_
     exact b8.nil
     refine e9.cons Z Z ?_ ?_
     refine b8.skip Z ?_
     refine b8.go Z Z (fun E => AOps.i Z Z Z Z (AOps.nil ⟨Z, Z⟩)) ?_
     exact b8.nil
     refine e9.cons Z Z ?_ ?_
     refine b8.skip Z ?_
     refine b8.go Z Z (fun E => AOps.n Z Z Z Z (AOps.nil ⟨Z, Z⟩)) ?_
     exact b8.nil
     exact e9.nil
    dsimp only [j6]
    obtain rfl := oi hx7
    refine b5 (Sub.env ⟨Z, Z, Z, Z, Z, Z, Y⟩)
  ·refine AWP.s Z h (fun hc10 h => ?_) (fun hc10 h => ?_)
   ·refine AWP.d (.f (.a Z Z (.e Z Z (.nil (b5 (.ret (h9 (e8 ?_))))))))
    obtain rfl := oi h
    refine e8 ⟨_, Z, Z, ?_⟩
    exact Done.ret Z Z
   ·refine AWP.skip (d7 (b5 (.f (.a Z Z (.add Z Z Z (by omega) (.e Z Z (.nil ?_)))))))
    obtain rfl := oi h
    refine b5 ⟨_, Z, ?_⟩
    exact Sub.env ⟨Z, Z, Z, Z, Z, Y⟩
 ·intro e s hq
  rcases oo with u | x
  ·try dsimp only at h hq
   obtain ⟨rfl, hs⟩ := hq
   refine ⟨_, hs, ?_⟩
   refine g8 (b5 (.d (.f (.e Z Z (.nil (b5 (.ret ?_)))))))
   obtain rfl := oi h
   exact Done.ret Z Z
  ·try dsimp only at h hq
   obtain ⟨rfl, hs⟩ := hq
   refine ⟨_, Sub.refl _ _, ?_⟩
   refine h9 (e8 ?_)
   obtain rfl := oi h
   exact hs
theorem al2 {ov : b9} {all : LL} {value : List Int} {kind : Int} {r : (List d9)} (h : ab2 ov all value kind = some r) : f8 Tryz.prog 19 [.agg (tO ov), .c (row 1 d6 all), .c (row 1 intI value), .c (int kind)] (.c (row 2 g7 r)) := by
 unfold f8
 refine FnOk.enter (rs := [.t 8]) Tryz.func19 Z Tryz.ntmps19 Tryz.results19 Z ⟨trivial, Y⟩ (by kernel_rfl) Z ?_
 unfold ab2 at h
 refine AWP.d (.f (W.box Z Z Z Z Z Z (.e Z Z (.nil (b5 (.d (.f (.e Z Z (.nil (b5 (.k (.virtV 2 g7 9 Z Z Z ?_))))))))))))
 obtain ⟨x, ho1, h⟩ := b6 h
 refine AWP.loopS ho1 (fun c5 => ⟨[(1, .c (row 1 d6 all)), (2, .c (row 1 intI value)), (3, .c (int kind)), (4, .c (.ptr 0 0 0)), (9, .c (.own 1 0 c5.length))], [.one (.cells 4 [(tO ov)]), .one (vec 2 g7 c5)]⟩) (fun x e st => e = .ret ∧ Done [.t 8] (fun t _ => t = .c (row 2 g7 x)) .ret st) ?_ ?_ ?_
 ·try dsimp only
  exact Sub.env ⟨Z, Z, Z, Z, (x9 (by first | rfl | simp only [List.length_set])), Y⟩
 ·intro c5 o h
  unfold W5 at h
  try dsimp only at h ⊢
  refine AWP.k (.d ?_)
  obtain ⟨a19, ha19, h⟩ := b6 h
  refine AWP.f (W.loadAgg Z Z Z Z Z Z Z (.a Z Z (.frzV (id := 1) (l := c5) (env2 := [(1, .c (row 1 d6 all)), (2, .c (row 1 intI value)), (3, .c (int kind)), (4, .c (.ptr 0 0 0)), (9, .c (row 2 g7 c5)), (17, .agg (tO ov)), (18, .c (row 2 g7 c5))]) (σ2 := [.one (.cells 4 [(tO ov)]), .dead]) Z Z (by exact ⟨⟨_, Z, .inl ⟨Z, Z⟩⟩, ⟨_, Z, .inl ⟨Z, Z⟩⟩, ⟨_, Z, .inl ⟨Z, Z⟩⟩, ⟨_, Z, .inl ⟨Z, Z⟩⟩, ⟨_, Z, .inr ⟨_, Z, Z, Z⟩⟩, ⟨_, Z, ⟨.inl ⟨Z, Z⟩, .inl ⟨Z, Z⟩, .inl ⟨Z, Z⟩, .inl ⟨Z, Z⟩, Y⟩⟩, ⟨_, Z, .inr ⟨_, Z, Z, Z⟩⟩, Y⟩) Z (by exact ⟨⟨Z, .inl ⟨Z, Z⟩, .inl ⟨Z, Z⟩, .inl ⟨Z, Z⟩, .inl ⟨Z, Z⟩, Y⟩, trivial, Y⟩) (.l Z Z Z Z (ref8_Visited_ok ha19) Z (.e Z Z (.nil (b5 (.d (.f (.e Z Z (.nil (b5 (.d (.d (.f (.e Z Z (.nil (b5 (.k ?_)))))))))))))))))))
  obtain ⟨fresh6, ho2, h⟩ := b6 h
  refine AWP.forS ho2 (fun iv7 fresh6 => ⟨[(1, .c (row 1 d6 all)), (2, .c (row 1 intI value)), (3, .c (int kind)), (4, .c (.ptr 0 0 0)), (9, .c (row 2 g7 c5)), (10, .c (row 1 d6 a19)), (11, .c (int fresh6)), (12, .c (int iv7))], [.one (.cells 4 [(tO ov)])]⟩) (fun fresh6 e st => e = .exit 2 ∧ Sub [] st ⟨[(1, .c (row 1 d6 all)), (2, .c (row 1 intI value)), (3, .c (int kind)), (4, .c (.ptr 0 0 0)), (9, .c (row 2 g7 c5)), (10, .c (row 1 d6 a19)), (11, .c (int fresh6))], [.one (.cells 4 [(tO ov)])]⟩) ?_ ?_ ?_ ?_
  ·try dsimp only
   exact Sub.cut ⟨Z, Z, Z, Z, Z, Z, Z, Z, Y⟩ Z ⟨.one Z, Y⟩ Z
  ·intro iv7 fresh6 hloiv7 hltiv7 _
   try dsimp only
   refine AWP.d (.d (.f (.a Z Z (.a Z Z (S.len Z Z (fun hl22 => .j Z Z Z (.nil (b5 (.q Z hltiv7 (.exit (d8 (d8 ⟨Z, ?_⟩))))))))))))
   exact Sub.env ⟨Z, Z, Z, Z, Z, Z, Z, Y⟩
  ·intro iv7 fresh6 o hloiv7 hltiv7 h
   unfold W7 at h
   try dsimp only at h ⊢
   refine AWP.d (.d (.f (.a Z Z (.a Z Z (S.len Z Z (fun hl22 => .j Z Z Z (.nil (b5 (.r Z hltiv7 (.skip (b5 ?_)))))))))))
   obtain ⟨fresh8, hx9, h⟩ := b6 h
   refine AWP.seqJ (⟨[(1, .c (row 1 d6 all)), (2, .c (row 1 intI value)), (3, .c (int kind)), (4, .c (.ptr 0 0 0)), (9, .c (row 2 g7 c5)), (10, .c (row 1 d6 a19)), (11, .c (int fresh8)), (12, .c (int iv7))], [.one (.cells 4 [(tO ov)])]⟩) ?_ ?_
   ·refine AWP.k ?_
    obtain ⟨t10, hx11, hx9⟩ := b6 hx9
    refine AWP.seqJ (⟨[(1, .c (row 1 d6 all)), (2, .c (row 1 intI value)), (3, .c (int kind)), (4, .c (.ptr 0 0 0)), (9, .c (row 2 g7 c5)), (10, .c (row 1 d6 a19)), (11, .c (int fresh6)), (12, .c (int iv7)), (41, .c (bool t10))], [.one (.cells 4 [(tO ov)])]⟩) ?_ ?_
    ·obtain ⟨a29, ha29, a31, ha31, hx11⟩ := b2 hx11
     rcases bft (!a31) with hb12 | hb12
     ·replace hx11 := w9 hb12 hx11
      obtain ⟨a37, ha37, a39, ha39, hx11⟩ := b2 hx11
      refine AWP.drawI mixed Z ?_
      refine i5.consF Z (fun E => W.loadAgg Z Z Z Z Z Z Z (.nil ⟨Z, Z⟩)) Z (.consF Z (fun E => AOps.a Z Z (.nil ⟨Z, Z⟩)) Z (.consF Z (fun E => AOps.a Z Z (.nil ⟨Z, Z⟩)) Z (.consF Z (fun E => S.idx ha29 Z Z Z Z (.nil ⟨Z, Z⟩)) Z (.consF Z (fun E => AOps.o Z Z Z Z (.nil ⟨Z, Z⟩)) Z (.consF Z (fun E => AOps.l Z Z Z Z (ab0 ha31) Z (.nil ⟨Z, Z⟩)) Z (.consF Z (fun E => AOps.u Z Z (.nil ⟨Z, Z⟩)) Z (.consF Z (fun E => AOps.a Z Z (.nil ⟨Z, Z⟩)) Z (.consF Z (fun E => AOps.g Z Z Z hb12 (.a Z Z (.nil ⟨Z, Z⟩))) Z (.consF Z (fun E => AOps.g Z Z Z hb12 (.a Z Z (.nil ⟨Z, Z⟩))) Z (.consF Z (fun E => AOps.g Z Z Z hb12 (.a Z Z (.nil ⟨Z, Z⟩))) Z (.consF Z (fun E => AOps.g Z Z Z hb12 (S.idx ha37 Z Z Z Z (.nil ⟨Z, Z⟩))) Z (.consF Z (fun E => AOps.g Z Z Z hb12 (.o Z Z Z Z (.nil ⟨Z, Z⟩))) Z (.consF Z (fun E => AOps.g Z Z Z hb12 (.l Z Z Z Z (aj3 ha39) Z (.nil ⟨Z, Z⟩))) Z (.consF Z (fun E => AOps.g Z Z Z hb12 (.j Z Z Z (.nil ⟨Z, Z⟩))) Z (.consF Z (fun E => AOps.p Z hb12 Z Z (.nil ⟨Z, Z⟩)) Z ?_)))))))))))))))
      refine i5.done ?_
      dsimp only [j6]
      obtain rfl := oi hx11
      refine b5 (Sub.env ⟨Z, Z, Z, Z, Z, Z, Z, Z, Z, Y⟩)
     ·replace hx11 := w6 hb12 hx11
      refine AWP.drawI mixed Z ?_
      refine i5.consF Z (fun E => W.loadAgg Z Z Z Z Z Z Z (.nil ⟨Z, Z⟩)) Z (.consF Z (fun E => AOps.a Z Z (.nil ⟨Z, Z⟩)) Z (.consF Z (fun E => AOps.a Z Z (.nil ⟨Z, Z⟩)) Z (.consF Z (fun E => S.idx ha29 Z Z Z Z (.nil ⟨Z, Z⟩)) Z (.consF Z (fun E => AOps.o Z Z Z Z (.nil ⟨Z, Z⟩)) Z (.consF Z (fun E => AOps.l Z Z Z Z (ab0 ha31) Z (.nil ⟨Z, Z⟩)) Z (.consF Z (fun E => AOps.u Z Z (.nil ⟨Z, Z⟩)) Z (.consF Z (fun E => AOps.a Z Z (.nil ⟨Z, Z⟩)) Z (.consF Z (fun E => AOps.i Z Z Z hb12 (.nil ⟨Z, Z⟩)) Z (.consF Z (fun E => AOps.i Z Z Z hb12 (.nil ⟨Z, Z⟩)) Z (.consF Z (fun E => AOps.i Z Z Z hb12 (.nil ⟨Z, Z⟩)) Z (.consF Z (fun E => AOps.i Z Z Z hb12 (.nil ⟨Z, Z⟩)) Z (.consF Z (fun E => AOps.i Z Z Z hb12 (.nil ⟨Z, Z⟩)) Z (.consF Z (fun E => AOps.i Z Z Z hb12 (.nil ⟨Z, Z⟩)) Z (.consF Z (fun E => AOps.i Z Z Z hb12 (.nil ⟨Z, Z⟩)) Z (.consF Z (fun E => AOps.n Z hb12 Z Z (.nil ⟨Z, Z⟩)) Z ?_)))))))))))))))
      refine i5.done ?_
      dsimp only [j6]
      obtain rfl := oi hx11
      refine b5 (Sub.env ⟨Z, Z, Z, Z, Z, Z, Z, Z, Z, Y⟩)
    ·refine AWP.s Z hx9 (fun hc13 hx9 => ?_) (fun hc13 hx9 => ?_)
     ·refine AWP.f (.a Z Z (.e Z Z (.nil (d7 ?_))))
      obtain rfl := oi hx9
      refine b5 (Sub.env ⟨Z, Z, Z, Z, Z, Z, Z, Z, Y⟩)
     ·refine AWP.skip (d7 ?_)
      obtain rfl := oi hx9
      refine b5 (Sub.env ⟨Z, Z, Z, Z, Z, Z, Z, Z, Y⟩)
   ·refine AWP.f (.a Z Z (.add Z Z Z (by omega) (.e Z Z (.nil ?_))))
    obtain rfl := oi h
    refine b5 (Sub.env ⟨Z, Z, Z, Z, Z, Z, Z, Z, Y⟩)
  ·intro e s hq
   obtain ⟨rfl, hs⟩ := hq
   refine ⟨_, hs, ?_⟩
   refine g8 (b5 (.d (.d (.f (.a Z Z (.j Z Z Z (.nil (b5 (.ite Z h (fun hc14 h => ?_) (fun hc14 h => ?_))))))))))
   ·refine AWP.d (.f (.a Z Z (.e Z Z (.nil (b5 (.ret (e8 (h9 ?_))))))))
    obtain rfl := oi h
    refine e8 ⟨_, Z, Z, ?_⟩
    exact Done.ret Z Z
   ·refine AWP.skip (b5 (.d ?_))
    obtain ⟨a48, ha48, h⟩ := b6 h
    refine AWP.f (.a Z Z (.a Z Z (S.idx ha48 Z Z Z Z (.o Z Z Z Z (.e Z Z (.nil (b5 (.d ?_))))))))
    obtain ⟨a53, ha53, a54, ha54, h⟩ := b2 h
    refine AWP.f (.a Z Z (.a Z Z (.a Z Z (.l Z Z Z Z (A7 ha53) Z (S.idx ha54 Z Z Z Z (.o Z Z Z Z (.e Z Z (.nil (b5 ?_)))))))))
    obtain ⟨op15, hx16, h⟩ := b6 h
    refine AWP.seqJ (⟨[(1, .c (row 1 d6 all)), (2, .c (row 1 intI value)), (3, .c (int kind)), (4, .c (.ptr 0 0 0)), (9, .c (row 2 g7 c5)), (13, .c (row 1 intI a48)), (14, .c (int op15))], [.one (.cells 4 [(tO ov)])]⟩) ?_ ?_
    ·refine AWP.d (.f (.a Z Z (.v Z Z Z (.nil (b5 (.ite Z hx16 (fun hc17 hx16 => ?_) (fun hc17 hx16 => ?_)))))))
     ·obtain ⟨a62, ha62, hx16⟩ := b6 hx16
      refine AWP.f (W.loadAgg Z Z Z Z Z Z Z (.a Z Z (.a Z Z (.a Z Z (.l Z Z Z Z (aj5 ha62) Z (.e Z Z (.nil ?_)))))))
      obtain rfl := oi hx16
      refine b5 (Sub.env ⟨Z, Z, Z, Z, Z, Z, Z, Y⟩)
     ·refine AWP.skip ?_
      obtain rfl := oi hx16
      refine b5 (Sub.env ⟨Z, Z, Z, Z, Z, Z, Z, Y⟩)
    ·obtain ⟨op18, hx19, h⟩ := b6 h
     refine AWP.seqJ (⟨[(1, .c (row 1 d6 all)), (2, .c (row 1 intI value)), (3, .c (int kind)), (4, .c (.ptr 0 0 0)), (9, .c (row 2 g7 c5)), (13, .c (row 1 intI a48)), (14, .c (int op18))], [.one (.cells 4 [(tO ov)])]⟩) ?_ ?_
     ·refine AWP.d (.f (.a Z Z (.v Z Z Z (.nil (b5 (.ite Z hx19 (fun hc20 hx19 => ?_) (fun hc20 hx19 => ?_)))))))
      ·obtain ⟨a69, ha69, hx19⟩ := b6 hx19
       refine AWP.f (W.loadAgg Z Z Z Z Z Z Z (.a Z Z (.a Z Z (.a Z Z (.l Z Z Z Z (aj7 ha69) Z (.e Z Z (.nil ?_)))))))
       obtain rfl := oi hx19
       refine b5 (Sub.env ⟨Z, Z, Z, Z, Z, Z, Z, Y⟩)
      ·refine AWP.skip ?_
       obtain rfl := oi hx19
       refine b5 (Sub.env ⟨Z, Z, Z, Z, Z, Z, Z, Y⟩)
     ·refine AWP.d (.f (.e Z Z (.nil (b5 (.d (.f (.e Z Z (.nil (b5 (.d (.k (.virtV 2 g7 15 Z Z Z ?_))))))))))))
      obtain ⟨⟨c23, kv24⟩, ho3, h⟩ := b6 h
      try dsimp only at h
      refine AWP.loopS ho3 (fun (c21, kv22) => ⟨[(1, .c (row 1 d6 all)), (2, .c (row 1 intI value)), (3, .c (int kind)), (4, .c (.ptr 0 0 0)), (9, .c (row 2 g7 c5)), (13, .c (row 1 intI a48)), (14, .c (int op18)), (15, .c (.own 1 0 c21.length)), (16, .c (int kv22))], [.one (.cells 4 [(tO ov)]), .one (vec 2 g7 c21)]⟩) (fun (c23, kv24) e st => e = .exit 4 ∧ Sub [] st ⟨[(1, .c (row 1 d6 all)), (2, .c (row 1 intI value)), (3, .c (int kind)), (4, .c (.ptr 0 0 0)), (9, .c (row 2 g7 c5)), (13, .c (row 1 intI a48)), (14, .c (int op18)), (15, .c (.own 1 0 c23.length)), (16, .c (int kv24))], [.one (.cells 4 [(tO ov)]), .one (vec 2 g7 c23)]⟩) ?_ ?_ ?_
      ·try dsimp only
       exact Sub.env ⟨Z, Z, Z, Z, Z, Z, Z, (x9 (by first | rfl | simp only [List.length_set])), Z, Y⟩
      ·intro s o h
       obtain ⟨c21, kv22⟩ := s
       unfold X1 at h
       try dsimp only at h ⊢
       refine AWP.d ?_
       obtain ⟨t25, hx26, h⟩ := b6 h
       refine AWP.seqJ (⟨[(1, .c (row 1 d6 all)), (2, .c (row 1 intI value)), (3, .c (int kind)), (4, .c (.ptr 0 0 0)), (9, .c (row 2 g7 c5)), (13, .c (row 1 intI a48)), (14, .c (int op18)), (15, .c (.own 1 0 c21.length)), (16, .c (int kv22)), (82, .c (bool t25))], [.one (.cells 4 [(tO ov)]), .one (vec 2 g7 c21)]⟩) ?_ ?_
       ·rcases bft (decide (kv22 < (c5.length : Int))) with hb27 | hb27
        ·replace hx26 := C2 hb27 hx26
         obtain ⟨a77, ha77, a81, ha81, hx26⟩ := b2 hx26
         refine AWP.f (.a Z Z (.a Z Z (S.len Z Z (fun hl72 => .j Z Z Z (.a Z Z (.g Z Z Z hb27 (.a Z Z (.g Z Z Z hb27 (.a Z Z (.g Z Z Z hb27 (S.idx ha77 Z Z Z Z (.g Z Z Z hb27 (W.fieldAddrI Z Z Z Z (.g Z Z Z hb27 (.o Z Z Z Z (.g Z Z Z hb27 (.a Z Z (.g Z Z Z hb27 (.l Z Z Z Z (aj4 ha81) Z (.p Z hb27 Z Z (.nil ?_)))))))))))))))))))))
         obtain rfl := oi hx26
         refine b5 (Sub.env ⟨Z, Z, Z, Z, Z, Z, Z, Z, Z, Z, Y⟩)
        ·replace hx26 := B9 hb27 hx26
         refine AWP.f (.a Z Z (.a Z Z (S.len Z Z (fun hl72 => .j Z Z Z (.a Z Z (.i Z Z Z hb27 (.i Z Z Z hb27 (.i Z Z Z hb27 (.i Z Z Z hb27 (.i Z Z Z hb27 (.i Z Z Z hb27 (.i Z Z Z hb27 (.n Z hb27 Z Z (.nil ?_))))))))))))))
         obtain rfl := oi hx26
         refine b5 (Sub.env ⟨Z, Z, Z, Z, Z, Z, Z, Z, Z, Z, Y⟩)
       ·refine AWP.s Z h (fun hc28 h => ?_) (fun hc28 h => ?_)
        ·refine AWP.skip (b5 (.k (.d ?_)))
         obtain ⟨a86, ha86, a89, ha89, h⟩ := b2 h
         refine AWP.f (.a Z Z (.a Z Z (.a Z Z (S.idx ha86 Z Z Z Z (W.loadIAgg Z Z Z Z Z (S.lit (f := g7) (l := [a86]) (ess := [[row 1 intI a86.state, int a86.operator]]) Z Z Z Z Z Z Z ⟨⟨.inl Z, .inl Z, Y⟩, Y⟩ Z Z Z (S.append (f := g7) ha89 Z Z Z Z Z Z (.own Z Z) Z Z Z Z (.e Z Z (.nil (b5 (.a (env' := [(1, .c (row 1 d6 all)), (2, .c (row 1 intI value)), (3, .c (int kind)), (4, .c (.ptr 0 0 0)), (9, .c (row 2 g7 c5)), (13, .c (row 1 intI a48)), (14, .c (int op18)), (15, .c (.own 1 0 a89.length)), (16, .c (int kv22))]) (σ' := [.one (.cells 4 [(tO ov)]), .one (vec 2 g7 a89), .one (vec 2 g7 [a86])]) 1 3 Z Z Z ⟨Z, Z, Z, Z, Z, Z, Z, Z, Z, Y⟩ Z ⟨⟨Z, Z⟩, ⟨Blk.im_ok _ _ _, l8 Z⟩, ⟨Blk.im_ok _ _ _, l8 Z⟩, Y⟩ (.f (.a Z Z (S.add Z Z Z (.e Z Z (.nil (d7 ?_)))))))))))))))))
         obtain rfl := oi h
         refine b5 ⟨_, Z, ?_⟩
         exact Sub.cut ⟨Z, Z, Z, Z, Z, Z, Z, Z, Z, Y⟩ Z ⟨.one Z, .vec, Y⟩ Z
        ·refine AWP.exit (d8 ?_)
         obtain rfl := oi h
         refine d8 ⟨_, Z, Z, ?_⟩
         exact Sub.env ⟨Z, Z, Z, Z, Z, Z, Z, Z, Z, Y⟩
      ·intro e s hq
       obtain ⟨rfl, hs⟩ := hq
       refine ⟨_, hs, ?_⟩
       refine g8 (b5 ?_)
       obtain ⟨a97, ha97, a100, ha100, a101, ha101, h⟩ := b3 h
       refine AWP.drawEI [4, 5, 9] mixed Z Z Z ?_
       refine g9.consN Z Z (fun E => AOps.a Z Z (.nil ⟨Z, Z⟩)) Z (.consN Z Z (fun E => AOps.a Z Z (.nil ⟨Z, Z⟩)) Z (.consN Z Z (fun E => AOps.a Z Z (.nil ⟨Z, Z⟩)) Z (.consN Z Z (fun E => W.build Z Z Z Z (.nil ⟨Z, Z⟩)) Z ?_)))
       apply g9.consE; exact Z; exact Z; intro E
       refine S.lit (f := g7) (l := [(⟨a48, op18⟩ : d9)]) (ess := [[row 1 intI a48, int op18]]) Z Z Z Z Z Z Z ⟨⟨.inl Z, .inl Z, Y⟩, Y⟩ Z Z Z (.nil ⟨Z, Z⟩)
       exact Z
       exact Z
       apply g9.consE; exact Z; exact Z; intro E
       refine S.append (f := g7) ha97 Z Z Z Z Z Z (.own Z Z) Z Z Z Z (.nil ⟨Z, Z⟩)
       exact Z
       exact Z
       refine g9.consN Z Z (fun E => AOps.a Z Z (.nil ⟨Z, Z⟩)) Z (.consN Z Z (fun E => AOps.a Z Z (.nil ⟨Z, Z⟩)) Z (.consN Z Z (fun E => S.subFrom ha100 Z Z Z (.nil ⟨Z, Z⟩)) Z ?_))
       apply g9.consE; exact Z; exact Z; intro E
       refine S.append (f := g7) ha101 Z Z Z Z Z Z .row Z Z Z Z (.nil ⟨Z, Z⟩)
       exact Z
       exact Z
       refine g9.consN Z Z (fun E => AOps.e Z Z (.nil ⟨Z, Z⟩)) Z ?_
       refine g9.done Z ?_ ?_
       ·refine e9.cons Z Z ?_ ?_
        refine b8.go Z Z (fun E => AOps.a Z Z (AOps.nil ⟨Z, Z⟩)) ?_
        refine b8.go Z Z (fun E => AOps.a Z Z (AOps.nil ⟨Z, Z⟩)) ?_
        refine b8.skip Z (b8.skip Z (b8.nil))
        refine e9.cons Z Z ?_ ?_
        refine b8.go Z Z (fun E => AOps.a Z Z (AOps.nil ⟨Z, Z⟩)) ?_
        refine b8.skip Z (b8.skip Z (b8.skip Z (b8.nil)))
        refine e9.cons Z Z ?_ ?_
        refine b8.go Z Z (fun E => AOps.a Z Z (AOps.nil ⟨Z, Z⟩)) ?_
        refine b8.skip Z (b8.skip Z (b8.skip Z (b8.nil)))
        refine e9.cons Z Z ?_ ?_
        refine b8.go Z Z (fun E => W.build Z Z Z Z (AOps.nil ⟨Z, Z⟩)) ?_
        refine b8.skip Z (b8.skip Z (b8.skip Z (b8.nil)))
        refine e9.skip Z (e9.skip Z ?_)
        refine e9.cons Z Z ?_ ?_
        refine b8.go Z Z (fun E => AOps.a Z Z (AOps.nil ⟨Z, Z⟩)) ?_
        refine b8.go Z Z (fun E => AOps.a Z Z (AOps.nil ⟨Z, Z⟩)) ?_
        refine b8.go Z Z (fun E => AOps.a Z Z (AOps.nil ⟨Z, Z⟩)) ?_
        refine b8.skip Z (b8.nil)
        refine e9.cons Z Z ?_ ?_
        refine b8.go Z Z (fun E => AOps.a Z Z (AOps.nil ⟨Z, Z⟩)) ?_
        refine b8.go Z Z (fun E => AOps.a Z Z (AOps.nil ⟨Z, Z⟩)) ?_
        refine b8.go Z Z (fun E => AOps.a Z Z (AOps.nil ⟨Z, Z⟩)) ?_
        refine b8.skip Z (b8.nil)
        refine e9.cons Z Z ?_ ?_
        refine b8.go Z Z (fun E => S.subFrom ha100 Z Z Z (AOps.nil ⟨Z, Z⟩)) ?_
        refine b8.go Z Z (fun E => S.subFrom ha100 Z Z Z (AOps.nil ⟨Z, Z⟩)) ?_
        refine b8.go Z Z (fun E => S.subFrom ha100 Z Z Z (AOps.nil ⟨Z, Z⟩)) ?_
        refine b8.skip Z (b8.nil)
        refine e9.skip Z ?_
        refine e9.cons Z Z ?_ ?_
        refine b8.skip Z (b8.skip Z (b8.skip Z ?_))
        refine b8.go Z Z (fun E => AOps.e Z Z (AOps.nil ⟨Z, Z⟩)) ?_
        exact b8.nil
        exact e9.nil
       dsimp only [j6]
       refine d7 ?_
       obtain rfl := oi h
       refine b5 ⟨_, Z, ?_⟩
       exact (Sub.move (env' := [(1, .c (row 1 d6 all)), (2, .c (row 1 intI value)), (3, .c (int kind)), (4, .c (.ptr 0 0 0)), (9, .c (.own 1 0 a101.length))]) (σ' := [.one (.cells 4 [(tO ov)]), .one (vec 2 g7 a101), .one (vec 2 g7 [(⟨a48, op18⟩ : d9)]), .dead]) 1 4 Z Z Z ⟨Z, Z, Z, Z, Z, Y⟩ Z ⟨⟨Z, Z⟩, ⟨Blk.im_ok _ _ _, l8 Z⟩, ⟨Blk.im_ok _ _ _, l8 Z⟩, trivial, Y⟩).trans (Sub.cut ⟨Z, Z, Z, Z, Z, Y⟩ Z ⟨.one Z, .vec, Y⟩ Z)
 ·intro e s hq
  obtain ⟨rfl, hs⟩ := hq
  refine ⟨_, Sub.refl _ _, ?_⟩
  refine h9 ?_
  obtain rfl := oi h
  exact hs
end Ab
end
section
namespace Ab
open Go Go.Proofs
set_option maxHeartbeats 4000000
set_option linter.all false
attribute [local irreducible] AWP AOps thn inB Done f8 m5 Sub
theorem cyclic_arcs_ok {ov : b9} {all : LL} {r : (List LL)} (h : V8 ov all = some r) : m5 Tryz.prog 86 [.agg (tO ov), .c (row 1 d6 all)] 1 (List.map u7 r) := by
 unfold m5
 refine FnOk.enter (rs := [.t 4]) Tryz.func86 Z Tryz.ntmps86 Tryz.results86 Z ⟨trivial, Y⟩ (by kernel_rfl) Z ?_
 unfold V8 at h
 refine AWP.d (.f (W.box Z Z Z Z Z Z (.e Z Z (.nil (b5 (.d ?_))))))
 obtain ⟨a15, ha15, h⟩ := b6 h
 refine AWP.f (.a Z Z (S.len Z Z (fun hl14 => S.make (f := u7) ha15 (.row .nil) Z Z Z Z Z Z (.e Z Z (.nil (b5 (.d (.d (.f (.a Z Z (S.len Z Z (fun hl17 => .a Z Z (.nil (b5 (.k ?_)))))))))))))))
 obtain ⟨c3, ho1, h⟩ := b6 h
 refine AWP.forS ho1 (fun t4 c3 => ⟨[(1, .c (row 1 d6 all)), (2, .c (.ptr 0 0 0)), (5, .c (.own 1 0 c3.length)), (16, .c (row 1 d6 all)), (17, .c (int (all.length : Int))), (18, .c (int t4))], [.one (.cells 4 [(tO ov)]), .one (vec 1 u7 c3)]⟩) (fun c3 e st => e = .exit 0 ∧ Sub [] st ⟨[(5, .c (.own 1 0 c3.length))], [.one (.cells 4 [(tO ov)]), .one (vec 1 u7 c3)]⟩) ?_ ?_ ?_ ?_
 ·try dsimp only
  exact Sub.env ⟨Z, Z, Z, Z, Z, Z, Y⟩
 ·intro t4 c3 hlot4 hltt4 _
  try dsimp only
  refine AWP.d (.f (.j Z Z Z (.nil (b5 (.d (.q Z hltt4 (.exit (d8 (d8 ⟨Z, ?_⟩)))))))))
  exact Sub.env ⟨Z, Y⟩
 ·intro t4 c3 o hlot4 hltt4 h
  unfold U4 at h
  try dsimp only at h ⊢
  refine AWP.d (.f (.j Z Z Z (.nil (b5 (.d (.r Z hltt4 (.skip (b5 (.d (.k (.d ?_)))))))))))
  obtain ⟨a21, ha21, h⟩ := b6 h
  refine AWP.f (.a Z Z (S.idx ha21 Z Z Z Z (.o Z Z Z Z (.e Z Z (.e Z Z (.nil (b5 (.d ?_))))))))
  obtain ⟨a28, ha28, a29, ha29, h⟩ := b2 h
  refine AWP.f (.a Z Z (.a Z Z (W.fieldAddr Z Z Z Z (.m Z Z Z Z Z Z (S.len Z Z (fun hl27 => S.makeM 1 intI ha28 Z Z Z Z Z (S.idxO ha29 Z Z Z Z Z (S.storeS (f := u7) (x5 ha29) (fun _ => ⟨_, Z⟩) Z Z Z Z ?_))))))))
  refine AOps.nil (b5 (.d (.f (W.fieldAddr Z Z Z Z (.m Z Z Z Z Z Z (S.len Z Z (fun hl32 => .a Z Z (.nil (b5 (.k ?_))))))))))
  obtain ⟨c5, ho2, h⟩ := b6 h
  refine AWP.forS ho2 (fun t6 c5 => ⟨[(1, .c (row 1 d6 all)), (2, .c (.ptr 0 0 0)), (5, .c (.own 1 0 c3.length)), (6, .c (int t4)), (7, .c (row 1 intI a21)), (16, .c (row 1 d6 all)), (17, .c (int (all.length : Int))), (18, .c (int t4)), (32, .c (int (ov.operators.length : Int))), (33, .c (int t6))], [.one (.cells 4 [(tO ov)]), .one (vecS u7 c3 t4.toNat 2 c5.length), mat (2, []) 1 intI c5]⟩) (fun c5 e st => e = .exit 2 ∧ Sub [] st ⟨[(1, .c (row 1 d6 all)), (2, .c (.ptr 0 0 0)), (5, .c (.own 1 0 c3.length)), (16, .c (row 1 d6 all)), (17, .c (int (all.length : Int))), (18, .c (int t4))], [.one (.cells 4 [(tO ov)]), .one (vecS u7 c3 t4.toNat 2 c5.length), mat (2, []) 1 intI c5]⟩) ?_ ?_ ?_ ?_
  ·try dsimp only
   exact Sub.env ⟨Z, Z, Z, Z, Z, Z, Z, Z, Z, Z, Y⟩
  ·intro t6 c5 hlot6 hltt6 _
   try dsimp only
   refine AWP.d (.f (.j Z Z Z (.nil (b5 (.d (.q Z hltt6 (.exit (d8 (d8 ⟨Z, ?_⟩)))))))))
   exact Sub.env ⟨Z, Z, Z, Z, Z, Z, Y⟩
  ·intro t6 c5 o hlot6 hltt6 h
   unfold U5 at h
   try dsimp only at h ⊢
   refine AWP.d (.f (.j Z Z Z (.nil (b5 (.d (.r Z hltt6 (.skip (b5 ?_))))))))
   obtain ⟨c7, hx8, h⟩ := b6 h
   refine AWP.seqJ (⟨[(1, .c (row 1 d6 all)), (2, .c (.ptr 0 0 0)), (5, .c (.own 1 0 c3.length)), (6, .c (int t4)), (7, .c (row 1 intI a21)), (16, .c (row 1 d6 all)), (17, .c (int (all.length : Int))), (18, .c (int t4)), (32, .c (int (ov.operators.length : Int))), (33, .c (int t6))], [.one (.cells 4 [(tO ov)]), .one (vecS u7 c3 t4.toNat 2 c7.length), mat (2, []) 1 intI c7]⟩) ?_ ?_
   ·refine AWP.k (.d (.f (.a Z Z (.e Z Z (.nil (b5 (.d (.d ?_))))))))
    obtain ⟨a39, ha39, hx8⟩ := b6 hx8
    refine AWP.f (W.loadAgg Z Z Z Z Z Z Z (.a Z Z (.a Z Z (.l Z Z Z Z (ad3 ha39) Z (.u Z Z (.nil (b5 (.s Z hx8 (fun hc9 hx8 => ?_) (fun hc9 hx8 => ?_)))))))))
    ·refine AWP.exit (d8 (g8 ?_))
     obtain rfl := oi hx8
     refine b5 (Sub.env ⟨Z, Z, Z, Z, Z, Z, Z, Z, Z, Z, Y⟩)
    ·refine AWP.skip (b5 (.d ?_))
     obtain ⟨a45, ha45, hx8⟩ := b6 hx8
     refine AWP.f (W.loadAgg Z Z Z Z Z Z Z (.a Z Z (.a Z Z (.l Z Z Z Z (G6 ha45) Z (.a Z Z (.w Z Z Z (.w Z Z Z (.e Z Z (.e Z Z (.nil (b5 (.d (.f (.a Z Z (S.len Z Z (fun hl49 => .a Z Z (.nil (b5 (.k ?_)))))))))))))))))))
     obtain ⟨c10, ho3, hx8⟩ := b6 hx8
     refine AWP.forS ho3 (fun t11 c10 => ⟨[(1, .c (row 1 d6 all)), (2, .c (.ptr 0 0 0)), (5, .c (.own 1 0 c3.length)), (6, .c (int t4)), (7, .c (row 1 intI a21)), (8, .c (int t6)), (16, .c (row 1 d6 all)), (17, .c (int (all.length : Int))), (18, .c (int t4)), (32, .c (int (ov.operators.length : Int))), (33, .c (int t6)), (48, .c (row 1 d6 a45.1)), (49, .c (int (a45.1.length : Int))), (50, .c (int t11))], [.one (.cells 4 [(tO ov)]), .one (vecS u7 c3 t4.toNat 2 c10.length), mat (2, []) 1 intI c10]⟩) (fun c10 e st => e = .exit 4 ∧ Sub [] st ⟨[(1, .c (row 1 d6 all)), (2, .c (.ptr 0 0 0)), (5, .c (.own 1 0 c3.length)), (6, .c (int t4)), (7, .c (row 1 intI a21)), (16, .c (row 1 d6 all)), (17, .c (int (all.length : Int))), (18, .c (int t4)), (32, .c (int (ov.operators.length : Int))), (33, .c (int t6))], [.one (.cells 4 [(tO ov)]), .one (vecS u7 c3 t4.toNat 2 c10.length), mat (2, []) 1 intI c10]⟩) ?_ ?_ ?_ ?_
     ·try dsimp only
      exact Sub.env ⟨Z, Z, Z, Z, Z, Z, Z, Z, Z, Z, Z, Z, Z, Z, Y⟩
     ·intro t11 c10 hlot11 hltt11 _
      try dsimp only
      refine AWP.d (.f (.j Z Z Z (.nil (b5 (.d (.q Z hltt11 (.exit (d8 (d8 ⟨Z, ?_⟩)))))))))
      exact Sub.env ⟨Z, Z, Z, Z, Z, Z, Z, Z, Z, Z, Y⟩
     ·intro t11 c10 o hlot11 hltt11 h
      unfold V0 at h
      try dsimp only at h ⊢
      refine AWP.d (.f (.j Z Z Z (.nil (b5 (.d (.r Z hltt11 (.skip (b5 (.d (.k (.d ?_)))))))))))
      obtain ⟨a52, ha52, h⟩ := b6 h
      refine AWP.f (S.idx ha52 Z Z Z Z (.o Z Z Z Z (.e Z Z (.nil (b5 ?_)))))
      obtain ⟨a64, ha64, a68, ha68, a70, ha70, h⟩ := b3 h
      obtain ⟨a71, ha71, h⟩ := b6 h
      refine AWP.drawEI [15, 16, 18] mixed Z Z Z ?_
      refine g9.consN Z Z (fun E => AOps.a Z Z (.nil ⟨Z, Z⟩)) Z (.consN Z Z (fun E => AOps.a Z Z (.nil ⟨Z, Z⟩)) Z (.consN Z Z (fun E => S.idxS (x5 ha29) (ix_pos ha29) Z Z Z Z Z (.nil ⟨Z, Z⟩)) Z (.consN Z Z (fun E => S.loadS Z (x5 ha29) Z Z Z (.nil ⟨Z, Z⟩)) Z (.consN Z Z (fun E => AOps.a Z Z (.nil ⟨Z, Z⟩)) Z (.consN Z Z (fun E => AOps.a Z Z (.nil ⟨Z, Z⟩)) Z (.consN Z Z (fun E => AOps.a Z Z (.nil ⟨Z, Z⟩)) Z (.consN Z Z (fun E => S.idxS (x5 ha29) (ix_pos ha29) Z Z Z Z Z (.nil ⟨Z, Z⟩)) Z (.consN Z Z (fun E => S.loadS Z (x5 ha29) Z Z Z (.nil ⟨Z, Z⟩)) Z (.consN Z Z (fun E => AOps.a Z Z (.nil ⟨Z, Z⟩)) Z (.consN Z Z (fun E => S.idxH ha64 Z Z Z (by simp) Z Z (.nil ⟨Z, Z⟩)) Z (.consN Z Z (fun E => S.loadM ha64 Z Z Z Z (.nil ⟨Z, Z⟩)) Z (.consN Z Z (fun E => AOps.a Z Z (.nil ⟨Z, Z⟩)) Z (.consN Z Z (fun E => AOps.a Z Z (.nil ⟨Z, Z⟩)) Z (.consN Z Z (fun E => AOps.l Z Z Z Z (I6 ha68) Z (.nil ⟨Z, Z⟩)) Z ?_))))))))))))))
      apply g9.consE; exact Z; exact Z; intro E
      refine S.lit (f := intI) (l := [a68]) (ess := [[int a68]]) Z Z Z Z Z Z Z ⟨⟨.inl Z, Y⟩, Y⟩ Z Z Z (.nil ⟨Z, Z⟩)
      exact Z
      exact Z
      apply g9.consE; exact Z; exact Z; intro E
      refine S.appendR (f := intI) ha70 (U2 ha64).2 Z Z Z Z Z Z (.own Z Z) Z Z Z Z (.nil ⟨Z, Z⟩)
      exact Z
      exact Z
      refine g9.consN Z Z (fun E => S.idxH ha71 Z Z Z (by simp) Z Z (.nil ⟨Z, Z⟩)) Z ?_
      apply g9.consE (v := .undef); exact Z; exact Z; intro E
      refine S.storeHD (U2 ha71).2 Z Z Z Z (.nil ⟨Z, Z⟩)
      exact Z
      exact Z
      refine g9.done Z ?_ ?_
      ·refine e9.cons Z Z ?_ ?_
       refine b8.go Z Z (fun E => AOps.a Z Z (AOps.nil ⟨Z, Z⟩)) ?_
       refine b8.go Z Z (fun E => AOps.a Z Z (AOps.nil ⟨Z, Z⟩)) ?_
       refine b8.go Z Z (fun E => AOps.a Z Z (AOps.nil ⟨Z, Z⟩)) ?_
       refine b8.skip Z (b8.nil)
       refine e9.cons Z Z ?_ ?_
       refine b8.go Z Z (fun E => AOps.a Z Z (AOps.nil ⟨Z, Z⟩)) ?_
       refine b8.go Z Z (fun E => AOps.a Z Z (AOps.nil ⟨Z, Z⟩)) ?_
       refine b8.go Z Z (fun E => AOps.a Z Z (AOps.nil ⟨Z, Z⟩)) ?_
       refine b8.skip Z (b8.nil)
       refine e9.cons Z Z ?_ ?_
       refine b8.go Z Z (fun E => S.idxS (x5 ha29) (ix_pos ha29) Z Z Z Z Z (AOps.nil ⟨Z, Z⟩)) ?_
       refine b8.go Z Z (fun E => S.idxS (x5 ha29) (ix_pos ha29) Z Z Z Z Z (AOps.nil ⟨Z, Z⟩)) ?_
       refine b8.go Z Z (fun E => S.idxS (x5 ha29) (ix_pos ha29) Z Z Z Z Z (AOps.nil ⟨Z, Z⟩)) ?_
       refine b8.skip Z (b8.nil)
       refine e9.cons Z Z ?_ ?_
       refine b8.go Z Z (fun E => S.loadS Z (x5 ha29) Z Z Z (AOps.nil ⟨Z, Z⟩)) ?_
       refine b8.go Z Z (fun E => S.loadS Z (x5 ha29) Z Z Z (AOps.nil ⟨Z, Z⟩)) ?_
       refine b8.go Z Z (fun E => S.loadS Z (x5 ha29) Z Z Z (AOps.nil ⟨Z, Z⟩)) ?_
       refine b8.skip Z (b8.nil)
       refine e9.cons Z Z ?_ ?_
       refine b8.go Z Z (fun E => AOps.a Z Z (AOps.nil ⟨Z, Z⟩)) ?_
       refine b8.go Z Z (fun E => AOps.a Z Z (AOps.nil ⟨Z, Z⟩)) ?_
       refine b8.go Z Z (fun E => AOps.a Z Z (AOps.nil ⟨Z, Z⟩)) ?_
       refine b8.skip Z (b8.nil)
       refine e9.cons Z Z ?_ ?_
       refine b8.go Z Z (fun E => AOps.a Z Z (AOps.nil ⟨Z, Z⟩)) ?_
       refine b8.go Z Z (fun E => AOps.a Z Z (AOps.nil ⟨Z, Z⟩)) ?_
       refine b8.skip Z (b8.skip Z (b8.nil))
       refine e9.cons Z Z ?_ ?_
       refine b8.go Z Z (fun E => AOps.a Z Z (AOps.nil ⟨Z, Z⟩)) ?_
       refine b8.go Z Z (fun E => AOps.a Z Z (AOps.nil ⟨Z, Z⟩)) ?_
       refine b8.skip Z (b8.skip Z (b8.nil))
       refine e9.cons Z Z ?_ ?_
       refine b8.go Z Z (fun E => S.idxS (x5 ha29) (ix_pos ha29) Z Z Z Z Z (AOps.nil ⟨Z, Z⟩)) ?_
       refine b8.go Z Z (fun E => S.idxS (x5 ha29) (ix_pos ha29) Z Z Z Z Z (AOps.nil ⟨Z, Z⟩)) ?_
       refine b8.skip Z (b8.skip Z (b8.nil))
       refine e9.cons Z Z ?_ ?_
       refine b8.go Z Z (fun E => S.loadS Z (x5 ha29) Z Z Z (AOps.nil ⟨Z, Z⟩)) ?_
       refine b8.go Z Z (fun E => S.loadS Z (x5 ha29) Z Z Z (AOps.nil ⟨Z, Z⟩)) ?_
       refine b8.skip Z (b8.skip Z (b8.nil))
       refine e9.cons Z Z ?_ ?_
       refine b8.go Z Z (fun E => AOps.a Z Z (AOps.nil ⟨Z, Z⟩)) ?_
       refine b8.go Z Z (fun E => AOps.a Z Z (AOps.nil ⟨Z, Z⟩)) ?_
       refine b8.skip Z (b8.skip Z (b8.nil))
       refine e9.cons Z Z ?_ ?_
       refine b8.go Z Z (fun E => S.idxH ha64 Z Z Z (by simp) Z Z (AOps.nil ⟨Z, Z⟩)) ?_
       refine b8.go Z Z (fun E => S.idxH ha64 Z Z Z (by simp) Z Z (AOps.nil ⟨Z, Z⟩)) ?_
       refine b8.skip Z (b8.skip Z (b8.nil))
       refine e9.cons Z Z ?_ ?_
       refine b8.go Z Z (fun E => S.loadM ha64 Z Z Z Z (AOps.nil ⟨Z, Z⟩)) ?_
       refine b8.go Z Z (fun E => S.loadM ha64 Z Z Z Z (AOps.nil ⟨Z, Z⟩)) ?_
       refine b8.skip Z (b8.skip Z (b8.nil))
       refine e9.cons Z Z ?_ ?_
       refine b8.go Z Z (fun E => AOps.a Z Z (AOps.nil ⟨Z, Z⟩)) ?_
       refine b8.skip Z (b8.skip Z (b8.skip Z (b8.nil)))
       refine e9.cons Z Z ?_ ?_
       refine b8.go Z Z (fun E => AOps.a Z Z (AOps.nil ⟨Z, Z⟩)) ?_
       refine b8.skip Z (b8.skip Z (b8.skip Z (b8.nil)))
       refine e9.cons Z Z ?_ ?_
       refine b8.go Z Z (fun E => AOps.l Z Z Z Z (I6 ha68) Z (AOps.nil ⟨Z, Z⟩)) ?_
       refine b8.skip Z (b8.skip Z (b8.skip Z (b8.nil)))
       refine e9.skip Z (e9.skip Z ?_)
       refine e9.cons Z Z ?_ ?_
       refine b8.skip Z (b8.skip Z ?_)
       refine b8.go Z Z (fun E => S.idxH ha71 Z Z Z (by simp) Z Z (AOps.nil ⟨Z, Z⟩)) ?_
       refine b8.skip Z (b8.nil)
       refine e9.skip Z (e9.nil)
      dsimp only [j6]
      refine d7 (b5 (.moveR (k := 1) (f := intI) (M := c10) (env' := [(1, .c (row 1 d6 all)), (2, .c (.ptr 0 0 0)), (5, .c (.own 1 0 c3.length)), (6, .c (int t4)), (7, .c (row 1 intI a21)), (8, .c (int t6)), (16, .c (row 1 d6 all)), (17, .c (int (all.length : Int))), (18, .c (int t4)), (32, .c (int (ov.operators.length : Int))), (33, .c (int t6)), (48, .c (row 1 d6 a45.1)), (49, .c (int (a45.1.length : Int))), (50, .c (int t11))]) (σ' := [.one (.cells 4 [(tO ov)]), .one (vecS u7 c3 t4.toNat 2 c10.length), mat (2, []) 1 intI (c10.set t6.toNat a70), .one (vec 1 intI [a68])]) (r := 2) (s := 4) (p := t6.toNat) (matSD_at Z) (U2 ha71).2 Z Z Z Z Z (.inl Z) ⟨.one Z Z, .one (vs_ok Z) (vs_rl _), .self, .vec, Y⟩ ⟨Z, Z, Z, Z, Z, Z, Z, Z, Z, Z, Z, Z, Z, Z, Y⟩ Z Z (.f (.add Z Z Z (by omega) (.a Z Z (.nil ?_))))))
      obtain rfl := oi h
      refine b5 (Sub.cut ⟨Z, Z, Z, Z, Z, Z, Z, Z, Z, Z, Z, Z, Z, Z, Y⟩ Z ⟨.one Z, (.eq (vs_ok Z) (by first | rfl | simp only [List.length_set])), .mat Z, Y⟩ Z)
     ·intro e s hq
      obtain ⟨rfl, hs⟩ := hq
      refine ⟨_, hs, ?_⟩
      refine g8 (d7 ?_)
      obtain rfl := oi hx8
      refine b5 (Sub.env ⟨Z, Z, Z, Z, Z, Z, Z, Z, Z, Z, Y⟩)
   ·refine AWP.f (.add Z Z Z (by omega) (.a Z Z (.nil ?_)))
    obtain rfl := oi h
    refine b5 (Sub.env ⟨Z, Z, Z, Z, Z, Z, Z, Z, Z, Z, Y⟩)
  ·intro e s hq
   obtain ⟨rfl, hs⟩ := hq
   refine ⟨_, hs, ?_⟩
   refine g8 (d7 (b5 (.f (.add Z Z Z (by omega) (.a Z Z (.nil ?_))))))
   obtain rfl := oi h
   refine b5 ((Sub.matV' (k := 1) (f := intI) (env' := [(1, .c (row 1 d6 all)), (2, .c (.ptr 0 0 0)), (5, .c (.own 1 0 c3.length)), (16, .c (row 1 d6 all)), (17, .c (int (all.length : Int))), (18, .c (int (t4 + 1)))]) (σ' := [.one (.cells 4 [(tO ov)]), .one (vecS u7 c3 t4.toNat 2 c5.length), .one (vec 1 d6 c5)]) 2 Z ⟨Z, Z, Z, Z, Z, Z, Y⟩ Z (by exact ⟨.one (fun _ => Z), .one (fun _ => vs_rl _), .self, Y⟩) Z Z).trans ((Sub.frzW (id := 2) (M := c5) (env2 := [(1, .c (row 1 d6 all)), (2, .c (.ptr 0 0 0)), (5, .c (.own 1 0 c3.length)), (16, .c (row 1 d6 all)), (17, .c (int (all.length : Int))), (18, .c (int (t4 + 1)))]) (σ2 := [.one (.cells 4 [(tO ov)]), .one (vec 1 u7 (c3.set t4.toNat c5)), .dead]) Z Z (by exact ⟨⟨_, Z, .inl ⟨Z, Z⟩⟩, ⟨_, Z, .inl ⟨Z, Z⟩⟩, ⟨_, Z, .inl ⟨Z, Z⟩⟩, ⟨_, Z, .inl ⟨Z, Z⟩⟩, ⟨_, Z, .inl ⟨Z, Z⟩⟩, ⟨_, Z, .inl ⟨Z, Z⟩⟩, Y⟩) Z (by exact ⟨.old ⟨Z, .inl ⟨Z, Z⟩, .inl ⟨Z, Z⟩, .inl ⟨Z, Z⟩, .inl ⟨Z, Z⟩, Y⟩, (.vs (vs_frz Z Z)), .old (trivial), Y⟩)).trans (Sub.cut ⟨Z, Z, (x9 (by first | rfl | simp only [List.length_set])), Z, Z, Z, Y⟩ Z ⟨.one Z, .vec, Y⟩ Z)))
 ·intro e s hq
  obtain ⟨rfl, hs⟩ := hq
  refine ⟨_, hs, ?_⟩
  refine g8 (b5 (.d (.f (.a Z Z (.e Z Z (.nil (b5 (.ret ?_))))))))
  obtain rfl := oi h
  exact Done.ret Z (Fresh.mk Z Z)
theorem al9 {iv : Int} {c2 : List Int} {r : Bool} (h : S0 iv c2 = some r) : f8 Tryz.prog 116 [.c (int iv), .c (.imm (.ipt [.sl 1 (List.map intI c2)]))] (.c (bool r)) := by
 unfold f8
 refine FnOk.enter (rs := [.t 3]) Tryz.func116 Z Tryz.ntmps116 Tryz.results116 Z ⟨trivial, Y⟩ (by kernel_rfl) Z ?_
 unfold S0 at h
 refine AWP.d (.f (.e Z Z (.nil (b5 (.d ?_)))))
 obtain ⟨a6, ha6, h⟩ := b6 h
 refine AWP.f (.o Z Z Z Z (.a Z Z (S.idx ha6 Z Z Z Z (.o Z Z Z Z (.v Z Z Z (.e Z Z (.nil (b5 (.ret ?_)))))))))
 obtain rfl := oi h
 exact Done.ret Z Z
theorem ag6 {l : List Int} {safe : List Int} {r : Bool} (h : P6 l safe = some r) : f8 Tryz.prog 102 [.c (row 1 intI l), .c (row 1 intI safe)] (.c (bool r)) := by
 unfold f8
 refine FnOk.enter (rs := [.t 4]) Tryz.func102 Z Tryz.ntmps102 Tryz.results102 Z ⟨trivial, Y⟩ (by kernel_rfl) Z ?_
 unfold P6 at h
 refine AWP.d (.f (W.box Z Z Z Z Z Z (.e Z Z (.nil (b5 ?_)))))
 obtain ⟨t3, hx4, h⟩ := b6 h
 refine AWP.seqJ (⟨[(4, .c (bool t3))], []⟩) ?_ ?_
 ·rcases bft (decide (0 < (l.length : Int))) with hb5 | hb5
  ·replace hx4 := C2 hb5 hx4
   obtain ⟨a11, ha11, hx4⟩ := b6 hx4
   refine AWP.f (.a Z Z (S.len Z Z (fun hl6 => .gtr Z Z Z (.a Z Z (.g Z Z Z hb5 (.a Z Z (.g Z Z Z hb5 (.makeFunc Z Z ?_))))))))
   refine AOps.g Z Z Z hb5 ?_; refine AOps.y Z Z (.cons (.c .imm) (.cons (.c (.fn (.cons (.ptr (es := [.sl 1 (List.map intI safe)]) Z Z (.cons .imm .nil)) .nil))) .nil)) Z (D4 Z (fun hy => al9 hy) ha11) Z ?_
   refine AOps.g Z Z Z hb5 (.u Z Z (.p Z hb5 Z Z (.e Z Z (.nil ?_))))
   obtain rfl := oi hx4
   refine b5 (Sub.cut ⟨Z, Y⟩ Z trivial Z)
  ·replace hx4 := B9 hb5 hx4
   refine AWP.f (.a Z Z (S.len Z Z (fun hl6 => .gtr Z Z Z (.a Z Z (.i Z Z Z hb5 (.i Z Z Z hb5 (.i Z Z Z hb5 (.i Z Z Z hb5 (.n Z hb5 Z Z (.e Z Z (.nil ?_)))))))))))
   obtain rfl := oi hx4
   refine b5 (Sub.cut ⟨Z, Y⟩ Z trivial Z)
 ·refine AWP.ret ?_
  obtain rfl := oi h
  exact Done.ret Z Z
theorem aj2 {kv : Int} {c2 : List Int} {c3 : Int} {r : Bool} (h : K5 kv c2 c3 = some r) : f8 Tryz.prog 104 [.c (int kv), .c (.imm (.ipt [.sl 1 (List.map intI c2)])), .c (.imm (.ipt [.val (.int .i64 c3)]))] (.c (bool r)) := by
 unfold f8
 refine FnOk.enter (rs := [.t 4]) Tryz.func104 Z Tryz.ntmps104 Tryz.results104 Z ⟨trivial, Y⟩ (by kernel_rfl) Z ?_
 unfold K5 at h
 refine AWP.d (.f (.e Z Z (.nil (b5 (.d ?_)))))
 obtain ⟨a7, ha7, h⟩ := b6 h
 refine AWP.drawI mixed Z ?_
 refine i5.consF Z (fun E => AOps.o Z Z Z Z (.nil ⟨Z, Z⟩)) Z (.consF Z (fun E => AOps.a Z Z (.nil ⟨Z, Z⟩)) Z (.consF Z (fun E => S.idx ha7 Z Z Z Z (.nil ⟨Z, Z⟩)) Z (.consF Z (fun E => AOps.o Z Z Z Z (.nil ⟨Z, Z⟩)) Z (.consF Z (fun E => AOps.o Z Z Z Z (.nil ⟨Z, Z⟩)) Z (.consF Z (fun E => S.sub Z Z Z (.nil ⟨Z, Z⟩)) Z (.consF Z (fun E => AOps.v Z Z Z (.nil ⟨Z, Z⟩)) Z (.consF Z (fun E => AOps.e Z Z (.nil ⟨Z, Z⟩)) Z ?_)))))))
 refine i5.done ?_
 dsimp only [j6]
 refine b5 (.ret ?_)
 obtain rfl := oi h
 exact Done.ret Z Z
theorem al6 {l : List Int} {c2 : List Int} {c3 : List Int} {c4 : Int} {r : Bool} (h : F1 l c2 c3 c4 = some r) : f8 Tryz.prog 101 [.c (row 1 intI l), .c (.imm (.ipt [.sl 1 (List.map intI c2)])), .c (.imm (.ipt [.sl 1 (List.map intI c3)])), .c (.imm (.ipt [.val (.int .i64 c4)]))] (.c (bool r)) := by
 unfold f8
 refine FnOk.enter (rs := [.t 5]) Tryz.func101 Z Tryz.ntmps101 Tryz.results101 Z ⟨trivial, Y⟩ (by kernel_rfl) Z ?_
 unfold F1 at h
 refine AWP.d (.f (.e Z Z (.nil (b5 ?_))))
 obtain ⟨t2, hx3, h⟩ := b6 h
 refine AWP.seqJ (⟨[(5, .c (bool t2))], []⟩) ?_ ?_
 ·obtain ⟨a8, ha8, hx3⟩ := b6 hx3
  rcases bft (a8) with hb4 | hb4
  ·replace hx3 := w9 hb4 hx3
   obtain ⟨a12, ha12, hx3⟩ := b6 hx3
   refine AWP.f (.a Z Z (.o Z Z Z Z (.l Z Z Z Z (ag6 ha8) Z (.a Z Z (.g Z Z Z hb4 (.a Z Z (.g Z Z Z hb4 (.makeFunc Z Z ?_))))))))
   refine AOps.g Z Z Z hb4 ?_; refine AOps.l Z Z Z Z (D4 Z (fun hy => aj2 hy) ha12) Z ?_
   refine AOps.p Z hb4 Z Z (.e Z Z (.nil ?_))
   obtain rfl := oi hx3
   refine b5 (Sub.env ⟨Z, Y⟩)
  ·replace hx3 := w6 hb4 hx3
   refine AWP.f (.a Z Z (.o Z Z Z Z (.l Z Z Z Z (ag6 ha8) Z (.a Z Z (.i Z Z Z hb4 (.i Z Z Z hb4 (.i Z Z Z hb4 (.n Z hb4 Z Z (.e Z Z (.nil ?_))))))))))
   obtain rfl := oi hx3
   refine b5 (Sub.env ⟨Z, Y⟩)
 ·refine AWP.ret ?_
  obtain rfl := oi h
  exact Done.ret Z Z
theorem an9 {ov : b9} {all : LL} {nextv : List LL} {safe : List Int} {r : (List Int)} (h : N5 ov all nextv safe = some r) : m5 Tryz.prog 87 [.agg (tO ov), .c (row 1 d6 all), .c (row 1 u7 nextv), .c (row 1 intI safe)] 1 (List.map intI r) := by
 unfold m5
 refine FnOk.enter (rs := [.t 8]) Tryz.func87 Z Tryz.ntmps87 Tryz.results87 Z ⟨trivial, Y⟩ (by kernel_rfl) Z ?_
 unfold N5 at h
 refine AWP.d (.f (W.box Z Z Z Z Z Z (W.box Z Z Z Z Z Z (.e Z Z (.nil (b5 (.d ?_)))))))
 obtain ⟨a17, ha17, h⟩ := b6 h
 refine AWP.f (S.lit (f := intI) (l := [-1]) (ess := [[int (-1)]]) Z Z Z Z Z Z Z ⟨⟨.inl Z, Y⟩, Y⟩ Z Z Z (.a Z Z (S.len Z Z (fun hl16 => S.freshL (fun _ => Z) Z Z (.cons (.c (.own Z Z)) (.cons (.c .imm) .nil)) Z (T8 ha17) Z Z ?_))))
 refine W.alloc Z Z Z Z (W.store Z Z Z Z Z (.nil (b5 (.d (.d (.f (.a Z Z (S.len Z Z (fun hl19 => .a Z Z (.nil (b5 (.k ?_))))))))))))
 obtain ⟨c5, ho1, h⟩ := b6 h
 refine AWP.forS ho1 (fun t6 c5 => ⟨[(1, .c (row 1 d6 all)), (2, .c (row 1 u7 nextv)), (4, .c (.ptr 0 0 0)), (7, .c (.ptr 1 0 0)), (9, .c (.ptr 4 0 0)), (18, .c (row 1 d6 all)), (19, .c (int (all.length : Int))), (20, .c (int t6))], [.one (.cells 4 [(tO ov)]), .one (.cells 1 [[row 1 intI safe]]), .dead, .one (vec 1 intI c5), .one (.cells 1 [[.own 3 0 c5.length]])]⟩) (fun c5 e st => e = .exit 0 ∧ Sub [] st ⟨[(1, .c (row 1 d6 all)), (2, .c (row 1 u7 nextv)), (7, .c (.ptr 1 0 0)), (9, .c (.ptr 4 0 0))], [.one (.cells 4 [(tO ov)]), .one (.cells 1 [[row 1 intI safe]]), .dead, .one (vec 1 intI c5), .one (.cells 1 [[.own 3 0 c5.length]])]⟩) ?_ ?_ ?_ ?_
 ·try dsimp only
  exact Sub.cut ⟨Z, Z, Z, Z, Z, Z, Z, Z, Y⟩ Z ⟨.one Z, .one Z, .dead, .vec, .one Z, Y⟩ Z
 ·intro t6 c5 hlot6 hltt6 _
  try dsimp only
  refine AWP.d (.f (.j Z Z Z (.nil (b5 (.d (.q Z hltt6 (.exit (d8 (d8 ⟨Z, ?_⟩)))))))))
  exact Sub.env ⟨Z, Z, Z, Z, Y⟩
 ·intro t6 c5 o hlot6 hltt6 h
  unfold M9 at h
  try dsimp only at h ⊢
  refine AWP.d (.f (.j Z Z Z (.nil (b5 (.d (.r Z hltt6 (.skip (b5 ?_))))))))
  obtain ⟨c7, hx8, h⟩ := b6 h
  refine AWP.seqJ (⟨[(1, .c (row 1 d6 all)), (2, .c (row 1 u7 nextv)), (4, .c (.ptr 0 0 0)), (7, .c (.ptr 1 0 0)), (9, .c (.ptr 4 0 0)), (18, .c (row 1 d6 all)), (19, .c (int (all.length : Int))), (20, .c (int t6))], [.one (.cells 4 [(tO ov)]), .one (.cells 1 [[row 1 intI safe]]), .dead, .one (vec 1 intI c7), .one (.cells 1 [[.own 3 0 c7.length]])]⟩) ?_ ?_
  ·refine AWP.k (.d ?_)
   obtain ⟨a23, ha23, hx8⟩ := b6 hx8
   refine AWP.f (.a Z Z (S.idx ha23 Z Z Z Z (.o Z Z Z Z (.e Z Z (.e Z Z (.nil (b5 (.d ?_))))))))
   obtain ⟨a28, ha28, hx8⟩ := b6 hx8
   refine AWP.f (.a Z Z (W.fieldAddr Z Z Z Z (.m Z Z Z Z Z Z (.l Z Z Z Z (C6 ha28) Z (.nil (b5 (.s Z hx8 (fun hc9 hx8 => ?_) (fun hc9 hx8 => ?_))))))))
   ·obtain ⟨a31, ha31, hx8⟩ := b6 hx8
    refine AWP.f (.m Z Z Z Z Z Z (.a Z Z (S.idxO ha31 Z Z Z Z Z (S.storeO1 (f := intI) (a' := 0) (x5 ha31) (fun _ => ⟨_, Z⟩) Z Z Z Z Z ?_))))
    refine AOps.nil (d7 ?_)
    obtain rfl := oi hx8
    refine b5 (Sub.cut ⟨Z, Z, Z, Z, Z, Z, Z, Z, Y⟩ Z ⟨.one Z, .one Z, .dead, .vec, (.eq Z (by first | rfl | simp only [List.length_set])), Y⟩ Z)
   ·refine AWP.skip (d7 ?_)
    obtain rfl := oi hx8
    refine b5 (Sub.env ⟨Z, Z, Z, Z, Z, Z, Z, Z, Y⟩)
  ·refine AWP.f (.add Z Z Z (by omega) (.a Z Z (.nil ?_)))
   obtain rfl := oi h
   refine b5 (Sub.env ⟨Z, Z, Z, Z, Z, Z, Z, Z, Y⟩)
 ·intro e s hq
  obtain ⟨rfl, hs⟩ := hq
  refine ⟨_, hs, ?_⟩
  refine g8 (b5 (.d (.d (.f (W.alloc Z Z Z Z (W.store Z Z Z Z Z (.nil (b5 (.k ?_)))))))))
  obtain ⟨c12, ho2, h⟩ := b6 h
  refine AWP.loopS ho2 (fun (c10, c11) => ⟨[(1, .c (row 1 d6 all)), (2, .c (row 1 u7 nextv)), (7, .c (.ptr 1 0 0)), (9, .c (.ptr 4 0 0)), (12, .c (.ptr 5 0 0))], [.dead, .one (.cells 1 [[row 1 intI safe]]), .dead, .one (vec 1 intI c10), .one (.cells 1 [[.own 3 0 c10.length]]), .one (.cells 1 [[int c11]])]⟩) (fun c12 e st => e = .exit 2 ∧ Sub [] st ⟨[(9, .c (.ptr 4 0 0))], [.dead, .dead, .dead, .one (vec 1 intI c12), .one (.cells 1 [[.own 3 0 c12.length]])]⟩) ?_ ?_ ?_
  ·try dsimp only
   exact Sub.cut ⟨Z, Z, Z, Z, Z, Y⟩ Z ⟨.dead, .one Z, .dead, .vec, .one Z, .one Z, Y⟩ Z
  ·intro s o h
   obtain ⟨c10, c11⟩ := s
   unfold N0 at h
   try dsimp only at h ⊢
   refine AWP.d (.d (.f (.m Z Z Z Z Z Z (.a Z Z (S.len Z Z (fun hl35 => .leq Z Z Z (.nil (b5 (.ite Z h (fun hc13 h => ?_) (fun hc13 h => ?_))))))))))
   ·refine AWP.skip (b5 (.d (.k (.d (.f (.a Z Z (S.len Z Z (fun hl40 => .a Z Z (.nil (b5 (.k ?_)))))))))))
    obtain ⟨c14, ho3, h⟩ := b6 h
    refine AWP.forS ho3 (fun t15 c14 => ⟨[(1, .c (row 1 d6 all)), (2, .c (row 1 u7 nextv)), (7, .c (.ptr 1 0 0)), (9, .c (.ptr 4 0 0)), (12, .c (.ptr 5 0 0)), (40, .c (int (all.length : Int))), (41, .c (int t15))], [.dead, .one (.cells 1 [[row 1 intI safe]]), .dead, .one (vec 1 intI c14), .one (.cells 1 [[.own 3 0 c14.length]]), .one (.cells 1 [[int c11]])]⟩) (fun c14 e st => e = .exit 4 ∧ Sub [] st ⟨[(1, .c (row 1 d6 all)), (2, .c (row 1 u7 nextv)), (7, .c (.ptr 1 0 0)), (9, .c (.ptr 4 0 0)), (12, .c (.ptr 5 0 0))], [.dead, .one (.cells 1 [[row 1 intI safe]]), .dead, .one (vec 1 intI c14), .one (.cells 1 [[.own 3 0 c14.length]]), .one (.cells 1 [[int c11]])]⟩) ?_ ?_ ?_ ?_
    ·try dsimp only
     exact Sub.env ⟨Z, Z, Z, Z, Z, Z, Z, Y⟩
    ·intro t15 c14 hlot15 hltt15 _
     try dsimp only
     refine AWP.d (.f (.j Z Z Z (.nil (b5 (.d (.q Z hltt15 (.exit (d8 (d8 ⟨Z, ?_⟩)))))))))
     exact Sub.env ⟨Z, Z, Z, Z, Z, Y⟩
    ·intro t15 c14 o hlot15 hltt15 h
     unfold M7 at h
     try dsimp only at h ⊢
     refine AWP.d (.f (.j Z Z Z (.nil (b5 (.d (.r Z hltt15 (.skip (b5 ?_))))))))
     obtain ⟨c16, hx17, h⟩ := b6 h
     refine AWP.seqJ (⟨[(1, .c (row 1 d6 all)), (2, .c (row 1 u7 nextv)), (7, .c (.ptr 1 0 0)), (9, .c (.ptr 4 0 0)), (12, .c (.ptr 5 0 0)), (40, .c (int (all.length : Int))), (41, .c (int t15))], [.dead, .one (.cells 1 [[row 1 intI safe]]), .dead, .one (vec 1 intI c16), .one (.cells 1 [[.own 3 0 c16.length]]), .one (.cells 1 [[int c11]])]⟩) ?_ ?_
     ·refine AWP.k (.d (.f (.a Z Z (.e Z Z (.nil (b5 (.d ?_)))))))
      obtain ⟨t18, hx19, hx17⟩ := b6 hx17
      refine AWP.seqJ (⟨[(1, .c (row 1 d6 all)), (2, .c (row 1 u7 nextv)), (7, .c (.ptr 1 0 0)), (9, .c (.ptr 4 0 0)), (12, .c (.ptr 5 0 0)), (13, .c (int t15)), (40, .c (int (all.length : Int))), (41, .c (int t15)), (55, .c (bool t18))], [.dead, .one (.cells 1 [[row 1 intI safe]]), .dead, .one (vec 1 intI c14), .one (.cells 1 [[.own 3 0 c14.length]]), .one (.cells 1 [[int c11]])]⟩) ?_ ?_
      ·obtain ⟨a46, ha46, hx19⟩ := b6 hx19
       rcases bft (decide (0 ≤ a46)) with hb20 | hb20
       ·replace hx19 := C2 hb20 hx19
        refine AWP.f (.m Z Z Z Z Z Z (.a Z Z (S.idxO ha46 Z Z Z Z Z (S.loadO ha46 Z Z Z Z Z (.geq Z Z Z (.a Z Z (.i Z Z Z hb20 (.i Z Z Z hb20 (.i Z Z Z hb20 (.i Z Z Z hb20 (.i Z Z Z hb20 (.p Z hb20 Z Z (.nil ?_)))))))))))))
        obtain rfl := oi hx19
        refine b5 (Sub.env ⟨Z, Z, Z, Z, Z, Z, Z, Z, Z, Y⟩)
       ·replace hx19 := B9 hb20 hx19
        obtain ⟨a52, ha52, hx19⟩ := b6 hx19
        refine AWP.f (.m Z Z Z Z Z Z (.a Z Z (S.idxO ha46 Z Z Z Z Z (S.loadO ha46 Z Z Z Z Z (.geq Z Z Z (.a Z Z (.g Z Z Z hb20 (.m Z Z Z Z Z Z (.g Z Z Z hb20 (.a Z Z (.g Z Z Z hb20 (S.idx ha52 Z Z Z Z (.g Z Z Z hb20 (.o Z Z Z Z (.g Z Z Z hb20 (.v Z Z Z (.n Z hb20 Z Z (.nil ?_))))))))))))))))))
        obtain rfl := oi hx19
        refine b5 (Sub.env ⟨Z, Z, Z, Z, Z, Z, Z, Z, Z, Y⟩)
      ·refine AWP.s Z hx17 (fun hc21 hx17 => ?_) (fun hc21 hx17 => ?_)
       ·refine AWP.exit (d8 (g8 ?_))
        obtain rfl := oi hx17
        refine b5 (Sub.env ⟨Z, Z, Z, Z, Z, Z, Z, Y⟩)
       ·refine AWP.skip (b5 (.d ?_))
        obtain ⟨a58, ha58, a61, ha61, hx17⟩ := b2 hx17
        refine AWP.f (.a Z Z (.a Z Z (S.idx ha58 Z Z Z Z (.o Z Z Z Z (.makeFunc Z Z (.y Z Z (.cons (.c .imm) (.cons (.c (.fn (.cons (.ptr (es := [.sl 1 (List.map intI safe)]) Z Z (.cons .imm .nil)) (.cons (.ptr (es := [.sl 1 (List.map intI c14)]) Z Z (.cons (.own Z Z) .nil)) (.cons (.ptr (es := [.val (.int .i64 c11)]) Z Z (.cons .imm .nil)) .nil))))) .nil)) Z (N1 Z (fun hy => al6 hy) ha61) Z ?_))))))
        refine AOps.nil (b5 (.s Z hx17 (fun hc22 hx17 => ?_) (fun hc22 hx17 => ?_)))
        ·obtain ⟨a65, ha65, hx17⟩ := b6 hx17
         refine AWP.f (.m Z Z Z Z Z Z (.a Z Z (.m Z Z Z Z Z Z (S.idxO ha65 Z Z Z Z Z (S.storeO1 (f := intI) (a' := c11) (x5 ha65) (fun _ => ⟨_, Z⟩) Z Z Z Z Z ?_)))))
         refine AOps.nil (d7 ?_)
         obtain rfl := oi hx17
         refine b5 (Sub.cut ⟨Z, Z, Z, Z, Z, Z, Z, Y⟩ Z ⟨.dead, .one Z, .dead, .vec, (.eq Z (by first | rfl | simp only [List.length_set])), .one Z, Y⟩ Z)
        ·refine AWP.skip (d7 ?_)
         obtain rfl := oi hx17
         refine b5 (Sub.env ⟨Z, Z, Z, Z, Z, Z, Z, Y⟩)
     ·refine AWP.f (.add Z Z Z (by omega) (.a Z Z (.nil ?_)))
      obtain rfl := oi h
      refine b5 (Sub.env ⟨Z, Z, Z, Z, Z, Z, Z, Y⟩)
    ·intro e s hq
     obtain ⟨rfl, hs⟩ := hq
     refine ⟨_, hs, ?_⟩
     refine g8 (d7 (b5 (.d (.d (.f (.m Z Z Z Z Z Z (.nil (b5 (.f (W.alloc Z Z Z Z (W.store Z Z Z Z Z (.nil (b5 (.f (.m Z Z Z Z Z Z (S.add Z Z Z (W.store Z Z Z Z Z (.nil ?_))))))))))))))))))
     obtain rfl := oi h
     refine b5 ⟨_, Z, ?_⟩
     exact (Sub.move (env' := [(1, .c (row 1 d6 all)), (2, .c (row 1 u7 nextv)), (7, .c (.ptr 1 0 0)), (9, .c (.ptr 4 0 0)), (12, .c (.ptr 5 0 0))]) (σ' := [.dead, .one (.cells 1 [[row 1 intI safe]]), .dead, .one (vec 1 intI c14), .one (.cells 1 [[.own 3 0 c14.length]]), .one (.cells 1 [[int (w64 (c11 + 1))]])]) 5 6 Z Z Z ⟨Z, Z, Z, Z, Z, Y⟩ Z ⟨trivial, ⟨Z, Z⟩, trivial, ⟨Blk.im_ok _ _ _, l8 Z⟩, ⟨Z, Z⟩, ⟨Z, Z⟩, Y⟩).trans (Sub.env ⟨Z, Z, Z, Z, Z, Y⟩)
   ·refine AWP.exit (d8 ?_)
    obtain rfl := oi h
    refine d8 ⟨_, Z, Z, ?_⟩
    exact Sub.cut ⟨Z, Y⟩ Z ⟨.dead, .dead, .dead, .vec, .one Z, Y⟩ Z
  ·intro e s hq
   obtain ⟨rfl, hs⟩ := hq
   refine ⟨_, hs, ?_⟩
   refine g8 (b5 (.d (.f (.m Z Z Z Z Z Z (.e Z Z (.nil (b5 (.ret ?_))))))))
   obtain rfl := oi h
   exact Done.ret Z (Fresh.mk Z Z)
theorem al8 {ov : b9} {all : LL} {r : (List Int)} (h : J1 ov all = some r) : m5 Tryz.prog 58 [.agg (tO ov), .c (row 1 d6 all)] 1 (List.map intI r) := by
 unfold m5
 refine FnOk.enter (rs := [.t 4]) Tryz.func58 Z Tryz.ntmps58 Tryz.results58 Z ⟨trivial, Y⟩ (by kernel_rfl) Z ?_
 unfold J1 at h
 refine AWP.d (.f (W.box Z Z Z Z Z Z (.e Z Z (.nil (b5 (.d ?_))))))
 obtain ⟨a12, ha12, h⟩ := b6 h
 refine AWP.f (W.loadAgg Z Z Z Z Z Z Z (.a Z Z (S.fresh Z Z Z Z (cyclic_arcs_ok ha12) Z Z (.e Z Z (.nil (b5 (.d ?_)))))))
 obtain ⟨a16, ha16, h⟩ := b6 h
 refine AWP.f (S.lit (f := intI) (l := [1]) (ess := [[int 1]]) Z Z Z Z Z Z Z ⟨⟨.inl Z, Y⟩, Y⟩ Z Z Z (.a Z Z (S.len Z Z (fun hl15 => S.freshL (fun _ => Z) Z Z (.cons (.c (.own Z Z)) (.cons (.c .imm) .nil)) Z (T8 ha16) Z Z ?_))))
 refine AOps.e Z Z (.nil (b5 (.k ?_)))
 obtain ⟨x, ho1, h⟩ := b6 h
 refine AWP.loopS ho1 (fun c3 => ⟨[(1, .c (row 1 d6 all)), (2, .c (.ptr 0 0 0)), (5, .c (.own 1 0 a12.length)), (6, .c (.own 3 0 c3.length))], [.one (.cells 4 [(tO ov)]), .one (vec 1 u7 a12), .dead, .one (vec 1 intI c3)]⟩) (fun x e st => e = .ret ∧ Done [.t 4] (fun t s => ∃ id, t = .c (.own id 0 (List.map intI x).length) ∧ s[id]? = some (some (Blk.im 1 (List.map intI x)))) .ret st) ?_ ?_ ?_
 ·try dsimp only
  exact Sub.cut ⟨Z, Z, Z, Z, Y⟩ Z ⟨.one Z, .vec, .dead, .vec, Y⟩ Z
 ·intro c3 o h
  unfold J6 at h
  try dsimp only at h ⊢
  refine AWP.k (.d ?_)
  obtain ⟨a21, ha21, h⟩ := b6 h
  refine AWP.f (W.loadAgg Z Z Z Z Z Z Z (.a Z Z (.a Z Z (.a Z Z (S.freshL (fun _ => Z) Z Z (.cons (.agg (.cons .imm (.cons .imm (.cons .imm (.cons .imm .nil))))) (.cons (.c .imm) (.cons (.c (.own Z Z)) (.cons (.c (.own Z Z)) .nil)))) Z (an9 ha21) Z Z ?_)))))
  refine AOps.e Z Z (.nil (b5 (.d (.f (.e Z Z (.nil (b5 (.d (.d (.f (.a Z Z (S.lenO Z Z Z (fun hl23 => .a Z Z (.nil (b5 (.k ?_))))))))))))))))
  obtain ⟨⟨c4, same5⟩, ho2, h⟩ := b6 h
  try dsimp only at h
  refine AWP.forS ho2 (fun t6 (c4, same5) => ⟨[(1, .c (row 1 d6 all)), (2, .c (.ptr 0 0 0)), (5, .c (.own 1 0 a12.length)), (6, .c (.own 3 0 c4.length)), (7, .c (.own 4 0 a21.length)), (8, .c (bool same5)), (23, .c (int (a21.length : Int))), (24, .c (int t6))], [.one (.cells 4 [(tO ov)]), .one (vec 1 u7 a12), .dead, .one (vec 1 intI c4), .one (vec 1 intI a21)]⟩) (fun (c4, same5) e st => e = .exit 2 ∧ Sub [] st ⟨[(1, .c (row 1 d6 all)), (2, .c (.ptr 0 0 0)), (5, .c (.own 1 0 a12.length)), (6, .c (.own 3 0 c4.length)), (7, .c (.own 4 0 a21.length)), (8, .c (bool same5))], [.one (.cells 4 [(tO ov)]), .one (vec 1 u7 a12), .dead, .one (vec 1 intI c4), .one (vec 1 intI a21)]⟩) ?_ ?_ ?_ ?_
  ·try dsimp only
   exact Sub.env ⟨Z, Z, Z, Z, Z, Z, Z, Z, Y⟩
  ·intro t6 s hlot6 hltt6 _
   obtain ⟨c4, same5⟩ := s
   try dsimp only
   refine AWP.d (.f (.j Z Z Z (.nil (b5 (.d (.q Z hltt6 (.exit (d8 (d8 ⟨Z, ?_⟩)))))))))
   exact Sub.env ⟨Z, Z, Z, Z, Z, Z, Y⟩
  ·intro t6 s o hlot6 hltt6 h
   obtain ⟨c4, same5⟩ := s
   unfold J5 at h
   try dsimp only at h ⊢
   refine AWP.d (.f (.j Z Z Z (.nil (b5 (.d (.r Z hltt6 (.skip (b5 (.d (.k (.d (.f (.a Z Z (.e Z Z (.nil (b5 ?_))))))))))))))))
   obtain ⟨same7, hx8, h⟩ := b6 h
   refine AWP.seqJ (⟨[(1, .c (row 1 d6 all)), (2, .c (.ptr 0 0 0)), (5, .c (.own 1 0 a12.length)), (6, .c (.own 3 0 c4.length)), (7, .c (.own 4 0 a21.length)), (8, .c (bool same7)), (9, .c (int t6)), (23, .c (int (a21.length : Int))), (24, .c (int t6))], [.one (.cells 4 [(tO ov)]), .one (vec 1 u7 a12), .dead, .one (vec 1 intI c4), .one (vec 1 intI a21)]⟩) ?_ ?_
   ·rcases bft (same5) with hb9 | hb9
    ·replace hx8 := w9 hb9 hx8
     obtain ⟨a31, ha31, a36, ha36, hx8⟩ := b2 hx8
     refine AWP.drawI mixed Z ?_
     refine i5.consF Z (fun E => AOps.a Z Z (.nil ⟨Z, Z⟩)) Z (.consF Z (fun E => AOps.a Z Z (.nil ⟨Z, Z⟩)) Z (.consF Z (fun E => AOps.g Z Z Z hb9 (.a Z Z (.nil ⟨Z, Z⟩))) Z (.consF Z (fun E => AOps.g Z Z Z hb9 (.a Z Z (.nil ⟨Z, Z⟩))) Z (.consF Z (fun E => AOps.g Z Z Z hb9 (S.idxO ha31 Z Z Z Z Z (.nil ⟨Z, Z⟩))) Z (.consF Z (fun E => AOps.g Z Z Z hb9 (S.loadO ha31 Z Z Z Z Z (.nil ⟨Z, Z⟩))) Z (.consF Z (fun E => AOps.g Z Z Z hb9 (.geq Z Z Z (.nil ⟨Z, Z⟩))) Z (.consF Z (fun E => AOps.g Z Z Z hb9 (.a Z Z (.nil ⟨Z, Z⟩))) Z (.consF Z (fun E => AOps.g Z Z Z hb9 (.a Z Z (.nil ⟨Z, Z⟩))) Z (.consF Z (fun E => AOps.g Z Z Z hb9 (S.idxO ha36 Z Z Z Z Z (.nil ⟨Z, Z⟩))) Z (.consF Z (fun E => AOps.g Z Z Z hb9 (S.loadO ha36 Z Z Z Z Z (.nil ⟨Z, Z⟩))) Z (.consF Z (fun E => AOps.g Z Z Z hb9 (.gtr Z Z Z (.nil ⟨Z, Z⟩))) Z (.consF Z (fun E => AOps.g Z Z Z hb9 (.eqlB Z Z Z (.nil ⟨Z, Z⟩))) Z (.consF Z (fun E => AOps.p Z hb9 Z Z (.nil ⟨Z, Z⟩)) Z (.consF Z (fun E => AOps.e Z Z (.nil ⟨Z, Z⟩)) Z ?_))))))))))))))
     refine i5.done ?_
     dsimp only [j6]
     obtain rfl := oi hx8
     refine b5 (Sub.env ⟨Z, Z, Z, Z, Z, Z, Z, Z, Z, Y⟩)
    ·replace hx8 := w6 hb9 hx8
     refine AWP.drawI mixed Z ?_
     refine i5.consF Z (fun E => AOps.a Z Z (.nil ⟨Z, Z⟩)) Z (.consF Z (fun E => AOps.a Z Z (.nil ⟨Z, Z⟩)) Z (.consF Z (fun E => AOps.i Z Z Z hb9 (.nil ⟨Z, Z⟩)) Z (.consF Z (fun E => AOps.i Z Z Z hb9 (.nil ⟨Z, Z⟩)) Z (.consF Z (fun E => AOps.i Z Z Z hb9 (.nil ⟨Z, Z⟩)) Z (.consF Z (fun E => AOps.i Z Z Z hb9 (.nil ⟨Z, Z⟩)) Z (.consF Z (fun E => AOps.i Z Z Z hb9 (.nil ⟨Z, Z⟩)) Z (.consF Z (fun E => AOps.i Z Z Z hb9 (.nil ⟨Z, Z⟩)) Z (.consF Z (fun E => AOps.i Z Z Z hb9 (.nil ⟨Z, Z⟩)) Z (.consF Z (fun E => AOps.i Z Z Z hb9 (.nil ⟨Z, Z⟩)) Z (.consF Z (fun E => AOps.i Z Z Z hb9 (.nil ⟨Z, Z⟩)) Z (.consF Z (fun E => AOps.i Z Z Z hb9 (.nil ⟨Z, Z⟩)) Z (.consF Z (fun E => AOps.i Z Z Z hb9 (.nil ⟨Z, Z⟩)) Z (.consF Z (fun E => AOps.n Z hb9 Z Z (.nil ⟨Z, Z⟩)) Z (.consF Z (fun E => AOps.e Z Z (.nil ⟨Z, Z⟩)) Z ?_))))))))))))))
     refine i5.done ?_
     dsimp only [j6]
     obtain rfl := oi hx8
     refine b5 (Sub.env ⟨Z, Z, Z, Z, Z, Z, Z, Z, Z, Y⟩)
   ·obtain ⟨a45, ha45, a49, ha49, h⟩ := b2 h
    refine AWP.f (.a Z Z (.a Z Z (.a Z Z (.a Z Z (S.idxO ha45 Z Z Z Z Z (S.loadO ha45 Z Z Z Z Z (S.add Z Z Z (.min2 Z Z Z (S.idxO ha49 Z Z Z Z Z (S.storeO1 (f := intI) (a' := min 1 (w64 (a45 + 1))) (x5 ha49) (fun _ => ⟨_, Z⟩) Z Z Z Z Z ?_))))))))))
    refine AOps.nil (d7 (b5 (.f (.add Z Z Z (by omega) (.a Z Z (.nil ?_))))))
    obtain rfl := oi h
    refine b5 (Sub.env ⟨Z, Z, Z, (x9 (by first | rfl | simp only [List.length_set])), Z, Z, Z, Z, Y⟩)
  ·intro e s hq
   obtain ⟨rfl, hs⟩ := hq
   refine ⟨_, hs, ?_⟩
   refine g8 (b5 (.d (.f (.a Z Z (.nil (b5 (.s Z h (fun hc10 h => ?_) (fun hc10 h => ?_))))))))
   ·refine AWP.d (.f (.a Z Z (.e Z Z (.nil (b5 (.ret (h9 ?_)))))))
    obtain rfl := oi h
    refine e8 ⟨_, Z, Z, ?_⟩
    exact Done.ret Z (Fresh.mk Z Z)
   ·refine AWP.skip (d7 ?_)
    obtain rfl := oi h
    refine b5 ⟨_, Z, ?_⟩
    exact Sub.cut ⟨Z, Z, Z, Z, Y⟩ Z ⟨.one Z, .vec, .dead, .vec, Y⟩ Z
 ·intro e s hq
  obtain ⟨rfl, hs⟩ := hq
  refine ⟨_, Sub.refl _ _, ?_⟩
  refine h9 ?_
  obtain rfl := oi h
  exact hs
theorem am3 {sv : List Int} {c2 : List Int} {c3 : LL} {c4 : b9} {r : Int} (h : o7 sv c2 c3 c4 = some r) : f8 Tryz.prog 59 [.c (row 1 intI sv), .c (.imm (.ipt [.sl 1 (List.map intI c2)])), .c (.imm (.ipt [.sl 1 (List.map d6 c3)])), .c (.imm (.ipt [.val (.int .i64 c4.facts), .sl 1 (List.map intI c4.init), .sl 1 (List.map intI c4.goal), .sl 3 (List.map m6 c4.operators)]))] (.c (int r)) := by
 unfold f8
 refine FnOk.enter (rs := [.t 5]) Tryz.func59 Z Tryz.ntmps59 Tryz.results59 Z ⟨trivial, Y⟩ (by kernel_rfl) Z ?_
 unfold o7 at h
 refine AWP.d (.f (.e Z Z (.nil (b5 (.d ?_)))))
 obtain ⟨a18, ha18, a19, ha19, h⟩ := b2 h
 refine AWP.drawI mixed Z ?_
 refine i5.consF Z (fun E => AOps.o Z Z Z Z (.nil ⟨Z, Z⟩)) Z (.consF Z (fun E => AOps.o Z Z Z Z (.nil ⟨Z, Z⟩)) Z (.consF Z (fun E => AOps.a Z Z (.nil ⟨Z, Z⟩)) Z (.consF Z (fun E => AOps.l Z Z Z Z (I6 ha18) Z (.nil ⟨Z, Z⟩)) Z (.consF Z (fun E => S.idx ha19 Z Z Z Z (.nil ⟨Z, Z⟩)) Z (.consF Z (fun E => AOps.o Z Z Z Z (.nil ⟨Z, Z⟩)) Z (.consF Z (fun E => AOps.e Z Z (.nil ⟨Z, Z⟩)) Z ?_))))))
 refine i5.done ?_
 dsimp only [j6]
 refine b5 (.d (.d (.f (W.fieldAddrI Z Z Z Z (.o Z Z Z Z (S.len Z Z (fun hl23 => .a Z Z (.nil (b5 (.k ?_))))))))))
 obtain ⟨oo, ho1, h⟩ := b6 h
 refine AWP.rngS ho1 (fun t2 _ => ⟨[(0, .c (row 1 intI sv)), (1, .c (.imm (.ipt [.sl 1 (List.map intI c2)]))), (2, .c (.imm (.ipt [.sl 1 (List.map d6 c3)]))), (3, .c (.imm (.ipt [.val (.int .i64 c4.facts), .sl 1 (List.map intI c4.init), .sl 1 (List.map intI c4.goal), .sl 3 (List.map m6 c4.operators)]))), (6, .c (int a19)), (23, .c (int (c4.operators.length : Int))), (24, .c (int t2))], []⟩) (fun o e st => match o with | .inl _ => e = .exit 0 ∧ Sub [] st ⟨[], []⟩ | .inr x => e = .ret ∧ Done [.t 5] (fun t _ => t = .c (int x)) .ret st) ?_ ?_ ?_ ?_
 ·try dsimp only
  exact Sub.env ⟨Z, Z, Z, Z, Z, Z, Z, Y⟩
 ·intro t2 s hlot2 hltt2 _
  try dsimp only
  refine AWP.d (.f (.j Z Z Z (.nil (b5 (.d (.q Z hltt2 (.exit (d8 (d8 ⟨Z, ?_⟩)))))))))
  exact Sub.env trivial
 ·intro t2 s o hlot2 hltt2 h
  unfold G0 at h
  try dsimp only at h ⊢
  refine AWP.d (.f (.j Z Z Z (.nil (b5 (.d (.r Z hltt2 (.skip (b5 (.seqF (G1) o (fun () => ⟨[(0, .c (row 1 intI sv)), (1, .c (.imm (.ipt [.sl 1 (List.map intI c2)]))), (2, .c (.imm (.ipt [.sl 1 (List.map d6 c3)]))), (3, .c (.imm (.ipt [.val (.int .i64 c4.facts), .sl 1 (List.map intI c4.init), .sl 1 (List.map intI c4.goal), .sl 3 (List.map m6 c4.operators)]))), (6, .c (int a19)), (23, .c (int (c4.operators.length : Int))), (24, .c (int t2))], []⟩) (fun x h => ?_) ?_)))))))))
  ·unfold G1 at h
   try dsimp only at h ⊢
   refine AWP.f (.add Z Z Z (by omega) (.a Z Z (.nil ?_)))
   obtain rfl := oi h
   refine b5 ⟨_, Z, ?_⟩
   exact Sub.env ⟨Z, Z, Z, Z, Z, Z, Z, Y⟩
  ·refine AWP.k (.d (.f (.a Z Z (.e Z Z (.nil (b5 (.d (.d ?_))))))))
   obtain ⟨a30, ha30, h⟩ := b6 h
   refine AWP.f (W.loadIAgg Z Z Z Z Z (.a Z Z (.a Z Z (.l Z Z Z Z (ad3 ha30) Z (.u Z Z (.nil (b5 (.s Z h (fun hc3 h => ?_) (fun hc3 h => ?_)))))))))
   ·refine AWP.exit (d8 (g8 (b5 ⟨_, h, ?_⟩)))
    exact Sub.env ⟨Z, Z, Z, Z, Z, Z, Z, Y⟩
   ·refine AWP.skip (b5 (.d ?_))
    obtain ⟨a36, ha36, h⟩ := b6 h
    refine AWP.f (W.loadIAgg Z Z Z Z Z (.a Z Z (.a Z Z (.l Z Z Z Z (G6 ha36) Z (.a Z Z (.w Z Z Z (.w Z Z Z (.e Z Z (.e Z Z (.nil (b5 (.d (.f (.e Z Z (.e Z Z (.nil (b5 (.d (.d (.f (.a Z Z (S.len Z Z (fun hl40 => .a Z Z (.nil (b5 (.k ?_))))))))))))))))))))))))))
    obtain ⟨⟨sure4, near5⟩, ho3, h⟩ := b6 h
    try dsimp only at h
    refine AWP.forS ho3 (fun t6 (sure4, near5) => ⟨[(0, .c (row 1 intI sv)), (1, .c (.imm (.ipt [.sl 1 (List.map intI c2)]))), (2, .c (.imm (.ipt [.sl 1 (List.map d6 c3)]))), (3, .c (.imm (.ipt [.val (.int .i64 c4.facts), .sl 1 (List.map intI c4.init), .sl 1 (List.map intI c4.goal), .sl 3 (List.map m6 c4.operators)]))), (6, .c (int a19)), (7, .c (int t2)), (10, .c (bool sure4)), (11, .c (bool near5)), (23, .c (int (c4.operators.length : Int))), (24, .c (int t2)), (39, .c (row 1 d6 a36.1)), (40, .c (int (a36.1.length : Int))), (41, .c (int t6))], []⟩) (fun (sure4, near5) e st => e = .exit 2 ∧ Sub [] st ⟨[(0, .c (row 1 intI sv)), (1, .c (.imm (.ipt [.sl 1 (List.map intI c2)]))), (2, .c (.imm (.ipt [.sl 1 (List.map d6 c3)]))), (3, .c (.imm (.ipt [.val (.int .i64 c4.facts), .sl 1 (List.map intI c4.init), .sl 1 (List.map intI c4.goal), .sl 3 (List.map m6 c4.operators)]))), (6, .c (int a19)), (7, .c (int t2)), (10, .c (bool sure4)), (11, .c (bool near5)), (23, .c (int (c4.operators.length : Int))), (24, .c (int t2))], []⟩) ?_ ?_ ?_ ?_
    ·try dsimp only
     exact Sub.env ⟨Z, Z, Z, Z, Z, Z, Z, Z, Z, Z, Z, Z, Z, Y⟩
    ·intro t6 s hlot6 hltt6 _
     obtain ⟨sure4, near5⟩ := s
     try dsimp only
     refine AWP.d (.f (.j Z Z Z (.nil (b5 (.d (.q Z hltt6 (.exit (d8 (d8 ⟨Z, ?_⟩)))))))))
     exact Sub.env ⟨Z, Z, Z, Z, Z, Z, Z, Z, Z, Z, Y⟩
    ·intro t6 s o hlot6 hltt6 h
     obtain ⟨sure4, near5⟩ := s
     unfold L4 at h
     try dsimp only at h ⊢
     refine AWP.d (.f (.j Z Z Z (.nil (b5 (.d (.r Z hltt6 (.skip (b5 ?_))))))))
     obtain ⟨⟨sure7, near8⟩, hx9, h⟩ := b6 h
     refine AWP.seqJ (⟨[(0, .c (row 1 intI sv)), (1, .c (.imm (.ipt [.sl 1 (List.map intI c2)]))), (2, .c (.imm (.ipt [.sl 1 (List.map d6 c3)]))), (3, .c (.imm (.ipt [.val (.int .i64 c4.facts), .sl 1 (List.map intI c4.init), .sl 1 (List.map intI c4.goal), .sl 3 (List.map m6 c4.operators)]))), (6, .c (int a19)), (7, .c (int t2)), (10, .c (bool sure7)), (11, .c (bool near8)), (23, .c (int (c4.operators.length : Int))), (24, .c (int t2)), (39, .c (row 1 d6 a36.1)), (40, .c (int (a36.1.length : Int))), (41, .c (int t6))], []⟩) ?_ ?_
     ·refine AWP.k (.d ?_)
      obtain ⟨a43, ha43, hx9⟩ := b6 hx9
      refine AWP.f (S.idx ha43 Z Z Z Z (.o Z Z Z Z (.e Z Z (.nil (b5 (.d ?_))))))
      obtain ⟨a48, ha48, a49, ha49, hx9⟩ := b2 hx9
      refine AWP.drawI mixed Z ?_
      refine i5.consF Z (fun E => AOps.o Z Z Z Z (.nil ⟨Z, Z⟩)) Z (.consF Z (fun E => AOps.o Z Z Z Z (.nil ⟨Z, Z⟩)) Z (.consF Z (fun E => AOps.a Z Z (.nil ⟨Z, Z⟩)) Z (.consF Z (fun E => AOps.l Z Z Z Z (I6 ha48) Z (.nil ⟨Z, Z⟩)) Z (.consF Z (fun E => S.idx ha49 Z Z Z Z (.nil ⟨Z, Z⟩)) Z (.consF Z (fun E => AOps.o Z Z Z Z (.nil ⟨Z, Z⟩)) Z (.consF Z (fun E => AOps.e Z Z (.nil ⟨Z, Z⟩)) Z ?_))))))
      refine i5.done ?_
      dsimp only [j6]
      refine b5 ?_
      rcases bft (sure4) with hb10 | hb10
      ·replace hx9 := w9 hb10 hx9
       rcases bft (near5) with hb11 | hb11
       ·replace hx9 := w9 hb11 hx9
        refine AWP.f (.a Z Z (.a Z Z (.g Z Z Z hb10 (.a Z Z (.g Z Z Z hb10 (.geq Z Z Z (.p Z hb10 Z Z (.a Z Z (.a Z Z (.i Z Z Z hb11 (.i Z Z Z hb11 (.i Z Z Z hb11 (.i Z Z Z hb11 (.p Z hb11 Z Z (.e Z Z (.e Z Z (.nil (d7 ?_))))))))))))))))))
        obtain ⟨ej0, ej1⟩ := o2 hx9
        subst ej0 ej1
        refine b5 (Sub.env ⟨Z, Z, Z, Z, Z, Z, Z, Z, Z, Z, Z, Z, Z, Y⟩)
       ·replace hx9 := w6 hb11 hx9
        refine AWP.f (.a Z Z (.a Z Z (.g Z Z Z hb10 (.a Z Z (.g Z Z Z hb10 (.geq Z Z Z (.p Z hb10 Z Z (.a Z Z (.a Z Z (.g Z Z Z hb11 (.a Z Z (.g Z Z Z hb11 (.a Z Z (.g Z Z Z hb11 (S.sub Z Z Z (.g Z Z Z hb11 (.v Z Z Z (.n Z hb11 Z Z (.e Z Z (.e Z Z (.nil (d7 ?_))))))))))))))))))))))
        obtain ⟨ej0, ej1⟩ := o2 hx9
        subst ej0 ej1
        refine b5 (Sub.env ⟨Z, Z, Z, Z, Z, Z, Z, Z, Z, Z, Z, Z, Z, Y⟩)
      ·replace hx9 := w6 hb10 hx9
       rcases bft (near5) with hb12 | hb12
       ·replace hx9 := w9 hb12 hx9
        refine AWP.f (.a Z Z (.a Z Z (.i Z Z Z hb10 (.i Z Z Z hb10 (.n Z hb10 Z Z (.a Z Z (.a Z Z (.i Z Z Z hb12 (.i Z Z Z hb12 (.i Z Z Z hb12 (.i Z Z Z hb12 (.p Z hb12 Z Z (.e Z Z (.e Z Z (.nil (d7 ?_))))))))))))))))
        obtain ⟨ej0, ej1⟩ := o2 hx9
        subst ej0 ej1
        refine b5 (Sub.env ⟨Z, Z, Z, Z, Z, Z, Z, Z, Z, Z, Z, Z, Z, Y⟩)
       ·replace hx9 := w6 hb12 hx9
        refine AWP.f (.a Z Z (.a Z Z (.i Z Z Z hb10 (.i Z Z Z hb10 (.n Z hb10 Z Z (.a Z Z (.a Z Z (.g Z Z Z hb12 (.a Z Z (.g Z Z Z hb12 (.a Z Z (.g Z Z Z hb12 (S.sub Z Z Z (.g Z Z Z hb12 (.v Z Z Z (.n Z hb12 Z Z (.e Z Z (.e Z Z (.nil (d7 ?_))))))))))))))))))))
        obtain ⟨ej0, ej1⟩ := o2 hx9
        subst ej0 ej1
        refine b5 (Sub.env ⟨Z, Z, Z, Z, Z, Z, Z, Z, Z, Z, Z, Z, Z, Y⟩)
     ·try dsimp only at h
      refine AWP.f (.add Z Z Z (by omega) (.a Z Z (.nil ?_)))
      obtain rfl := oi h
      refine b5 (Sub.env ⟨Z, Z, Z, Z, Z, Z, Z, Z, Z, Z, Z, Z, Z, Y⟩)
    ·intro e s hq
     obtain ⟨rfl, hs⟩ := hq
     refine ⟨_, hs, ?_⟩
     refine g8 (b5 (.seqJ (⟨[(0, .c (row 1 intI sv)), (1, .c (.imm (.ipt [.sl 1 (List.map intI c2)]))), (2, .c (.imm (.ipt [.sl 1 (List.map d6 c3)]))), (3, .c (.imm (.ipt [.val (.int .i64 c4.facts), .sl 1 (List.map intI c4.init), .sl 1 (List.map intI c4.goal), .sl 3 (List.map m6 c4.operators)]))), (6, .c (int a19)), (7, .c (int t2)), (23, .c (int (c4.operators.length : Int))), (24, .c (int t2)), (67, .c (bool (sure4 && near5)))], []⟩) ?_ ?_))
     ·rcases bft (sure4) with hb1 | hb1
      ·refine AWP.f (.a Z Z (.a Z Z (.g Z Z Z hb1 (.a Z Z (.p Z hb1 Z Z (.nil (b5 ?_)))))))
       simp only [and_t hb1, or_t hb1, Bool.false_or, Bool.true_or, Bool.false_and, Bool.true_and]
       exact Sub.env ⟨Z, Z, Z, Z, Z, Z, Z, Z, Z, Y⟩
      ·refine AWP.f (.a Z Z (.a Z Z (.i Z Z Z hb1 (.n Z hb1 Z Z (.nil (b5 ?_))))))
       simp only [and_f hb1, or_f hb1, Bool.false_or, Bool.true_or, Bool.false_and, Bool.true_and]
       exact Sub.env ⟨Z, Z, Z, Z, Z, Z, Z, Z, Z, Y⟩
     ·refine AWP.s Z h (fun hc13 h => ?_) (fun hc13 h => ?_)
      ·refine AWP.d (.f (.a Z Z (.e Z Z (.nil (b5 (.ret (h9 (e8 ?_))))))))
       obtain rfl := oi h
       refine e8 ⟨_, Z, Z, ?_⟩
       exact Done.ret Z Z
      ·refine AWP.skip (d7 (b5 ⟨_, h, ?_⟩))
       exact Sub.env ⟨Z, Z, Z, Z, Z, Z, Z, Y⟩
 ·intro e s hq
  rcases oo with u | x
  ·try dsimp only at h hq
   obtain ⟨rfl, hs⟩ := hq
   refine ⟨_, hs, ?_⟩
   refine g8 (b5 (.d (.f (.e Z Z (.nil (b5 (.ret ?_)))))))
   obtain rfl := oi h
   exact Done.ret Z Z
  ·try dsimp only at h hq
   obtain ⟨rfl, hs⟩ := hq
   refine ⟨_, Sub.refl _ _, ?_⟩
   refine h9 (e8 ?_)
   obtain rfl := oi h
   exact hs
theorem af8 {ov : b9} {r : (List d9) × Bool × l6} (h : r8 ov = some r) : f8 Tryz.prog 21 [.agg (tO ov)] (.tup [.c (row 2 g7 r.1), .c (bool r.2.1), .agg [int r.2.2.code, int r.2.2.index]]) := by
 unfold f8
 refine FnOk.enter (rs := [.t 2, .t 3, .cell 4 28 2]) Tryz.func21 Z Tryz.ntmps21 Tryz.results21 Z ⟨trivial, trivial, rv _ Z, Y⟩ (by kernel_rfl) Z ?_
 unfold r8 at h
 refine AWP.d (.f (W.box Z Z Z Z Z Z (.e Z Z (.e Z Z (W.alloc Z Z Z Z (.nil (b5 (.d ?_))))))))
 obtain ⟨a12, ha12, h⟩ := b6 h
 refine AWP.f (W.loadAgg Z Z Z Z Z Z Z (.l Z Z Z Z (open_Explore_ok ha12) Z (.a Z Z (.w Z Z Z (.w Z Z Z (W.alloc Z Z Z Z (W.alloc Z Z Z Z (W.store Z Z Z Z Z (W.storeAgg Z Z Z Z Z Z Z (.nil (b5 (.d (.d (.f (W.loadAgg Z Z Z Z Z Z Z (W.build Z Z Z Z (.neqP Z Z Z Z Z Z Z (.nil (b5 (.s Z h (fun hc2 h => ?_) (fun hc2 h => ?_)))))))))))))))))))))
 ·refine AWP.d (.drawEI [3] mixed Z Z Z ?_)
  refine g9.consN Z Z (fun E => W.loadAgg Z Z Z Z Z Z Z (.nil ⟨Z, Z⟩)) Z (.consN Z Z (fun E => AOps.e Z Z (.nil ⟨Z, Z⟩)) Z (.consN Z Z (fun E => AOps.e Z Z (.nil ⟨Z, Z⟩)) Z ?_))
  apply g9.consE (v := .undef); exact Z; exact Z; intro E
  refine W.storeAgg Z Z Z Z Z Z Z (.nil ⟨Z, Z⟩)
  exact Z
  exact Z
  refine g9.done Z ?_ ?_
  ·refine e9.cons Z Z ?_ ?_
   refine b8.go Z Z (fun E => W.loadAgg Z Z Z Z Z Z Z (AOps.nil ⟨Z, Z⟩)) ?_
   refine b8.skip Z (b8.nil)
   refine e9.cons Z Z ?_ ?_
   refine b8.go Z Z (fun E => AOps.e Z Z (AOps.nil ⟨Z, Z⟩)) ?_
   refine b8.skip Z (b8.nil)
   refine e9.cons Z Z ?_ ?_
   refine b8.go Z Z (fun E => AOps.e Z Z (AOps.nil ⟨Z, Z⟩)) ?_
   refine b8.skip Z (b8.nil)
   refine e9.skip Z (e9.nil)
  dsimp only [j6]
  refine b5 (.nilrow 2 2 Z (.ret (e8 ?_)))
  obtain rfl := oi h
  exact Done.ret Z Z
 ·refine AWP.skip (b5 (.d ?_))
  obtain ⟨a21, ha21, h⟩ := b6 h
  refine AWP.f (W.loadAgg Z Z Z Z Z Z Z (.m Z Z Z Z Z Z (S.fresh Z Z Z Z (al8 ha21) Z Z (W.alloc Z Z Z Z (W.store Z Z Z Z Z (.nil (b5 (.d (.d ?_)))))))))
  obtain ⟨a26, ha26, a27, ha27, h⟩ := b2 h
  refine AWP.drawI mixed Z ?_
  refine i5.consF Z (fun E => AOps.m Z Z Z Z Z Z (.nil ⟨Z, Z⟩)) Z (.consF Z (fun E => AOps.m Z Z Z Z Z Z (.nil ⟨Z, Z⟩)) Z (.consF Z (fun E => W.fieldAddr Z Z Z Z (.nil ⟨Z, Z⟩)) Z (.consF Z (fun E => AOps.m Z Z Z Z Z Z (.nil ⟨Z, Z⟩)) Z (.consF Z (fun E => AOps.l Z Z Z Z (I6 ha26) Z (.nil ⟨Z, Z⟩)) Z (.consF Z (fun E => S.idxO ha27 Z Z Z Z Z (.nil ⟨Z, Z⟩)) Z (.consF Z (fun E => S.loadO ha27 Z Z Z Z Z (.nil ⟨Z, Z⟩)) Z (.consF Z (fun E => AOps.j Z Z Z (.nil ⟨Z, Z⟩)) Z ?_)))))))
  refine i5.done ?_
  dsimp only [j6]
  refine b5 (.ite Z h (fun hc3 h => ?_) (fun hc3 h => ?_))
  ·refine AWP.d (.f (W.build Z Z Z Z (.e Z Z (.e Z Z (W.storeAgg Z Z Z Z Z Z Z (.nil (b5 (.nilrow 2 2 Z (.ret (e8 ?_))))))))))
   obtain rfl := oi h
   exact Done.ret Z Z
  ·refine AWP.skip (b5 (.d ?_))
   obtain ⟨a34, ha34, h⟩ := b6 h
   refine AWP.f (W.loadAgg Z Z Z Z Z Z Z (.makeFunc Z Z ?_))
   refine AOps.frzV (id := 4) (l := a21) (env2 := [(4, .c (.ptr 1 0 0)), (32, .agg (tO ov)), (33, .c (.fn 59 [.ptr 5 0 0, .ptr 2 0 0, .ptr 0 0 0]))]) (σ2 := [.one (.cells 4 [(tO ov)]), .one (.cells 2 [[int 0, int 0]]), .one (.cells 1 [[row 1 d6 a12.1]]), .one (.cells 2 [[int a12.2.code, int a12.2.index]]), .dead, .one (.cells 1 [[row 1 intI a21]])]) Z Z (by exact ⟨⟨_, Z, .inl ⟨Z, Z⟩⟩, ⟨_, Z, ⟨.inl ⟨Z, Z⟩, .inl ⟨Z, Z⟩, .inl ⟨Z, Z⟩, .inl ⟨Z, Z⟩, Y⟩⟩, ⟨_, Z, .inl ⟨Z, Z⟩⟩, Y⟩) Z (by exact ⟨⟨Z, .inl ⟨Z, Z⟩, .inl ⟨Z, Z⟩, .inl ⟨Z, Z⟩, .inl ⟨Z, Z⟩, Y⟩, ⟨Z, .inl ⟨Z, Z⟩, .inl ⟨Z, Z⟩, Y⟩, ⟨Z, .inl ⟨Z, Z⟩, Y⟩, ⟨Z, .inl ⟨Z, Z⟩, .inl ⟨Z, Z⟩, Y⟩, trivial, ⟨Z, .inr ⟨_, Z, Z, Z⟩, Y⟩, Y⟩) ?_; refine AOps.frzB (id := 5) (e := [.sl 1 (List.map intI a21)]) (env2 := [(4, .c (.ptr 1 0 0)), (32, .agg (tO ov)), (33, .c (.fn 59 [.imm (.ipt [.sl 1 (List.map intI a21)]), .ptr 2 0 0, .ptr 0 0 0]))]) (σ2 := [.one (.cells 4 [(tO ov)]), .one (.cells 2 [[int 0, int 0]]), .one (.cells 1 [[row 1 d6 a12.1]]), .one (.cells 2 [[int a12.2.code, int a12.2.index]]), .dead, .dead]) Z Z (by exact ⟨⟨_, Z, .inl ⟨Z, Z⟩⟩, ⟨_, Z, ⟨.inl ⟨Z, Z⟩, .inl ⟨Z, Z⟩, .inl ⟨Z, Z⟩, .inl ⟨Z, Z⟩, Y⟩⟩, ⟨_, Z, .inr Z⟩, Y⟩) Z (by exact ⟨⟨Z, .inl ⟨Z, Z⟩, .inl ⟨Z, Z⟩, .inl ⟨Z, Z⟩, .inl ⟨Z, Z⟩, Y⟩, ⟨Z, .inl ⟨Z, Z⟩, .inl ⟨Z, Z⟩, Y⟩, ⟨Z, .inl ⟨Z, Z⟩, Y⟩, ⟨Z, .inl ⟨Z, Z⟩, .inl ⟨Z, Z⟩, Y⟩, trivial, trivial, Y⟩) ?_; refine AOps.frzB (id := 2) (e := [.sl 1 (List.map d6 a12.1)]) (env2 := [(4, .c (.ptr 1 0 0)), (32, .agg (tO ov)), (33, .c (.fn 59 [.imm (.ipt [.sl 1 (List.map intI a21)]), .imm (.ipt [.sl 1 (List.map d6 a12.1)]), .ptr 0 0 0]))]) (σ2 := [.one (.cells 4 [(tO ov)]), .one (.cells 2 [[int 0, int 0]]), .dead, .one (.cells 2 [[int a12.2.code, int a12.2.index]]), .dead, .dead]) Z Z (by exact ⟨⟨_, Z, .inl ⟨Z, Z⟩⟩, ⟨_, Z, ⟨.inl ⟨Z, Z⟩, .inl ⟨Z, Z⟩, .inl ⟨Z, Z⟩, .inl ⟨Z, Z⟩, Y⟩⟩, ⟨_, Z, .inr Z⟩, Y⟩) Z (by exact ⟨⟨Z, .inl ⟨Z, Z⟩, .inl ⟨Z, Z⟩, .inl ⟨Z, Z⟩, .inl ⟨Z, Z⟩, Y⟩, ⟨Z, .inl ⟨Z, Z⟩, .inl ⟨Z, Z⟩, Y⟩, trivial, ⟨Z, .inl ⟨Z, Z⟩, .inl ⟨Z, Z⟩, Y⟩, trivial, trivial, Y⟩) ?_; refine AOps.frzB (id := 0) (e := [.val (.int .i64 ov.facts), .sl 1 (List.map intI ov.init), .sl 1 (List.map intI ov.goal), .sl 3 (List.map m6 ov.operators)]) (env2 := [(4, .c (.ptr 1 0 0)), (32, .agg (tO ov)), (33, .c (.fn 59 [.imm (.ipt [.sl 1 (List.map intI a21)]), .imm (.ipt [.sl 1 (List.map d6 a12.1)]), .imm (.ipt [.val (.int .i64 ov.facts), .sl 1 (List.map intI ov.init), .sl 1 (List.map intI ov.goal), .sl 3 (List.map m6 ov.operators)])]))]) (σ2 := [.dead, .one (.cells 2 [[int 0, int 0]]), .dead, .one (.cells 2 [[int a12.2.code, int a12.2.index]]), .dead, .dead]) Z Z (by exact ⟨⟨_, Z, .inl ⟨Z, Z⟩⟩, ⟨_, Z, ⟨.inl ⟨Z, Z⟩, .inl ⟨Z, Z⟩, .inl ⟨Z, Z⟩, .inl ⟨Z, Z⟩, Y⟩⟩, ⟨_, Z, .inr Z⟩, Y⟩) Z (by exact ⟨trivial, ⟨Z, .inl ⟨Z, Z⟩, .inl ⟨Z, Z⟩, Y⟩, trivial, ⟨Z, .inl ⟨Z, Z⟩, .inl ⟨Z, Z⟩, Y⟩, trivial, trivial, Y⟩) ?_; refine AOps.l Z Z Z Z (strong_Build_ok Z (fun hy => am3 hy) ha34) Z ?_
   refine AOps.a Z Z (.w Z Z Z (.w Z Z Z (.e Z Z (.e Z Z (.nil (b5 (.d (.d (.f (.a Z Z (.u Z Z (.nil (b5 (.s Z h (fun hc4 h => ?_) (fun hc4 h => ?_)))))))))))))))
   ·refine AWP.d (.f (W.build Z Z Z Z (.e Z Z (.e Z Z (W.storeAgg Z Z Z Z Z Z Z (.nil (b5 (.nilrow 2 2 Z (.ret (e8 ?_))))))))))
    obtain rfl := oi h
    exact Done.ret Z Z
   ·refine AWP.skip (b5 (.d (.f (.a Z Z (W.build Z Z Z Z (.e Z Z (.e Z Z (W.storeAgg Z Z Z Z Z Z Z (.nil (b5 (.ret ?_)))))))))))
    obtain rfl := oi h
    exact Done.ret Z Z
theorem an2 {r : b9} (h : ad5 = some r) : f8 Tryz.prog 62 [] (.agg (tO r)) := by
 unfold f8
 refine FnOk.enter (rs := [.cell 0 25 4]) Tryz.func62 Z Tryz.ntmps62 Tryz.results62 Z ⟨rv _ Z, Y⟩ (by kernel_rfl) Z ?_
 unfold ad5 at h
 refine AWP.d (.f (W.alloc Z Z Z Z (.nil (b5 (.d (.f (S.lit (f := intI) (l := [0]) (ess := [[int 0]]) Z Z Z Z Z Z Z ⟨⟨.inl Z, Y⟩, Y⟩ Z Z Z (S.lit (f := intI) (l := [0]) (ess := [[int 0]]) Z Z Z Z Z Z Z ⟨⟨.inl Z, Y⟩, Y⟩ Z Z Z (W.build Z Z Z Z (W.build Z Z Z Z (.frzV (id := 2) (l := [0]) (env2 := [(0, .c (.ptr 0 0 0)), (1, .c (.own 1 0 ([0].length))), (3, .agg [row 1 intI [0], .imm (.val (.slice none 0 0)), int 1]), (4, .agg [.imm (.val (.slice none 0 0)), .imm (.val (.slice none 0 0)), int 2])]) (σ2 := [.one (.cells 4 [[int 0, .imm (.val (.slice none 0 0)), .imm (.val (.slice none 0 0)), .imm (.val (.slice none 0 0))]]), .one (vec 1 intI [0]), .dead]) Z Z (by exact ⟨⟨_, Z, .inl ⟨Z, Z⟩⟩, ⟨_, Z, .inl ⟨Z, Z⟩⟩, ⟨_, Z, ⟨.inr ⟨_, Z, Z, Z⟩, .inl ⟨Z, Z⟩, .inl ⟨Z, Z⟩, Y⟩⟩, ⟨_, Z, ⟨.inl ⟨Z, Z⟩, .inl ⟨Z, Z⟩, .inl ⟨Z, Z⟩, Y⟩⟩, Y⟩) Z (by exact ⟨⟨Z, .inl ⟨Z, Z⟩, .inl ⟨Z, Z⟩, .inl ⟨Z, Z⟩, .inl ⟨Z, Z⟩, Y⟩, FrzB.vec, trivial, Y⟩) (S.lit (f := p7) (l := [(⟨[0], [], 1⟩ : j8), (⟨[], [], 2⟩ : j8)]) (ess := [[row 1 intI [0], .imm (.val (.slice none 0 0)), int 1], [.imm (.val (.slice none 0 0)), .imm (.val (.slice none 0 0)), int 2]]) Z Z Z Z Z Z Z ⟨⟨.inl Z, .inr ⟨Z, _, Z⟩, .inl Z, Y⟩, ⟨.inr ⟨Z, _, Z⟩, .inr ⟨Z, _, Z⟩, .inl Z, Y⟩, Y⟩ Z Z Z (W.build Z Z Z Z (.frzV (id := 3) (l := [(⟨[0], [], 1⟩ : j8), (⟨[], [], 2⟩ : j8)]) (env2 := [(0, .c (.ptr 0 0 0)), (1, .c (.own 1 0 ([0].length))), (6, .agg [.imm (.val (.slice none 0 0)), row 3 p7 ([(⟨[0], [], 1⟩ : j8), (⟨[], [], 2⟩ : j8)]), int 1])]) (σ2 := [.one (.cells 4 [[int 0, .imm (.val (.slice none 0 0)), .imm (.val (.slice none 0 0)), .imm (.val (.slice none 0 0))]]), .one (vec 1 intI [0]), .dead, .dead]) Z Z (by exact ⟨⟨_, Z, .inl ⟨Z, Z⟩⟩, ⟨_, Z, .inl ⟨Z, Z⟩⟩, ⟨_, Z, ⟨.inl ⟨Z, Z⟩, .inr ⟨_, Z, Z, Z⟩, .inl ⟨Z, Z⟩, Y⟩⟩, Y⟩) Z (by exact ⟨⟨Z, .inl ⟨Z, Z⟩, .inl ⟨Z, Z⟩, .inl ⟨Z, Z⟩, .inl ⟨Z, Z⟩, Y⟩, FrzB.vec, trivial, trivial, Y⟩) (S.lit (f := m6) (l := [(⟨[], [(⟨[0], [], 1⟩ : j8), (⟨[], [], 2⟩ : j8)], 1⟩ : i9)]) (ess := [[.imm (.val (.slice none 0 0)), row 3 p7 ([(⟨[0], [], 1⟩ : j8), (⟨[], [], 2⟩ : j8)]), int 1]]) Z Z Z Z Z Z Z ⟨⟨.inr ⟨Z, _, Z⟩, .inl Z, .inl Z, Y⟩, Y⟩ Z Z Z (W.build Z Z Z Z (W.storeAgg Z Z Z Z Z Z Z (.nil (b5 (.frzV (id := 1) (l := [0]) (env2 := [(0, .c (.ptr 0 0 0))]) (σ2 := [.one (.cells 4 [[int 1, .imm (.val (.slice none 0 0)), row 1 intI [0], .own 4 0 (([(⟨[], [(⟨[0], [], 1⟩ : j8), (⟨[], [], 2⟩ : j8)], 1⟩ : i9)]).length)]]), .dead, .dead, .dead, .one (vec 3 m6 ([(⟨[], [(⟨[0], [], 1⟩ : j8), (⟨[], [], 2⟩ : j8)], 1⟩ : i9)]))]) Z Z (by exact ⟨⟨_, Z, .inl ⟨Z, Z⟩⟩, Y⟩) Z (by exact ⟨⟨Z, .inl ⟨Z, Z⟩, .inl ⟨Z, Z⟩, .inr ⟨_, Z, Z, Z⟩, .inl ⟨Z, Z⟩, Y⟩, trivial, trivial, trivial, FrzB.vec, Y⟩) (.frzV (id := 4) (l := [(⟨[], [(⟨[0], [], 1⟩ : j8), (⟨[], [], 2⟩ : j8)], 1⟩ : i9)]) (env2 := [(0, .c (.ptr 0 0 0))]) (σ2 := [.one (.cells 4 [[int 1, .imm (.val (.slice none 0 0)), row 1 intI [0], row 3 m6 ([(⟨[], [(⟨[0], [], 1⟩ : j8), (⟨[], [], 2⟩ : j8)], 1⟩ : i9)])]]), .dead, .dead, .dead, .dead]) Z Z (by exact ⟨⟨_, Z, .inl ⟨Z, Z⟩⟩, Y⟩) Z (by exact ⟨⟨Z, .inl ⟨Z, Z⟩, .inl ⟨Z, Z⟩, .inl ⟨Z, Z⟩, .inr ⟨_, Z, Z, Z⟩, Y⟩, trivial, trivial, trivial, trivial, Y⟩) (.nilB (b := 0) [int 1, row 1 intI [], row 1 intI [0], row 3 m6 ([(⟨[], [(⟨[0], [], 1⟩ : j8), (⟨[], [], 2⟩ : j8)], 1⟩ : i9)])] Z (by exact ⟨.inl Z, .inr ⟨Z, _, Z⟩, .inl Z, .inl Z, Y⟩) Z Z (.ret ?_)))))))))))))))))))))))
 obtain rfl := oi h
 exact Done.ret Z Z
theorem cyclic_Holds_ok {ov : b9} {policy : List d9} {r : Bool} (h : T7 ov policy = some r) : f8 Tryz.prog 65 [.agg (tO ov), .c (row 2 g7 policy)] (.c (bool r)) := by
 unfold f8
 refine FnOk.enter (rs := [.t 4]) Tryz.func65 Z Tryz.ntmps65 Tryz.results65 Z ⟨trivial, Y⟩ (by kernel_rfl) Z ?_
 unfold T7 at h
 refine AWP.d (.f (W.box Z Z Z Z Z Z (.e Z Z (.nil (b5 (.d ?_))))))
 obtain ⟨a16, ha16, h⟩ := b6 h
 refine AWP.f (W.loadAgg Z Z Z Z Z Z Z (.a Z Z (S.fresh Z Z Z Z (open_Visited_ok ha16) Z Z (.e Z Z (.nil (b5 (.d ?_)))))))
 obtain ⟨a19, ha19, h⟩ := b6 h
 refine AWP.f (.a Z Z (S.lenO Z Z Z (fun hl18 => S.make (f := intI) ha19 (.val .nil) Z Z Z Z Z Z (.e Z Z (.nil (b5 (.d (.d (.f (.a Z Z (S.lenO Z Z Z (fun hl21 => .a Z Z (.nil (b5 (.k ?_)))))))))))))))
 obtain ⟨oo, ho1, h⟩ := b6 h
 refine AWP.rngS ho1 (fun t4 c3 => ⟨[(1, .c (row 2 g7 policy)), (2, .c (.ptr 0 0 0)), (5, .c (.own 1 0 a16.length)), (6, .c (.own 2 0 c3.length)), (21, .c (int (a16.length : Int))), (22, .c (int t4))], [.one (.cells 4 [(tO ov)]), .one (vec 1 d6 a16), .one (vec 1 intI c3)]⟩) (fun o e st => match o with | .inl c3 => e = .exit 0 ∧ Sub [] st ⟨[(6, .c (.own 2 0 c3.length))], [.one (.cells 4 [(tO ov)]), .one (vec 1 d6 a16), .one (vec 1 intI c3)]⟩ | .inr x => e = .ret ∧ Done [.t 4] (fun t _ => t = .c (bool x)) .ret st) ?_ ?_ ?_ ?_
 ·try dsimp only
  exact Sub.env ⟨Z, Z, Z, Z, Z, Z, Y⟩
 ·intro t4 c3 hlot4 hltt4 _
  try dsimp only
  refine AWP.d (.f (.j Z Z Z (.nil (b5 (.d (.q Z hltt4 (.exit (d8 (d8 ⟨Z, ?_⟩)))))))))
  exact Sub.env ⟨Z, Y⟩
 ·intro t4 c3 o hlot4 hltt4 h
  unfold G8 at h
  try dsimp only at h ⊢
  refine AWP.d (.f (.j Z Z Z (.nil (b5 (.d (.r Z hltt4 (.skip (b5 (.d (.k (.d (.f (.a Z Z (S.lenO Z Z Z (fun hl25 => .a Z Z (.nil (b5 (.k ?_))))))))))))))))))
  obtain ⟨oo, ho2, h⟩ := b6 h
  refine AWP.rngS ho2 (fun t6 c5 => ⟨[(1, .c (row 2 g7 policy)), (2, .c (.ptr 0 0 0)), (5, .c (.own 1 0 a16.length)), (6, .c (.own 2 0 c5.length)), (21, .c (int (a16.length : Int))), (22, .c (int t4)), (24, .c (.own 1 0 a16.length)), (25, .c (int (a16.length : Int))), (26, .c (int t6))], [.one (.cells 4 [(tO ov)]), .one (vec 1 d6 a16), .one (vec 1 intI c5)]⟩) (fun o e st => match o with | .inl c5 => e = .exit 2 ∧ Sub [] st ⟨[(1, .c (row 2 g7 policy)), (2, .c (.ptr 0 0 0)), (5, .c (.own 1 0 a16.length)), (6, .c (.own 2 0 c5.length)), (21, .c (int (a16.length : Int))), (22, .c (int t4))], [.one (.cells 4 [(tO ov)]), .one (vec 1 d6 a16), .one (vec 1 intI c5)]⟩ | .inr x => e = .ret ∧ Done [.t 4] (fun t _ => t = .c (bool x)) .ret st) ?_ ?_ ?_ ?_
  ·try dsimp only
   exact Sub.env ⟨Z, Z, Z, Z, Z, Z, Z, Z, Z, Y⟩
  ·intro t6 c5 hlot6 hltt6 _
   try dsimp only
   refine AWP.d (.f (.j Z Z Z (.nil (b5 (.d (.q Z hltt6 (.exit (d8 (d8 ⟨Z, ?_⟩)))))))))
   exact Sub.env ⟨Z, Z, Z, Z, Z, Z, Y⟩
  ·intro t6 c5 o hlot6 hltt6 h
   unfold G4 at h
   try dsimp only at h ⊢
   refine AWP.d (.f (.j Z Z Z (.nil (b5 (.d (.r Z hltt6 (.skip (b5 (.seqF (M3) o (fun c7 => ⟨[(1, .c (row 2 g7 policy)), (2, .c (.ptr 0 0 0)), (5, .c (.own 1 0 a16.length)), (6, .c (.own 2 0 c7.length)), (21, .c (int (a16.length : Int))), (22, .c (int t4)), (24, .c (.own 1 0 a16.length)), (25, .c (int (a16.length : Int))), (26, .c (int t6))], [.one (.cells 4 [(tO ov)]), .one (vec 1 d6 a16), .one (vec 1 intI c7)]⟩) (fun c7 h => ?_) ?_)))))))))
   ·unfold M3 at h
    try dsimp only at h ⊢
    refine AWP.f (.add Z Z Z (by omega) (.a Z Z (.nil ?_)))
    obtain rfl := oi h
    refine b5 ⟨_, Z, ?_⟩
    exact Sub.env ⟨Z, Z, Z, Z, Z, Z, Z, Z, Z, Y⟩
   ·refine AWP.k (.d ?_)
    obtain ⟨a29, ha29, h⟩ := b6 h
    refine AWP.f (.a Z Z (S.idxO ha29 Z Z Z Z Z (S.loadO ha29 Z Z Z Z Z (.e Z Z (.e Z Z (.nil (b5 (.d (.d ?_)))))))))
    obtain ⟨a34, ha34, h⟩ := b6 h
    refine AWP.f (.a Z Z (W.fieldAddr Z Z Z Z (.m Z Z Z Z Z Z (.l Z Z Z Z (C6 ha34) Z (.nil (b5 (.s Z h (fun hc8 h => ?_) (fun hc8 h => ?_))))))))
    ·refine AWP.d ?_
     obtain ⟨a37, ha37, h⟩ := b6 h
     refine AWP.f (.a Z Z (.a Z Z (S.idxO ha37 Z Z Z Z Z (S.storeO1 (f := intI) (a' := 1) (x5 ha37) (fun _ => ⟨_, Z⟩) Z Z Z Z Z ?_))))
     refine AOps.nil (b5 (.exit (d8 (g8 (b5 ⟨_, h, ?_⟩)))))
     exact Sub.env ⟨Z, Z, Z, (x9 (by first | rfl | simp only [List.length_set])), Z, Z, Z, Z, Z, Y⟩
    ·refine AWP.skip (b5 (.d ?_))
     obtain ⟨a40, ha40, h⟩ := b6 h
     refine AWP.f (.a Z Z (.a Z Z (.l Z Z Z Z (ac0 ha40) Z (.e Z Z (.nil (b5 (.d (.d (.f (.a Z Z (.j Z Z Z (.nil (b5 (.ite Z h (fun hc9 h => ?_) (fun hc9 h => ?_)))))))))))))))
     ·refine AWP.d (.f (.e Z Z (.nil (b5 (.ret (e8 (h9 (e8 ?_))))))))
      obtain rfl := oi h
      refine e8 ⟨_, Z, Z, ?_⟩
      exact Done.ret Z Z
     ·refine AWP.skip (b5 (.d ?_))
      obtain ⟨a47, ha47, h⟩ := b6 h
      refine AWP.f (W.loadAgg Z Z Z Z Z Z Z (.a Z Z (.a Z Z (.l Z Z Z Z (G6 ha47) Z (.a Z Z (.w Z Z Z (.w Z Z Z (.e Z Z (.e Z Z (.nil (b5 (.d (.f (.a Z Z (S.len Z Z (fun hl51 => .a Z Z (.nil (b5 (.k ?_)))))))))))))))))))
      obtain ⟨c10, ho4, h⟩ := b6 h
      refine AWP.forS ho4 (fun t11 c10 => ⟨[(1, .c (row 2 g7 policy)), (2, .c (.ptr 0 0 0)), (5, .c (.own 1 0 a16.length)), (6, .c (.own 2 0 c10.length)), (7, .c (int t6)), (21, .c (int (a16.length : Int))), (22, .c (int t4)), (24, .c (.own 1 0 a16.length)), (25, .c (int (a16.length : Int))), (26, .c (int t6)), (50, .c (row 1 d6 a47.1)), (51, .c (int (a47.1.length : Int))), (52, .c (int t11))], [.one (.cells 4 [(tO ov)]), .one (vec 1 d6 a16), .one (vec 1 intI c10)]⟩) (fun c10 e st => e = .exit 4 ∧ Sub [] st ⟨[(1, .c (row 2 g7 policy)), (2, .c (.ptr 0 0 0)), (5, .c (.own 1 0 a16.length)), (6, .c (.own 2 0 c10.length)), (21, .c (int (a16.length : Int))), (22, .c (int t4)), (24, .c (.own 1 0 a16.length)), (25, .c (int (a16.length : Int))), (26, .c (int t6))], [.one (.cells 4 [(tO ov)]), .one (vec 1 d6 a16), .one (vec 1 intI c10)]⟩) ?_ ?_ ?_ ?_
      ·try dsimp only
       exact Sub.env ⟨Z, Z, Z, Z, Z, Z, Z, Z, Z, Z, Z, Z, Z, Y⟩
      ·intro t11 c10 hlot11 hltt11 _
       try dsimp only
       refine AWP.d (.f (.j Z Z Z (.nil (b5 (.d (.q Z hltt11 (.exit (d8 (d8 ⟨Z, ?_⟩)))))))))
       exact Sub.env ⟨Z, Z, Z, Z, Z, Z, Z, Z, Z, Y⟩
      ·intro t11 c10 o hlot11 hltt11 h
       unfold Q9 at h
       try dsimp only at h ⊢
       refine AWP.d (.f (.j Z Z Z (.nil (b5 (.d (.r Z hltt11 (.skip (b5 (.d (.k (.d ?_)))))))))))
       obtain ⟨a54, ha54, h⟩ := b6 h
       refine AWP.f (S.idx ha54 Z Z Z Z (.o Z Z Z Z (.e Z Z (.nil (b5 ?_)))))
       obtain ⟨a60, ha60, a65, ha65, a66, ha66, h⟩ := b3 h
       obtain ⟨a69, ha69, h⟩ := b6 h
       refine AWP.drawEI [14] mixed Z Z Z ?_
       refine g9.consN Z Z (fun E => AOps.a Z Z (.nil ⟨Z, Z⟩)) Z (.consN Z Z (fun E => AOps.a Z Z (.nil ⟨Z, Z⟩)) Z (.consN Z Z (fun E => AOps.a Z Z (.nil ⟨Z, Z⟩)) Z (.consN Z Z (fun E => AOps.a Z Z (.nil ⟨Z, Z⟩)) Z (.consN Z Z (fun E => S.idxO ha60 Z Z Z Z Z (.nil ⟨Z, Z⟩)) Z (.consN Z Z (fun E => S.loadO ha60 Z Z Z Z Z (.nil ⟨Z, Z⟩)) Z (.consN Z Z (fun E => AOps.a Z Z (.nil ⟨Z, Z⟩)) Z (.consN Z Z (fun E => AOps.a Z Z (.nil ⟨Z, Z⟩)) Z (.consN Z Z (fun E => AOps.a Z Z (.nil ⟨Z, Z⟩)) Z (.consN Z Z (fun E => AOps.y Z Z (.cons (.c (.own Z Z)) (.cons (.c .imm) .nil)) Z (I6 ha65) Z (.nil ⟨Z, Z⟩)) Z (.consN Z Z (fun E => S.idxO ha66 Z Z Z Z Z (.nil ⟨Z, Z⟩)) Z (.consN Z Z (fun E => S.loadO ha66 Z Z Z Z Z (.nil ⟨Z, Z⟩)) Z (.consN Z Z (fun E => AOps.max2 Z Z Z (.nil ⟨Z, Z⟩)) Z (.consN Z Z (fun E => S.idxO ha69 Z Z Z Z Z (.nil ⟨Z, Z⟩)) Z ?_)))))))))))))
       apply g9.consE (v := .undef); exact Z; exact Z; intro E
       refine S.storeO1 (f := intI) (a' := max a60 a66) (x5 ha69) (fun _ => ⟨_, Z⟩) Z Z Z Z Z ?_
       exact AOps.nil ⟨Z, Z⟩
       exact Z
       exact Z
       refine g9.done Z ?_ ?_
       ·refine e9.cons Z Z ?_ ?_
        refine b8.go Z Z (fun E => AOps.a Z Z (AOps.nil ⟨Z, Z⟩)) ?_
        refine b8.skip Z (b8.nil)
        refine e9.cons Z Z ?_ ?_
        refine b8.go Z Z (fun E => AOps.a Z Z (AOps.nil ⟨Z, Z⟩)) ?_
        refine b8.skip Z (b8.nil)
        refine e9.cons Z Z ?_ ?_
        refine b8.go Z Z (fun E => AOps.a Z Z (AOps.nil ⟨Z, Z⟩)) ?_
        refine b8.skip Z (b8.nil)
        refine e9.cons Z Z ?_ ?_
        refine b8.go Z Z (fun E => AOps.a Z Z (AOps.nil ⟨Z, Z⟩)) ?_
        refine b8.skip Z (b8.nil)
        refine e9.cons Z Z ?_ ?_
        refine b8.go Z Z (fun E => S.idxO ha60 Z Z Z Z Z (AOps.nil ⟨Z, Z⟩)) ?_
        refine b8.skip Z (b8.nil)
        refine e9.cons Z Z ?_ ?_
        refine b8.go Z Z (fun E => S.loadO ha60 Z Z Z Z Z (AOps.nil ⟨Z, Z⟩)) ?_
        refine b8.skip Z (b8.nil)
        refine e9.cons Z Z ?_ ?_
        refine b8.go Z Z (fun E => AOps.a Z Z (AOps.nil ⟨Z, Z⟩)) ?_
        refine b8.skip Z (b8.nil)
        refine e9.cons Z Z ?_ ?_
        refine b8.go Z Z (fun E => AOps.a Z Z (AOps.nil ⟨Z, Z⟩)) ?_
        refine b8.skip Z (b8.nil)
        refine e9.cons Z Z ?_ ?_
        refine b8.go Z Z (fun E => AOps.a Z Z (AOps.nil ⟨Z, Z⟩)) ?_
        refine b8.skip Z (b8.nil)
        refine e9.cons Z Z ?_ ?_
        refine b8.go Z Z (fun E => AOps.y Z Z (.cons (.c (.own Z Z)) (.cons (.c .imm) .nil)) Z (I6 ha65) Z (AOps.nil ⟨Z, Z⟩)) ?_
        refine b8.skip Z (b8.nil)
        refine e9.cons Z Z ?_ ?_
        refine b8.go Z Z (fun E => S.idxO ha66 Z Z Z Z Z (AOps.nil ⟨Z, Z⟩)) ?_
        refine b8.skip Z (b8.nil)
        refine e9.cons Z Z ?_ ?_
        refine b8.go Z Z (fun E => S.loadO ha66 Z Z Z Z Z (AOps.nil ⟨Z, Z⟩)) ?_
        refine b8.skip Z (b8.nil)
        refine e9.cons Z Z ?_ ?_
        refine b8.go Z Z (fun E => AOps.max2 Z Z Z (AOps.nil ⟨Z, Z⟩)) ?_
        refine b8.skip Z (b8.nil)
        refine e9.cons Z Z ?_ ?_
        refine b8.go Z Z (fun E => S.idxO ha69 Z Z Z Z Z (AOps.nil ⟨Z, Z⟩)) ?_
        refine b8.skip Z (b8.nil)
        refine e9.skip Z (e9.nil)
       dsimp only [j6]
       refine d7 (b5 (.f (.add Z Z Z (by omega) (.a Z Z (.nil ?_)))))
       obtain rfl := oi h
       refine b5 (Sub.env ⟨Z, Z, Z, (x9 (by first | rfl | simp only [List.length_set])), Z, Z, Z, Z, Z, Z, Z, Z, Z, Y⟩)
      ·intro e s hq
       obtain ⟨rfl, hs⟩ := hq
       refine ⟨_, hs, ?_⟩
       refine g8 (d7 (b5 ⟨_, h, ?_⟩))
       exact Sub.env ⟨Z, Z, Z, Z, Z, Z, Z, Z, Z, Y⟩
  ·intro e s hq
   rcases oo with c5 | x
   ·try dsimp only at h hq
    obtain ⟨rfl, hs⟩ := hq
    refine ⟨_, hs, ?_⟩
    refine g8 (d7 (b5 (.f (.add Z Z Z (by omega) (.a Z Z (.nil ?_))))))
    obtain rfl := oi h
    refine b5 ⟨_, Z, ?_⟩
    exact Sub.env ⟨Z, Z, Z, Z, Z, Z, Y⟩
   ·try dsimp only at h hq
    obtain ⟨rfl, hs⟩ := hq
    refine ⟨_, Sub.refl _ _, ?_⟩
    refine h9 (h9 (e8 ?_))
    obtain rfl := oi h
    refine e8 ⟨_, Z, Z, ?_⟩
    exact hs
 ·intro e s hq
  rcases oo with c3 | x
  ·try dsimp only at h hq
   obtain ⟨rfl, hs⟩ := hq
   refine ⟨_, hs, ?_⟩
   refine g8 (b5 (.d ?_))
   obtain ⟨a74, ha74, h⟩ := b6 h
   refine AWP.f (.a Z Z (.y Z Z (.cons (.c (.own Z Z)) (.cons (.c .imm) .nil)) Z (ae0 ha74) Z (.u Z Z (.e Z Z (.nil (b5 (.ret ?_)))))))
   obtain rfl := oi h
   exact Done.ret Z Z
  ·try dsimp only at h hq
   obtain ⟨rfl, hs⟩ := hq
   refine ⟨_, Sub.refl _ _, ?_⟩
   refine h9 (e8 ?_)
   obtain rfl := oi h
   exact hs
theorem cyclic_Check_ok {ov : b9} {policy : List d9} {r : Bool × l6} (h : I9 ov policy = some r) : f8 Tryz.prog 24 [.agg (tO ov), .c (row 2 g7 policy)] (.tup [.c (bool r.1), .agg [int r.2.code, int r.2.index]]) := by
 unfold f8
 refine FnOk.enter (rs := [.t 4, .cell 5 28 2]) Tryz.func24 Z Tryz.ntmps24 Tryz.results24 Z ⟨trivial, rv _ Z, Y⟩ (by kernel_rfl) Z ?_
 unfold I9 at h
 refine AWP.d (.f (W.box Z Z Z Z Z Z (.e Z Z (W.alloc Z Z Z Z (.nil (b5 (.d (.d ?_))))))))
 obtain ⟨a9, ha9, h⟩ := b6 h
 refine AWP.f (W.loadAgg Z Z Z Z Z Z Z (.a Z Z (.l Z Z Z Z (ai5 ha9) Z (W.alloc Z Z Z Z (W.storeAgg Z Z Z Z Z Z Z (.nil (b5 (.d (.f (W.loadAgg Z Z Z Z Z Z Z (W.build Z Z Z Z (.neqP Z Z Z Z Z Z Z (.nil (b5 (.s Z h (fun hc3 h => ?_) (fun hc3 h => ?_))))))))))))))))
 ·refine AWP.d (.drawEI [2] mixed Z Z Z ?_)
  refine g9.consN Z Z (fun E => W.loadAgg Z Z Z Z Z Z Z (.nil ⟨Z, Z⟩)) Z (.consN Z Z (fun E => AOps.e Z Z (.nil ⟨Z, Z⟩)) Z ?_)
  apply g9.consE (v := .undef); exact Z; exact Z; intro E
  refine W.storeAgg Z Z Z Z Z Z Z (.nil ⟨Z, Z⟩)
  exact Z
  exact Z
  refine g9.done Z ?_ ?_
  ·refine e9.cons Z Z ?_ ?_
   refine b8.go Z Z (fun E => W.loadAgg Z Z Z Z Z Z Z (AOps.nil ⟨Z, Z⟩)) ?_
   refine b8.skip Z (b8.nil)
   refine e9.cons Z Z ?_ ?_
   refine b8.go Z Z (fun E => AOps.e Z Z (AOps.nil ⟨Z, Z⟩)) ?_
   refine b8.skip Z (b8.nil)
   refine e9.skip Z (e9.nil)
  dsimp only [j6]
  refine b5 (.ret (e8 ?_))
  obtain rfl := oi h
  exact Done.ret Z Z
 ·refine AWP.skip (b5 (.d ?_))
  obtain ⟨a16, ha16, h⟩ := b6 h
  refine AWP.f (W.loadAgg Z Z Z Z Z Z Z (.a Z Z (.l Z Z Z Z (cyclic_Holds_ok ha16) Z (W.build Z Z Z Z (.e Z Z (W.storeAgg Z Z Z Z Z Z Z (.nil (b5 (.ret ?_)))))))))
  obtain rfl := oi h
  exact Done.ret Z Z
theorem O8 {r : Bool} (h : E3 = some r) : f8 Tryz.prog 22 [] (.c (bool r)) := by
 unfold f8
 refine FnOk.enter (rs := [.t 0]) Tryz.func22 Z Tryz.ntmps22 Tryz.results22 Z ⟨trivial, Y⟩ (by kernel_rfl) Z ?_
 unfold E3 at h
 refine AWP.d (.f (.e Z Z (.nil (b5 (.d ?_)))))
 obtain ⟨a7, ha7, a8, ha8, h⟩ := b2 h
 refine AWP.f (.l Z Z Z Z (an2 ha7) Z (.l Z Z Z Z (af8 ha8) Z (.a Z Z (.w Z Z Z (.w Z Z Z (.w Z Z Z (W.alloc Z Z Z Z (.e Z Z (.e Z Z (W.storeAgg Z Z Z Z Z Z Z (.nil (b5 (.d ?_)))))))))))))
 obtain ⟨a13, ha13, a15, ha15, h⟩ := b2 h
 refine AWP.f (.l Z Z Z Z (an2 ha13) Z (.a Z Z (.l Z Z Z Z (cyclic_Check_ok ha15) Z (.a Z Z (.w Z Z Z (.w Z Z Z (W.alloc Z Z Z Z (.e Z Z (W.storeAgg Z Z Z Z Z Z Z (.nil (b5 ?_)))))))))))
 obtain ⟨t1, hx2, h⟩ := b6 h
 refine AWP.seqJ (⟨[(0, .c (bool t1))], []⟩) ?_ ?_
 ·rcases bft (decide (a8.2.2.code = 0)) with hb3 | hb3
  ·replace hx2 := C2 hb3 hx2
   rcases bft (decide (a15.2.code = 0)) with hb4 | hb4
   ·replace hx2 := C2 hb4 hx2
    rcases bft (a8.2.1) with hb5 | hb5
    ·replace hx2 := w9 hb5 hx2
     rcases bft (a15.1) with hb6 | hb6
     ·replace hx2 := w9 hb6 hx2
      obtain ⟨a36, ha36, hx2⟩ := b6 hx2
      refine AWP.f (W.fieldAddr Z Z Z Z (.m Z Z Z Z Z Z (.v Z Z Z (.a Z Z (.g Z Z Z hb3 (W.fieldAddr Z Z Z Z (.g Z Z Z hb3 (.m Z Z Z Z Z Z (.g Z Z Z hb3 (.v Z Z Z (.p Z hb3 Z Z (.a Z Z (.g Z Z Z hb4 (.a Z Z (.p Z hb4 Z Z (.a Z Z (.g Z Z Z hb5 (.a Z Z (.p Z hb5 Z Z (.a Z Z (.g Z Z Z hb6 (.a Z Z (.g Z Z Z hb6 (W.build Z Z Z Z (.g Z Z Z hb6 (S.lit (f := g7) (l := [(⟨[], 0⟩ : d9)]) (ess := [[.imm (.val (.slice none 0 0)), int 0]]) Z Z Z Z Z Z Z ⟨⟨.inr ⟨Z, _, Z⟩, .inl Z, Y⟩, Y⟩ Z Z Z (.g Z Z Z hb6 (.y Z Z (.cons (.c .imm) (.cons (.c (.own Z Z)) .nil)) Z (aa9 ha36) Z (.p Z hb6 Z Z (.e Z Z (.nil ?_)))))))))))))))))))))))))))))))
      obtain rfl := oi hx2
      refine b5 (Sub.cut ⟨Z, Y⟩ Z trivial Z)
     ·replace hx2 := w6 hb6 hx2
      refine AWP.f (W.fieldAddr Z Z Z Z (.m Z Z Z Z Z Z (.v Z Z Z (.a Z Z (.g Z Z Z hb3 (W.fieldAddr Z Z Z Z (.g Z Z Z hb3 (.m Z Z Z Z Z Z (.g Z Z Z hb3 (.v Z Z Z (.p Z hb3 Z Z (.a Z Z (.g Z Z Z hb4 (.a Z Z (.p Z hb4 Z Z (.a Z Z (.g Z Z Z hb5 (.a Z Z (.p Z hb5 Z Z (.a Z Z (.i Z Z Z hb6 (.i Z Z Z hb6 (.i Z Z Z hb6 (.i Z Z Z hb6 (.n Z hb6 Z Z (.e Z Z (.nil ?_)))))))))))))))))))))))))))
      obtain rfl := oi hx2
      refine b5 (Sub.cut ⟨Z, Y⟩ Z trivial Z)
    ·replace hx2 := w6 hb5 hx2
     refine AWP.f (W.fieldAddr Z Z Z Z (.m Z Z Z Z Z Z (.v Z Z Z (.a Z Z (.g Z Z Z hb3 (W.fieldAddr Z Z Z Z (.g Z Z Z hb3 (.m Z Z Z Z Z Z (.g Z Z Z hb3 (.v Z Z Z (.p Z hb3 Z Z (.a Z Z (.g Z Z Z hb4 (.a Z Z (.p Z hb4 Z Z (.a Z Z (.i Z Z Z hb5 (.n Z hb5 Z Z (.a Z Z (.i Z Z Z Z (.i Z Z Z Z (.i Z Z Z Z (.i Z Z Z Z (.n Z Z Z Z (.e Z Z (.nil ?_))))))))))))))))))))))))))
     obtain rfl := oi hx2
     refine b5 (Sub.cut ⟨Z, Y⟩ Z trivial Z)
   ·replace hx2 := B9 hb4 hx2
    refine AWP.f (W.fieldAddr Z Z Z Z (.m Z Z Z Z Z Z (.v Z Z Z (.a Z Z (.g Z Z Z hb3 (W.fieldAddr Z Z Z Z (.g Z Z Z hb3 (.m Z Z Z Z Z Z (.g Z Z Z hb3 (.v Z Z Z (.p Z hb3 Z Z (.a Z Z (.i Z Z Z hb4 (.n Z hb4 Z Z (.a Z Z (.i Z Z Z Z (.n Z Z Z Z (.a Z Z (.i Z Z Z Z (.i Z Z Z Z (.i Z Z Z Z (.i Z Z Z Z (.n Z Z Z Z (.e Z Z (.nil ?_)))))))))))))))))))))))))
    obtain rfl := oi hx2
    refine b5 (Sub.cut ⟨Z, Y⟩ Z trivial Z)
  ·replace hx2 := B9 hb3 hx2
   refine AWP.f (W.fieldAddr Z Z Z Z (.m Z Z Z Z Z Z (.v Z Z Z (.a Z Z (.i Z Z Z hb3 (.i Z Z Z hb3 (.i Z Z Z hb3 (.n Z hb3 Z Z (.a Z Z (.i Z Z Z Z (.n Z Z Z Z (.a Z Z (.i Z Z Z Z (.n Z Z Z Z (.a Z Z (.i Z Z Z Z (.i Z Z Z Z (.i Z Z Z Z (.i Z Z Z Z (.n Z Z Z Z (.e Z Z (.nil ?_))))))))))))))))))))))
   obtain rfl := oi hx2
   refine b5 (Sub.cut ⟨Z, Y⟩ Z trivial Z)
 ·refine AWP.ret ?_
  obtain rfl := oi h
  exact Done.ret Z Z
theorem ref8_Certain_ok {ov : b9} {all : LL} {r : (List Int)} (h : S6 ov all = some r) : m5 Tryz.prog 23 [.agg (tO ov), .c (row 1 d6 all)] 1 (List.map intI r) := by
 unfold m5
 refine FnOk.enter (rs := [.t 4]) Tryz.func23 Z Tryz.ntmps23 Tryz.results23 Z ⟨trivial, Y⟩ (by kernel_rfl) Z ?_
 unfold S6 at h
 refine AWP.d (.f (W.box Z Z Z Z Z Z (.e Z Z (.nil (b5 (.d ?_))))))
 obtain ⟨a18, ha18, h⟩ := b6 h
 refine AWP.f (.a Z Z (S.len Z Z (fun hl17 => S.make (f := s7) ha18 (.val .nil) Z Z Z Z Z Z (.e Z Z (.nil (b5 (.d (.d (.f (.e Z Z (.nil (b5 (.k ?_)))))))))))))
 obtain ⟨c3, ho1, h⟩ := b6 h
 refine AWP.forS ho1 (fun iv4 c3 => ⟨[(1, .c (row 1 d6 all)), (2, .c (.ptr 0 0 0)), (5, .c (.own 1 0 c3.length)), (6, .c (int iv4))], [.one (.cells 4 [(tO ov)]), .one (vec 1 s7 c3)]⟩) (fun c3 e st => e = .exit 0 ∧ Sub [] st ⟨[(1, .c (row 1 d6 all)), (2, .c (.ptr 0 0 0)), (5, .c (.own 1 0 c3.length))], [.one (.cells 4 [(tO ov)]), .one (vec 1 s7 c3)]⟩) ?_ ?_ ?_ ?_
 ·try dsimp only
  exact Sub.env ⟨Z, Z, Z, Z, Y⟩
 ·intro iv4 c3 hloiv4 hltiv4 _
  try dsimp only
  refine AWP.d (.d (.f (.a Z Z (.a Z Z (S.len Z Z (fun hl21 => .j Z Z Z (.nil (b5 (.q Z hltiv4 (.exit (d8 (d8 ⟨Z, ?_⟩))))))))))))
  exact Sub.env ⟨Z, Z, Z, Y⟩
 ·intro iv4 c3 o hloiv4 hltiv4 h
  unfold R6 at h
  try dsimp only at h ⊢
  refine AWP.d (.d (.f (.a Z Z (.a Z Z (S.len Z Z (fun hl21 => .j Z Z Z (.nil (b5 (.r Z hltiv4 (.skip (b5 (.d (.k ?_)))))))))))))
  obtain ⟨a27, ha27, h⟩ := b6 h
  refine AWP.f (.a Z Z (.a Z Z (S.idxO ha27 Z Z Z Z Z (S.storeO1 (f := s7) (a' := true) (x5 ha27) (fun _ => ⟨_, Z⟩) Z Z Z Z Z ?_))))
  refine AOps.nil (d7 (b5 (.f (.a Z Z (.add Z Z Z (by omega) (.e Z Z (.nil ?_)))))))
  obtain rfl := oi h
  refine b5 (Sub.env ⟨Z, Z, (x9 (by first | rfl | simp only [List.length_set])), Z, Y⟩)
 ·intro e s hq
  obtain ⟨rfl, hs⟩ := hq
  refine ⟨_, hs, ?_⟩
  refine g8 (b5 (.k ?_))
  obtain ⟨x, ho2, h⟩ := b6 h
  refine AWP.loopS ho2 (fun c5 => ⟨[(1, .c (row 1 d6 all)), (2, .c (.ptr 0 0 0)), (5, .c (.own 1 0 c5.length))], [.one (.cells 4 [(tO ov)]), .one (vec 1 s7 c5)]⟩) (fun x e st => e = .ret ∧ Done [.t 4] (fun t s => ∃ id, t = .c (.own id 0 (List.map intI x).length) ∧ s[id]? = some (some (Blk.im 1 (List.map intI x)))) .ret st) ?_ ?_ ?_
  ·try dsimp only
   exact Sub.env ⟨Z, Z, Z, Y⟩
  ·intro c5 o h
   unfold S4 at h
   try dsimp only at h ⊢
   refine AWP.k (.d ?_)
   obtain ⟨a30, ha30, h⟩ := b6 h
   refine AWP.f (.a Z Z (S.len Z Z (fun hl29 => S.make (f := intI) ha30 (.val .nil) Z Z Z Z Z Z (.e Z Z (.nil (b5 (.d (.d (.f (.e Z Z (.nil (b5 (.k ?_)))))))))))))
   obtain ⟨c6, ho3, h⟩ := b6 h
   refine AWP.forS ho3 (fun iv7 c6 => ⟨[(1, .c (row 1 d6 all)), (2, .c (.ptr 0 0 0)), (5, .c (.own 1 0 c5.length)), (7, .c (.own 2 0 c6.length)), (8, .c (int iv7))], [.one (.cells 4 [(tO ov)]), .one (vec 1 s7 c5), .one (vec 1 intI c6)]⟩) (fun c6 e st => e = .exit 4 ∧ Sub [] st ⟨[(1, .c (row 1 d6 all)), (2, .c (.ptr 0 0 0)), (5, .c (.own 1 0 c5.length)), (7, .c (.own 2 0 c6.length))], [.one (.cells 4 [(tO ov)]), .one (vec 1 s7 c5), .one (vec 1 intI c6)]⟩) ?_ ?_ ?_ ?_
   ·try dsimp only
    exact Sub.env ⟨Z, Z, Z, Z, Z, Y⟩
   ·intro iv7 c6 hloiv7 hltiv7 _
    try dsimp only
    refine AWP.d (.d (.f (.a Z Z (.a Z Z (S.len Z Z (fun hl33 => .j Z Z Z (.nil (b5 (.q Z hltiv7 (.exit (d8 (d8 ⟨Z, ?_⟩))))))))))))
    exact Sub.env ⟨Z, Z, Z, Z, Y⟩
   ·intro iv7 c6 o hloiv7 hltiv7 h
    unfold R9 at h
    try dsimp only at h ⊢
    refine AWP.d (.d (.f (.a Z Z (.a Z Z (S.len Z Z (fun hl33 => .j Z Z Z (.nil (b5 (.r Z hltiv7 (.skip (b5 ?_)))))))))))
    obtain ⟨c8, hx9, h⟩ := b6 h
    refine AWP.seqJ (⟨[(1, .c (row 1 d6 all)), (2, .c (.ptr 0 0 0)), (5, .c (.own 1 0 c5.length)), (7, .c (.own 2 0 c8.length)), (8, .c (int iv7))], [.one (.cells 4 [(tO ov)]), .one (vec 1 s7 c5), .one (vec 1 intI c8)]⟩) ?_ ?_
    ·refine AWP.k (.d ?_)
     obtain ⟨a39, ha39, hx9⟩ := b6 hx9
     refine AWP.f (.a Z Z (.a Z Z (S.idxO ha39 Z Z Z Z Z (S.storeO1 (f := intI) (a' := 1000000000) (x5 ha39) (fun _ => ⟨_, Z⟩) Z Z Z Z Z ?_))))
     refine AOps.nil (b5 (.d ?_))
     obtain ⟨a43, ha43, a45, ha45, hx9⟩ := b2 hx9
     refine AWP.drawI mixed Z ?_
     refine i5.consF Z (fun E => W.loadAgg Z Z Z Z Z Z Z (.nil ⟨Z, Z⟩)) Z (.consF Z (fun E => AOps.a Z Z (.nil ⟨Z, Z⟩)) Z (.consF Z (fun E => AOps.a Z Z (.nil ⟨Z, Z⟩)) Z (.consF Z (fun E => S.idx ha43 Z Z Z Z (.nil ⟨Z, Z⟩)) Z (.consF Z (fun E => AOps.o Z Z Z Z (.nil ⟨Z, Z⟩)) Z (.consF Z (fun E => AOps.l Z Z Z Z (ab0 ha45) Z (.nil ⟨Z, Z⟩)) Z ?_)))))
     refine i5.done ?_
     dsimp only [j6]
     refine b5 (.s Z hx9 (fun hc10 hx9 => ?_) (fun hc10 hx9 => ?_))
     ·obtain ⟨a48, ha48, hx9⟩ := b6 hx9
      refine AWP.f (.a Z Z (.a Z Z (S.idxO ha48 Z (by simp only [List.length_set]) Z Z Z (S.storeO1 (f := intI) (a' := 0) (x5 ha48) (fun _ => ⟨_, Z⟩) Z Z Z Z Z ?_))))
      refine AOps.nil (d7 ?_)
      obtain rfl := oi hx9
      refine b5 (Sub.env ⟨Z, Z, Z, (x9 (by first | rfl | simp only [List.length_set])), Z, Y⟩)
     ·refine AWP.skip (d7 ?_)
      obtain rfl := oi hx9
      refine b5 (Sub.env ⟨Z, Z, Z, (x9 (by first | rfl | simp only [List.length_set])), Z, Y⟩)
    ·refine AWP.f (.a Z Z (.add Z Z Z (by omega) (.e Z Z (.nil ?_))))
     obtain rfl := oi h
     refine b5 (Sub.env ⟨Z, Z, Z, Z, Z, Y⟩)
   ·intro e s hq
    obtain ⟨rfl, hs⟩ := hq
    refine ⟨_, hs, ?_⟩
    refine g8 (b5 (.d (.d (.f (.e Z Z (.nil (b5 (.k ?_))))))))
    obtain ⟨c13, ho4, h⟩ := b6 h
    refine AWP.loopS ho4 (fun (c11, again12) => ⟨[(1, .c (row 1 d6 all)), (2, .c (.ptr 0 0 0)), (5, .c (.own 1 0 c5.length)), (7, .c (.own 2 0 c11.length)), (9, .c (bool again12))], [.one (.cells 4 [(tO ov)]), .one (vec 1 s7 c5), .one (vec 1 intI c11)]⟩) (fun c13 e st => e = .exit 6 ∧ Sub [] st ⟨[(1, .c (row 1 d6 all)), (2, .c (.ptr 0 0 0)), (5, .c (.own 1 0 c5.length)), (7, .c (.own 2 0 c13.length))], [.one (.cells 4 [(tO ov)]), .one (vec 1 s7 c5), .one (vec 1 intI c13)]⟩) ?_ ?_ ?_
    ·try dsimp only
     exact Sub.env ⟨Z, Z, Z, Z, Z, Y⟩
    ·intro s o h
     obtain ⟨c11, again12⟩ := s
     unfold R1 at h
     try dsimp only at h ⊢
     refine AWP.d (.d (.f (.a Z Z (.nil (b5 (.s Z h (fun hc14 h => ?_) (fun hc14 h => ?_)))))))
     ·refine AWP.skip (b5 (.k (.d (.f (.e Z Z (.nil (b5 (.d (.f (.e Z Z (.nil (b5 (.k ?_)))))))))))))
      obtain ⟨⟨c15, again16⟩, ho5, h⟩ := b6 h
      try dsimp only at h
      refine AWP.forS ho5 (fun iv17 (c15, again16) => ⟨[(1, .c (row 1 d6 all)), (2, .c (.ptr 0 0 0)), (5, .c (.own 1 0 c5.length)), (7, .c (.own 2 0 c15.length)), (9, .c (bool again16)), (10, .c (int iv17))], [.one (.cells 4 [(tO ov)]), .one (vec 1 s7 c5), .one (vec 1 intI c15)]⟩) (fun (c15, again16) e st => e = .exit 8 ∧ Sub [] st ⟨[(1, .c (row 1 d6 all)), (2, .c (.ptr 0 0 0)), (5, .c (.own 1 0 c5.length)), (7, .c (.own 2 0 c15.length)), (9, .c (bool again16))], [.one (.cells 4 [(tO ov)]), .one (vec 1 s7 c5), .one (vec 1 intI c15)]⟩) ?_ ?_ ?_ ?_
      ·try dsimp only
       exact Sub.env ⟨Z, Z, Z, Z, Z, Z, Y⟩
      ·intro iv17 s hloiv17 hltiv17 _
       obtain ⟨c15, again16⟩ := s
       try dsimp only
       refine AWP.d (.d (.f (.a Z Z (.a Z Z (S.len Z Z (fun hl52 => .j Z Z Z (.nil (b5 (.q Z hltiv17 (.exit (d8 (d8 ⟨Z, ?_⟩))))))))))))
       exact Sub.env ⟨Z, Z, Z, Z, Z, Y⟩
      ·intro iv17 s o hloiv17 hltiv17 h
       obtain ⟨c15, again16⟩ := s
       unfold M0 at h
       try dsimp only at h ⊢
       refine AWP.d (.d (.f (.a Z Z (.a Z Z (S.len Z Z (fun hl52 => .j Z Z Z (.nil (b5 (.r Z hltiv17 (.skip (b5 (.d (.k (.d (.f (.e Z Z (.nil (b5 (.k ?_)))))))))))))))))))
       obtain ⟨⟨c21, again22⟩, ho6, h⟩ := b6 h
       try dsimp only at h
       refine AWP.loopS ho6 (fun (c18, again19, op20) => ⟨[(1, .c (row 1 d6 all)), (2, .c (.ptr 0 0 0)), (5, .c (.own 1 0 c5.length)), (7, .c (.own 2 0 c18.length)), (9, .c (bool again19)), (10, .c (int iv17)), (11, .c (int op20))], [.one (.cells 4 [(tO ov)]), .one (vec 1 s7 c5), .one (vec 1 intI c18)]⟩) (fun (c21, again22) e st => e = .exit 10 ∧ Sub [] st ⟨[(1, .c (row 1 d6 all)), (2, .c (.ptr 0 0 0)), (5, .c (.own 1 0 c5.length)), (7, .c (.own 2 0 c21.length)), (9, .c (bool again22)), (10, .c (int iv17))], [.one (.cells 4 [(tO ov)]), .one (vec 1 s7 c5), .one (vec 1 intI c21)]⟩) ?_ ?_ ?_
       ·try dsimp only
        exact Sub.env ⟨Z, Z, Z, Z, Z, Z, Z, Y⟩
       ·intro s o h
        obtain ⟨c18, again19, op20⟩ := s
        unfold R5 at h
        try dsimp only at h ⊢
        refine AWP.d ?_
        obtain ⟨t23, hx24, h⟩ := b6 h
        refine AWP.seqJ (⟨[(1, .c (row 1 d6 all)), (2, .c (.ptr 0 0 0)), (5, .c (.own 1 0 c5.length)), (7, .c (.own 2 0 c18.length)), (9, .c (bool again19)), (10, .c (int iv17)), (11, .c (int op20)), (66, .c (bool t23))], [.one (.cells 4 [(tO ov)]), .one (vec 1 s7 c5), .one (vec 1 intI c18)]⟩) ?_ ?_
        ·rcases bft (decide (op20 < (ov.operators.length : Int))) with hb25 | hb25
         ·replace hx24 := C2 hb25 hx24
          obtain ⟨a64, ha64, hx24⟩ := b6 hx24
          refine AWP.f (.a Z Z (W.fieldAddr Z Z Z Z (.m Z Z Z Z Z Z (S.len Z Z (fun hl59 => .j Z Z Z (.a Z Z (.g Z Z Z hb25 (.a Z Z (.g Z Z Z hb25 (.a Z Z (.g Z Z Z hb25 (S.idxO ha64 Z Z Z Z Z (.g Z Z Z hb25 (S.loadO ha64 Z Z Z Z Z (.p Z hb25 Z Z (.nil ?_))))))))))))))))
          obtain rfl := oi hx24
          refine b5 (Sub.env ⟨Z, Z, Z, Z, Z, Z, Z, Z, Y⟩)
         ·replace hx24 := B9 hb25 hx24
          refine AWP.f (.a Z Z (W.fieldAddr Z Z Z Z (.m Z Z Z Z Z Z (S.len Z Z (fun hl59 => .j Z Z Z (.a Z Z (.i Z Z Z hb25 (.i Z Z Z hb25 (.i Z Z Z hb25 (.i Z Z Z hb25 (.n Z hb25 Z Z (.nil ?_))))))))))))
          obtain rfl := oi hx24
          refine b5 (Sub.env ⟨Z, Z, Z, Z, Z, Z, Z, Z, Y⟩)
        ·refine AWP.s Z h (fun hc26 h => ?_) (fun hc26 h => ?_)
         ·refine AWP.skip (b5 ?_)
          obtain ⟨⟨c27, again28⟩, hx29, h⟩ := b6 h
          refine AWP.seqJ (⟨[(1, .c (row 1 d6 all)), (2, .c (.ptr 0 0 0)), (5, .c (.own 1 0 c5.length)), (7, .c (.own 2 0 c27.length)), (9, .c (bool again28)), (10, .c (int iv17)), (11, .c (int op20))], [.one (.cells 4 [(tO ov)]), .one (vec 1 s7 c5), .one (vec 1 intI c27)]⟩) ?_ ?_
          ·refine AWP.k (.d ?_)
           obtain ⟨t30, hx31, hx29⟩ := b6 hx29
           refine AWP.seqJ (⟨[(1, .c (row 1 d6 all)), (2, .c (.ptr 0 0 0)), (5, .c (.own 1 0 c5.length)), (7, .c (.own 2 0 c18.length)), (9, .c (bool again19)), (10, .c (int iv17)), (11, .c (int op20)), (88, .c (bool t30))], [.one (.cells 4 [(tO ov)]), .one (vec 1 s7 c5), .one (vec 1 intI c18)]⟩) ?_ ?_
           ·obtain ⟨a72, ha72, a75, ha75, hx31⟩ := b2 hx31
            rcases bft (!a75) with hb32 | hb32
            ·replace hx31 := w9 hb32 hx31
             refine AWP.drawI mixed Z ?_
             refine i5.consF Z (fun E => W.loadAgg Z Z Z Z Z Z Z (.nil ⟨Z, Z⟩)) Z (.consF Z (fun E => AOps.a Z Z (.nil ⟨Z, Z⟩)) Z (.consF Z (fun E => AOps.a Z Z (.nil ⟨Z, Z⟩)) Z (.consF Z (fun E => S.idx ha72 Z Z Z Z (.nil ⟨Z, Z⟩)) Z (.consF Z (fun E => AOps.o Z Z Z Z (.nil ⟨Z, Z⟩)) Z (.consF Z (fun E => AOps.a Z Z (.nil ⟨Z, Z⟩)) Z (.consF Z (fun E => AOps.l Z Z Z Z (s6 ha75) Z (.nil ⟨Z, Z⟩)) Z (.consF Z (fun E => AOps.u Z Z (.nil ⟨Z, Z⟩)) Z (.consF Z (fun E => AOps.a Z Z (.nil ⟨Z, Z⟩)) Z (.consF Z (fun E => AOps.i Z Z Z hb32 (.nil ⟨Z, Z⟩)) Z (.consF Z (fun E => AOps.i Z Z Z hb32 (.nil ⟨Z, Z⟩)) Z (.consF Z (fun E => AOps.i Z Z Z hb32 (.nil ⟨Z, Z⟩)) Z (.consF Z (fun E => AOps.i Z Z Z hb32 (.nil ⟨Z, Z⟩)) Z (.consF Z (fun E => AOps.i Z Z Z hb32 (.nil ⟨Z, Z⟩)) Z (.consF Z (fun E => AOps.i Z Z Z hb32 (.nil ⟨Z, Z⟩)) Z (.consF Z (fun E => AOps.i Z Z Z hb32 (.nil ⟨Z, Z⟩)) Z (.consF Z (fun E => AOps.i Z Z Z hb32 (.nil ⟨Z, Z⟩)) Z (.consF Z (fun E => AOps.i Z Z Z hb32 (.nil ⟨Z, Z⟩)) Z (.consF Z (fun E => AOps.i Z Z Z hb32 (.nil ⟨Z, Z⟩)) Z (.consF Z (fun E => AOps.p Z hb32 Z Z (.nil ⟨Z, Z⟩)) Z ?_)))))))))))))))))))
             refine i5.done ?_
             dsimp only [j6]
             obtain rfl := oi hx31
             refine b5 (Sub.env ⟨Z, Z, Z, Z, Z, Z, Z, Z, Y⟩)
            ·replace hx31 := w6 hb32 hx31
             obtain ⟨a83, ha83, a86, ha86, hx31⟩ := b2 hx31
             refine AWP.drawI mixed Z ?_
             refine i5.consF Z (fun E => W.loadAgg Z Z Z Z Z Z Z (.nil ⟨Z, Z⟩)) Z (.consF Z (fun E => AOps.a Z Z (.nil ⟨Z, Z⟩)) Z (.consF Z (fun E => AOps.a Z Z (.nil ⟨Z, Z⟩)) Z (.consF Z (fun E => S.idx ha72 Z Z Z Z (.nil ⟨Z, Z⟩)) Z (.consF Z (fun E => AOps.o Z Z Z Z (.nil ⟨Z, Z⟩)) Z (.consF Z (fun E => AOps.a Z Z (.nil ⟨Z, Z⟩)) Z (.consF Z (fun E => AOps.l Z Z Z Z (s6 ha75) Z (.nil ⟨Z, Z⟩)) Z (.consF Z (fun E => AOps.u Z Z (.nil ⟨Z, Z⟩)) Z (.consF Z (fun E => AOps.a Z Z (.nil ⟨Z, Z⟩)) Z (.consF Z (fun E => AOps.g Z Z Z hb32 (W.loadAgg Z Z Z Z Z Z Z (.nil ⟨Z, Z⟩))) Z (.consF Z (fun E => AOps.g Z Z Z hb32 (.a Z Z (.nil ⟨Z, Z⟩))) Z (.consF Z (fun E => AOps.g Z Z Z hb32 (.a Z Z (.nil ⟨Z, Z⟩))) Z (.consF Z (fun E => AOps.g Z Z Z hb32 (.a Z Z (.nil ⟨Z, Z⟩))) Z (.consF Z (fun E => AOps.g Z Z Z hb32 (.a Z Z (.nil ⟨Z, Z⟩))) Z (.consF Z (fun E => AOps.g Z Z Z hb32 (S.idx ha83 Z Z Z Z (.nil ⟨Z, Z⟩))) Z (.consF Z (fun E => AOps.g Z Z Z hb32 (.o Z Z Z Z (.nil ⟨Z, Z⟩))) Z (.consF Z (fun E => AOps.g Z Z Z hb32 (.a Z Z (.nil ⟨Z, Z⟩))) Z (.consF Z (fun E => AOps.g Z Z Z hb32 (.y Z Z (.cons (.agg (.cons .imm (.cons .imm (.cons .imm (.cons .imm .nil))))) (.cons (.c .imm) (.cons (.c (.own Z Z)) (.cons (.c .imm) (.cons (.c .imm) .nil))))) Z (N6 ha86) Z (.nil ⟨Z, Z⟩))) Z (.consF Z (fun E => AOps.g Z Z Z hb32 (.u Z Z (.nil ⟨Z, Z⟩))) Z (.consF Z (fun E => AOps.n Z hb32 Z Z (.nil ⟨Z, Z⟩)) Z ?_)))))))))))))))))))
             refine i5.done ?_
             dsimp only [j6]
             obtain rfl := oi hx31
             refine b5 (Sub.env ⟨Z, Z, Z, Z, Z, Z, Z, Z, Y⟩)
           ·refine AWP.s Z hx29 (fun hc33 hx29 => ?_) (fun hc33 hx29 => ?_)
            ·refine AWP.exit (d8 (g8 ?_))
             obtain ⟨ej0, ej1⟩ := o2 hx29
             subst ej0 ej1
             refine b5 (Sub.env ⟨Z, Z, Z, Z, Z, Z, Z, Y⟩)
            ·refine AWP.skip (b5 (.d ?_))
             obtain ⟨a94, ha94, a97, ha97, hx29⟩ := b2 hx29
             refine AWP.drawI mixed Z ?_
             refine i5.consF Z (fun E => W.loadAgg Z Z Z Z Z Z Z (.nil ⟨Z, Z⟩)) Z (.consF Z (fun E => AOps.a Z Z (.nil ⟨Z, Z⟩)) Z (.consF Z (fun E => AOps.a Z Z (.nil ⟨Z, Z⟩)) Z (.consF Z (fun E => AOps.a Z Z (.nil ⟨Z, Z⟩)) Z (.consF Z (fun E => AOps.a Z Z (.nil ⟨Z, Z⟩)) Z (.consF Z (fun E => S.idx ha94 Z Z Z Z (.nil ⟨Z, Z⟩)) Z (.consF Z (fun E => AOps.o Z Z Z Z (.nil ⟨Z, Z⟩)) Z (.consF Z (fun E => AOps.a Z Z (.nil ⟨Z, Z⟩)) Z (.consF Z (fun E => AOps.y Z Z (.cons (.agg (.cons .imm (.cons .imm (.cons .imm (.cons .imm .nil))))) (.cons (.c .imm) (.cons (.c (.own Z Z)) (.cons (.c .imm) (.cons (.c .imm) .nil))))) Z (ae1 ha97) Z (.nil ⟨Z, Z⟩)) Z (.consF Z (fun E => AOps.e Z Z (.nil ⟨Z, Z⟩)) Z ?_)))))))))
             refine i5.done ?_
             dsimp only [j6]
             refine b5 (.d ?_)
             obtain ⟨a102, ha102, hx29⟩ := b6 hx29
             refine AWP.f (.a Z Z (S.add Z Z Z (.a Z Z (.a Z Z (S.idxO ha102 Z Z Z Z Z (S.loadO ha102 Z Z Z Z Z (.j Z Z Z (.nil (b5 (.ite Z hx29 (fun hc34 hx29 => ?_) (fun hc34 hx29 => ?_)))))))))))
             ·refine AWP.d ?_
              obtain ⟨a109, ha109, hx29⟩ := b6 hx29
              refine AWP.f (.a Z Z (.a Z Z (.a Z Z (S.add Z Z Z (S.idxO ha109 Z Z Z Z Z (S.storeO1 (f := intI) (a' := w64 (a97 + 1)) (x5 ha109) (fun _ => ⟨_, Z⟩) Z Z Z Z Z ?_))))))
              refine AOps.nil (b5 (.f (.e Z Z (.nil (d7 ?_)))))
              obtain ⟨ej0, ej1⟩ := o2 hx29
              subst ej0 ej1
              refine b5 (Sub.env ⟨Z, Z, Z, (x9 (by first | rfl | simp only [List.length_set])), Z, Z, Z, Y⟩)
             ·refine AWP.skip (d7 ?_)
              obtain ⟨ej0, ej1⟩ := o2 hx29
              subst ej0 ej1
              refine b5 (Sub.env ⟨Z, Z, Z, Z, Z, Z, Z, Y⟩)
          ·try dsimp only at h
           refine AWP.f (.a Z Z (S.add Z Z Z (.e Z Z (.nil ?_))))
           obtain rfl := oi h
           refine b5 ⟨_, Z, ?_⟩
           exact Sub.env ⟨Z, Z, Z, Z, Z, Z, Z, Y⟩
         ·refine AWP.exit (d8 ?_)
          obtain rfl := oi h
          refine d8 ⟨_, Z, Z, ?_⟩
          exact Sub.env ⟨Z, Z, Z, Z, Z, Z, Y⟩
       ·intro e s hq
        obtain ⟨rfl, hs⟩ := hq
        refine ⟨_, hs, ?_⟩
        refine g8 (d7 (b5 (.f (.a Z Z (.add Z Z Z (by omega) (.e Z Z (.nil ?_)))))))
        obtain rfl := oi h
        refine b5 (Sub.env ⟨Z, Z, Z, Z, Z, Z, Y⟩)
      ·intro e s hq
       obtain ⟨rfl, hs⟩ := hq
       refine ⟨_, hs, ?_⟩
       refine g8 (d7 ?_)
       obtain rfl := oi h
       refine b5 ⟨_, Z, ?_⟩
       exact Sub.env ⟨Z, Z, Z, Z, Z, Y⟩
     ·refine AWP.exit (d8 ?_)
      obtain rfl := oi h
      refine d8 ⟨_, Z, Z, ?_⟩
      exact Sub.env ⟨Z, Z, Z, Z, Y⟩
    ·intro e s hq
     obtain ⟨rfl, hs⟩ := hq
     refine ⟨_, hs, ?_⟩
     refine g8 (b5 (.d (.f (.e Z Z (.nil (b5 (.d (.d (.f (.e Z Z (.nil (b5 (.k ?_)))))))))))))
     obtain ⟨gone35, ho7, h⟩ := b6 h
     refine AWP.forS ho7 (fun iv36 gone35 => ⟨[(1, .c (row 1 d6 all)), (2, .c (.ptr 0 0 0)), (5, .c (.own 1 0 c5.length)), (7, .c (.own 2 0 c13.length)), (13, .c (int gone35)), (14, .c (int iv36))], [.one (.cells 4 [(tO ov)]), .one (vec 1 s7 c5), .one (vec 1 intI c13)]⟩) (fun gone35 e st => e = .exit 12 ∧ Sub [] st ⟨[(1, .c (row 1 d6 all)), (2, .c (.ptr 0 0 0)), (5, .c (.own 1 0 c5.length)), (7, .c (.own 2 0 c13.length)), (13, .c (int gone35))], [.one (.cells 4 [(tO ov)]), .one (vec 1 s7 c5), .one (vec 1 intI c13)]⟩) ?_ ?_ ?_ ?_
     ·try dsimp only
      exact Sub.env ⟨Z, Z, Z, Z, Z, Z, Y⟩
     ·intro iv36 gone35 hloiv36 hltiv36 _
      try dsimp only
      refine AWP.d (.d (.f (.a Z Z (.a Z Z (S.len Z Z (fun hl112 => .j Z Z Z (.nil (b5 (.q Z hltiv36 (.exit (d8 (d8 ⟨Z, ?_⟩))))))))))))
      exact Sub.env ⟨Z, Z, Z, Z, Z, Y⟩
     ·intro iv36 gone35 o hloiv36 hltiv36 h
      unfold R0 at h
      try dsimp only at h ⊢
      refine AWP.d (.d (.f (.a Z Z (.a Z Z (S.len Z Z (fun hl112 => .j Z Z Z (.nil (b5 (.r Z hltiv36 (.skip (b5 ?_)))))))))))
      obtain ⟨gone37, hx38, h⟩ := b6 h
      refine AWP.seqJ (⟨[(1, .c (row 1 d6 all)), (2, .c (.ptr 0 0 0)), (5, .c (.own 1 0 c5.length)), (7, .c (.own 2 0 c13.length)), (13, .c (int gone37)), (14, .c (int iv36))], [.one (.cells 4 [(tO ov)]), .one (vec 1 s7 c5), .one (vec 1 intI c13)]⟩) ?_ ?_
      ·refine AWP.k ?_
       obtain ⟨t39, hx40, hx38⟩ := b6 hx38
       refine AWP.seqJ (⟨[(1, .c (row 1 d6 all)), (2, .c (.ptr 0 0 0)), (5, .c (.own 1 0 c5.length)), (7, .c (.own 2 0 c13.length)), (13, .c (int gone35)), (14, .c (int iv36)), (126, .c (bool t39))], [.one (.cells 4 [(tO ov)]), .one (vec 1 s7 c5), .one (vec 1 intI c13)]⟩) ?_ ?_
       ·obtain ⟨a118, ha118, hx40⟩ := b6 hx40
        rcases bft (a118) with hb41 | hb41
        ·replace hx40 := w9 hb41 hx40
         obtain ⟨a123, ha123, hx40⟩ := b6 hx40
         refine AWP.f (.a Z Z (.a Z Z (S.idxO ha118 Z Z Z Z Z (S.loadO ha118 Z Z Z Z Z (.a Z Z (.g Z Z Z hb41 (.a Z Z (.g Z Z Z hb41 (.a Z Z (.g Z Z Z hb41 (S.idxO ha123 Z Z Z Z Z (.g Z Z Z hb41 (S.loadO ha123 Z Z Z Z Z (.g Z Z Z hb41 (.geq Z Z Z (.p Z hb41 Z Z (.nil ?_)))))))))))))))))
         obtain rfl := oi hx40
         refine b5 (Sub.env ⟨Z, Z, Z, Z, Z, Z, Z, Y⟩)
        ·replace hx40 := w6 hb41 hx40
         refine AWP.f (.a Z Z (.a Z Z (S.idxO ha118 Z Z Z Z Z (S.loadO ha118 Z Z Z Z Z (.a Z Z (.i Z Z Z hb41 (.i Z Z Z hb41 (.i Z Z Z hb41 (.i Z Z Z hb41 (.i Z Z Z hb41 (.n Z hb41 Z Z (.nil ?_))))))))))))
         obtain rfl := oi hx40
         refine b5 (Sub.env ⟨Z, Z, Z, Z, Z, Z, Z, Y⟩)
       ·refine AWP.s Z hx38 (fun hc42 hx38 => ?_) (fun hc42 hx38 => ?_)
        ·refine AWP.f (.a Z Z (.e Z Z (.nil (d7 ?_))))
         obtain rfl := oi hx38
         refine b5 (Sub.env ⟨Z, Z, Z, Z, Z, Z, Y⟩)
        ·refine AWP.skip (d7 ?_)
         obtain rfl := oi hx38
         refine b5 (Sub.env ⟨Z, Z, Z, Z, Z, Z, Y⟩)
      ·refine AWP.f (.a Z Z (.add Z Z Z (by omega) (.e Z Z (.nil ?_))))
       obtain rfl := oi h
       refine b5 (Sub.env ⟨Z, Z, Z, Z, Z, Z, Y⟩)
     ·intro e s hq
      obtain ⟨rfl, hs⟩ := hq
      refine ⟨_, hs, ?_⟩
      refine g8 (b5 (.d (.d (.f (.a Z Z (.j Z Z Z (.nil (b5 (.ite Z h (fun hc43 h => ?_) (fun hc43 h => ?_))))))))))
      ·refine AWP.d (.d (.f (.e Z Z (.nil (b5 (.k ?_))))))
       obtain ⟨c44, ho8, h⟩ := b6 h
       refine AWP.forS ho8 (fun iv45 c44 => ⟨[(1, .c (row 1 d6 all)), (5, .c (.own 1 0 c5.length)), (7, .c (.own 2 0 c44.length)), (15, .c (int iv45))], [.dead, .one (vec 1 s7 c5), .one (vec 1 intI c44)]⟩) (fun c44 e st => e = .exit 14 ∧ Sub [] st ⟨[(7, .c (.own 2 0 c44.length))], [.dead, .one (vec 1 s7 c5), .one (vec 1 intI c44)]⟩) ?_ ?_ ?_ ?_
       ·try dsimp only
        exact Sub.cut ⟨Z, Z, Z, Z, Y⟩ Z ⟨.dead, .vec, .vec, Y⟩ Z
       ·intro iv45 c44 hloiv45 hltiv45 _
        try dsimp only
        refine AWP.d (.d (.f (.a Z Z (.a Z Z (S.len Z Z (fun hl132 => .j Z Z Z (.nil (b5 (.q Z hltiv45 (.exit (d8 (d8 ⟨Z, ?_⟩))))))))))))
        exact Sub.env ⟨Z, Y⟩
       ·intro iv45 c44 o hloiv45 hltiv45 h
        unfold R2 at h
        try dsimp only at h ⊢
        refine AWP.d (.d (.f (.a Z Z (.a Z Z (S.len Z Z (fun hl132 => .j Z Z Z (.nil (b5 (.r Z hltiv45 (.skip (b5 ?_)))))))))))
        obtain ⟨c46, hx47, h⟩ := b6 h
        refine AWP.seqJ (⟨[(1, .c (row 1 d6 all)), (5, .c (.own 1 0 c5.length)), (7, .c (.own 2 0 c46.length)), (15, .c (int iv45))], [.dead, .one (vec 1 s7 c5), .one (vec 1 intI c46)]⟩) ?_ ?_
        ·refine AWP.k (.d ?_)
         obtain ⟨a138, ha138, hx47⟩ := b6 hx47
         refine AWP.f (.a Z Z (.a Z Z (S.idxO ha138 Z Z Z Z Z (S.loadO ha138 Z Z Z Z Z (.u Z Z (.nil (b5 (.s Z hx47 (fun hc48 hx47 => ?_) (fun hc48 hx47 => ?_)))))))))
         ·obtain ⟨a143, ha143, hx47⟩ := b6 hx47
          refine AWP.f (.a Z Z (.a Z Z (S.idxO ha143 Z Z Z Z Z (S.storeO1 (f := intI) (a' := 1000000000) (x5 ha143) (fun _ => ⟨_, Z⟩) Z Z Z Z Z ?_))))
          refine AOps.nil (d7 ?_)
          obtain rfl := oi hx47
          refine b5 (Sub.env ⟨Z, Z, (x9 (by first | rfl | simp only [List.length_set])), Z, Y⟩)
         ·refine AWP.skip (d7 ?_)
          obtain rfl := oi hx47
          refine b5 (Sub.env ⟨Z, Z, Z, Z, Y⟩)
        ·refine AWP.f (.a Z Z (.add Z Z Z (by omega) (.e Z Z (.nil ?_))))
         obtain rfl := oi h
         refine b5 (Sub.env ⟨Z, Z, Z, Z, Y⟩)
       ·intro e s hq
        obtain ⟨rfl, hs⟩ := hq
        refine ⟨_, hs, ?_⟩
        refine g8 (b5 (.d (.f (.a Z Z (.e Z Z (.nil (b5 (.ret (e8 (h9 ?_))))))))))
        obtain rfl := oi h
        refine e8 ⟨_, Z, Z, ?_⟩
        exact Done.ret Z (Fresh.mk Z Z)
      ·refine AWP.skip (b5 ?_)
       obtain ⟨a147, ha147, h⟩ := b6 h
       refine AWP.f (.a Z Z (.a Z Z (S.idxO ha147 Z Z Z Z Z (S.storeO1 (f := s7) (a' := false) (x5 ha147) (fun _ => ⟨_, Z⟩) Z Z Z Z Z ?_))))
       refine AOps.nil (d7 ?_)
       obtain rfl := oi h
       refine b5 ⟨_, Z, ?_⟩
       exact Sub.cut ⟨Z, Z, (x9 (by first | rfl | simp only [List.length_set])), Y⟩ Z ⟨.one Z, .vec, Y⟩ Z
  ·intro e s hq
   obtain ⟨rfl, hs⟩ := hq
   refine ⟨_, Sub.refl _ _, ?_⟩
   refine h9 ?_
   obtain rfl := oi h
   exact hs
theorem ae7 {ov : b9} {r : Bool} (h : F9 ov = some r) : f8 Tryz.prog 6 [.agg (tO ov)] (.c (bool r)) := by
 unfold f8
 refine FnOk.enter (rs := [.t 2]) Tryz.func6 Z Tryz.ntmps6 Tryz.results6 Z ⟨trivial, Y⟩ (by kernel_rfl) Z ?_
 unfold F9 at h
 refine AWP.d (.f (W.box Z Z Z Z Z Z (.e Z Z (.nil (b5 (.d ?_))))))
 obtain ⟨a12, ha12, h⟩ := b6 h
 refine AWP.f (W.loadAgg Z Z Z Z Z Z Z (.l Z Z Z Z (af8 ha12) Z (.a Z Z (.w Z Z Z (.w Z Z Z (.w Z Z Z (W.alloc Z Z Z Z (.e Z Z (.e Z Z (W.storeAgg Z Z Z Z Z Z Z (.nil (b5 (.d ?_)))))))))))))
 obtain ⟨a17, ha17, h⟩ := b6 h
 refine AWP.f (W.loadAgg Z Z Z Z Z Z Z (.l Z Z Z Z (ao0 ha17) Z (W.alloc Z Z Z Z (W.storeAgg Z Z Z Z Z Z Z (.nil (b5 (.d (.d (.f (W.fieldAddr Z Z Z Z (.m Z Z Z Z Z Z (.neq Z Z Z (.nil (b5 (.iteN Z h (fun hc2 h => ?_) (fun hc2 h => ?_))))))))))))))))
 ·obtain ⟨t3, hx4, h⟩ := b6 h
  refine AWP.seqJ (⟨[(2, .c (bool t3))], []⟩) ?_ ?_
  ·rcases bft ((decide (a12.2.2.code = a17.code)) && (decide (a12.2.2.index = a17.index))) with hb5 | hb5
   ·replace hx4 := w9 hb5 hx4
    rcases bft (!a12.2.1) with hb6 | hb6
    ·replace hx4 := w9 hb6 hx4
     rcases bft (decide ((a12.1.length : Int) = 0)) with hb7 | hb7
     ·replace hx4 := C2 hb7 hx4
      obtain ⟨a34, ha34, hx4⟩ := b6 hx4
      refine AWP.f (W.loadAgg Z Z Z Z Z Z Z (W.loadAgg Z Z Z Z Z Z Z (.eqlP Z Z Z Z Z Z Z (.a Z Z (.g Z Z Z hb5 (.a Z Z (.g Z Z Z hb5 (.u Z Z (.p Z hb5 Z Z (.a Z Z (.g Z Z Z hb6 (.a Z Z ?_))))))))))))
      refine AOps.g Z Z Z hb6 ?_; refine S.len Z Z (fun hl30 => ?_)
      refine AOps.g Z Z Z hb6 (.v Z Z Z (.p Z hb6 Z Z (.a Z Z (.g Z Z Z hb7 (.l Z Z Z Z (O8 ha34) Z (.p Z hb7 Z Z (.e Z Z (.nil ?_))))))))
      obtain rfl := oi hx4
      refine b5 (Sub.cut ⟨Z, Y⟩ Z trivial Z)
     ·replace hx4 := B9 hb7 hx4
      refine AWP.f (W.loadAgg Z Z Z Z Z Z Z (W.loadAgg Z Z Z Z Z Z Z (.eqlP Z Z Z Z Z Z Z (.a Z Z (.g Z Z Z hb5 (.a Z Z (.g Z Z Z hb5 (.u Z Z (.p Z hb5 Z Z (.a Z Z (.g Z Z Z hb6 (.a Z Z ?_))))))))))))
      refine AOps.g Z Z Z hb6 ?_; refine S.len Z Z (fun hl30 => ?_)
      refine AOps.g Z Z Z hb6 (.v Z Z Z (.p Z hb6 Z Z (.a Z Z (.i Z Z Z hb7 (.n Z hb7 Z Z (.e Z Z (.nil ?_)))))))
      obtain rfl := oi hx4
      refine b5 (Sub.cut ⟨Z, Y⟩ Z trivial Z)
    ·replace hx4 := w6 hb6 hx4
     refine AWP.f (W.loadAgg Z Z Z Z Z Z Z (W.loadAgg Z Z Z Z Z Z Z (.eqlP Z Z Z Z Z Z Z (.a Z Z (.g Z Z Z hb5 (.a Z Z (.g Z Z Z hb5 (.u Z Z (.p Z hb5 Z Z (.a Z Z (.i Z Z Z hb6 (.i Z Z Z hb6 (.i Z Z Z hb6 (.n Z hb6 Z Z (.a Z Z (.i Z Z Z Z (.n Z Z Z Z (.e Z Z (.nil ?_)))))))))))))))))))
     obtain rfl := oi hx4
     refine b5 (Sub.cut ⟨Z, Y⟩ Z trivial Z)
   ·replace hx4 := w6 hb5 hx4
    refine AWP.f (W.loadAgg Z Z Z Z Z Z Z (W.loadAgg Z Z Z Z Z Z Z (.eqlP Z Z Z Z Z Z Z (.a Z Z (.i Z Z Z hb5 (.i Z Z Z hb5 (.n Z hb5 Z Z (.a Z Z (.i Z Z Z Z (.i Z Z Z Z (.i Z Z Z Z (.n Z Z Z Z (.a Z Z (.i Z Z Z Z (.n Z Z Z Z (.e Z Z (.nil ?_)))))))))))))))))
    obtain rfl := oi hx4
    refine b5 (Sub.cut ⟨Z, Y⟩ Z trivial Z)
  ·refine AWP.ret (e8 ?_)
   obtain rfl := oi h
   exact Done.ret Z Z
 ·refine AWP.skip (b5 (.d ?_))
  obtain ⟨a38, ha38, h⟩ := b6 h
  refine AWP.f (W.loadAgg Z Z Z Z Z Z Z (.l Z Z Z Z (ref8_Reached_ok ha38) Z (.a Z Z (.w Z Z Z (.w Z Z Z (.e Z Z (.e Z Z (.nil (b5 (.d (.d (.f (.a Z Z (.u Z Z (.nil (b5 (.s Z h (fun hc8 h => ?_) (fun hc8 h => ?_))))))))))))))))))
  ·refine AWP.d ?_
   obtain ⟨a43, ha43, h⟩ := b6 h
   refine AWP.f (.l Z Z Z Z (O8 ha43) Z (.e Z Z (.nil (b5 (.ret (e8 ?_))))))
   obtain rfl := oi h
   exact Done.ret Z Z
  ·refine AWP.skip (b5 (.d ?_))
   obtain ⟨a46, ha46, h⟩ := b6 h
   refine AWP.f (W.loadAgg Z Z Z Z Z Z Z (.a Z Z (S.fresh Z Z Z Z (ref8_Certain_ok ha46) Z Z (.e Z Z (.nil (b5 (.d (.d ?_))))))))
   obtain ⟨a51, ha51, a52, ha52, h⟩ := b2 h
   refine AWP.f (.a Z Z (.a Z Z (W.fieldAddr Z Z Z Z (.m Z Z Z Z Z Z (.l Z Z Z Z (A7 ha51) Z (S.idxO ha52 Z Z Z Z Z (S.loadO ha52 Z Z Z Z Z (.geq Z Z Z (.nil (b5 (.ite Z h (fun hc9 h => ?_) (fun hc9 h => ?_))))))))))))
   ·obtain ⟨t10, hx11, h⟩ := b6 h
    refine AWP.seqJ (⟨[(2, .c (bool t10))], []⟩) ?_ ?_
    ·rcases bft (decide (a12.2.2.code = 0)) with hb12 | hb12
     ·replace hx11 := C2 hb12 hx11
      rcases bft (!a12.2.1) with hb13 | hb13
      ·replace hx11 := w9 hb13 hx11
       rcases bft (decide ((a12.1.length : Int) = 0)) with hb14 | hb14
       ·replace hx11 := C2 hb14 hx11
        obtain ⟨a68, ha68, hx11⟩ := b6 hx11
        refine AWP.f (W.fieldAddr Z Z Z Z (.m Z Z Z Z Z Z (.v Z Z Z (.a Z Z (.g Z Z Z hb12 (.a Z Z (.g Z Z Z hb12 (.u Z Z (.p Z hb12 Z Z (.a Z Z (.g Z Z Z hb13 (.a Z Z ?_))))))))))))
        refine AOps.g Z Z Z hb13 ?_; refine S.len Z Z (fun hl64 => ?_)
        refine AOps.g Z Z Z hb13 (.v Z Z Z (.p Z hb13 Z Z (.a Z Z (.g Z Z Z hb14 (.l Z Z Z Z (O8 ha68) Z (.p Z hb14 Z Z (.e Z Z (.nil ?_))))))))
        obtain rfl := oi hx11
        refine b5 (Sub.cut ⟨Z, Y⟩ Z trivial Z)
       ·replace hx11 := B9 hb14 hx11
        refine AWP.f (W.fieldAddr Z Z Z Z (.m Z Z Z Z Z Z (.v Z Z Z (.a Z Z (.g Z Z Z hb12 (.a Z Z (.g Z Z Z hb12 (.u Z Z (.p Z hb12 Z Z (.a Z Z (.g Z Z Z hb13 (.a Z Z ?_))))))))))))
        refine AOps.g Z Z Z hb13 ?_; refine S.len Z Z (fun hl64 => ?_)
        refine AOps.g Z Z Z hb13 (.v Z Z Z (.p Z hb13 Z Z (.a Z Z (.i Z Z Z hb14 (.n Z hb14 Z Z (.e Z Z (.nil ?_)))))))
        obtain rfl := oi hx11
        refine b5 (Sub.cut ⟨Z, Y⟩ Z trivial Z)
      ·replace hx11 := w6 hb13 hx11
       refine AWP.f (W.fieldAddr Z Z Z Z (.m Z Z Z Z Z Z (.v Z Z Z (.a Z Z (.g Z Z Z hb12 (.a Z Z (.g Z Z Z hb12 (.u Z Z (.p Z hb12 Z Z (.a Z Z (.i Z Z Z hb13 (.i Z Z Z hb13 (.i Z Z Z hb13 (.n Z hb13 Z Z (.a Z Z (.i Z Z Z Z (.n Z Z Z Z (.e Z Z (.nil ?_)))))))))))))))))))
       obtain rfl := oi hx11
       refine b5 (Sub.cut ⟨Z, Y⟩ Z trivial Z)
     ·replace hx11 := B9 hb12 hx11
      refine AWP.f (W.fieldAddr Z Z Z Z (.m Z Z Z Z Z Z (.v Z Z Z (.a Z Z (.i Z Z Z hb12 (.i Z Z Z hb12 (.n Z hb12 Z Z (.a Z Z (.i Z Z Z Z (.i Z Z Z Z (.i Z Z Z Z (.n Z Z Z Z (.a Z Z (.i Z Z Z Z (.n Z Z Z Z (.e Z Z (.nil ?_)))))))))))))))))
      obtain rfl := oi hx11
      refine b5 (Sub.cut ⟨Z, Y⟩ Z trivial Z)
    ·refine AWP.ret (e8 ?_)
     obtain rfl := oi h
     exact Done.ret Z Z
   ·refine AWP.skip (b5 ?_)
    obtain ⟨t15, hx16, h⟩ := b6 h
    refine AWP.seqJ (⟨[(2, .c (bool t15))], []⟩) ?_ ?_
    ·rcases bft (decide (a12.2.2.code = 0)) with hb17 | hb17
     ·replace hx16 := C2 hb17 hx16
      rcases bft (a12.2.1) with hb18 | hb18
      ·replace hx16 := w9 hb18 hx16
       obtain ⟨a81, ha81, a82, ha82, hx16⟩ := b2 hx16
       rcases bft (a82) with hb19 | hb19
       ·replace hx16 := w9 hb19 hx16
        obtain ⟨a85, ha85, hx16⟩ := b6 hx16
        refine AWP.f (W.fieldAddr Z Z Z Z (.m Z Z Z Z Z Z (.v Z Z Z (.a Z Z (.g Z Z Z hb17 (.a Z Z (.p Z hb17 Z Z (.a Z Z (.g Z Z Z hb18 (.a Z Z (.g Z Z Z hb18 (W.loadAgg Z Z Z Z Z Z Z (.g Z Z Z hb18 (.a Z Z (.g Z Z Z hb18 (.a Z Z ?_))))))))))))))))
        refine AOps.g Z Z Z hb18 ?_; refine AOps.frzV (id := 3) (l := a46) (env2 := [(76, .c (bool a12.2.1)), (77, .c (row 2 g7 a12.1)), (78, .agg (tO ov)), (79, .c (row 1 d6 a38.1)), (80, .c (row 1 intI a46))]) (σ2 := [.one (.cells 4 [(tO ov)]), .one (.cells 2 [[int a12.2.2.code, int a12.2.2.index]]), .one (.cells 2 [[int a17.code, int a17.index]]), .dead]) Z Z (by exact ⟨⟨_, Z, .inl ⟨Z, Z⟩⟩, ⟨_, Z, .inl ⟨Z, Z⟩⟩, ⟨_, Z, ⟨.inl ⟨Z, Z⟩, .inl ⟨Z, Z⟩, .inl ⟨Z, Z⟩, .inl ⟨Z, Z⟩, Y⟩⟩, ⟨_, Z, .inl ⟨Z, Z⟩⟩, ⟨_, Z, .inr ⟨_, Z, Z, Z⟩⟩, Y⟩) Z (by exact ⟨⟨Z, .inl ⟨Z, Z⟩, .inl ⟨Z, Z⟩, .inl ⟨Z, Z⟩, .inl ⟨Z, Z⟩, Y⟩, ⟨Z, .inl ⟨Z, Z⟩, .inl ⟨Z, Z⟩, Y⟩, ⟨Z, .inl ⟨Z, Z⟩, .inl ⟨Z, Z⟩, Y⟩, trivial, Y⟩) ?_; refine AOps.l Z Z Z Z (al2 ha81) Z ?_
        refine AOps.g Z Z Z hb18 (.l Z Z Z Z (aa9 ha82) Z (.p Z hb18 Z Z (.a Z Z (.g Z Z Z hb19 (.l Z Z Z Z (O8 ha85) Z (.p Z hb19 Z Z (.e Z Z (.nil ?_))))))))
        obtain rfl := oi hx16
        refine b5 (Sub.cut ⟨Z, Y⟩ Z trivial Z)
       ·replace hx16 := w6 hb19 hx16
        refine AWP.f (W.fieldAddr Z Z Z Z (.m Z Z Z Z Z Z (.v Z Z Z (.a Z Z (.g Z Z Z hb17 (.a Z Z (.p Z hb17 Z Z (.a Z Z (.g Z Z Z hb18 (.a Z Z (.g Z Z Z hb18 (W.loadAgg Z Z Z Z Z Z Z (.g Z Z Z hb18 (.a Z Z (.g Z Z Z hb18 (.a Z Z ?_))))))))))))))))
        refine AOps.g Z Z Z hb18 ?_; refine AOps.frzV (id := 3) (l := a46) (env2 := [(76, .c (bool a12.2.1)), (77, .c (row 2 g7 a12.1)), (78, .agg (tO ov)), (79, .c (row 1 d6 a38.1)), (80, .c (row 1 intI a46))]) (σ2 := [.one (.cells 4 [(tO ov)]), .one (.cells 2 [[int a12.2.2.code, int a12.2.2.index]]), .one (.cells 2 [[int a17.code, int a17.index]]), .dead]) Z Z (by exact ⟨⟨_, Z, .inl ⟨Z, Z⟩⟩, ⟨_, Z, .inl ⟨Z, Z⟩⟩, ⟨_, Z, ⟨.inl ⟨Z, Z⟩, .inl ⟨Z, Z⟩, .inl ⟨Z, Z⟩, .inl ⟨Z, Z⟩, Y⟩⟩, ⟨_, Z, .inl ⟨Z, Z⟩⟩, ⟨_, Z, .inr ⟨_, Z, Z, Z⟩⟩, Y⟩) Z (by exact ⟨⟨Z, .inl ⟨Z, Z⟩, .inl ⟨Z, Z⟩, .inl ⟨Z, Z⟩, .inl ⟨Z, Z⟩, Y⟩, ⟨Z, .inl ⟨Z, Z⟩, .inl ⟨Z, Z⟩, Y⟩, ⟨Z, .inl ⟨Z, Z⟩, .inl ⟨Z, Z⟩, Y⟩, trivial, Y⟩) ?_; refine AOps.l Z Z Z Z (al2 ha81) Z ?_
        refine AOps.g Z Z Z hb18 (.l Z Z Z Z (aa9 ha82) Z (.p Z hb18 Z Z (.a Z Z (.i Z Z Z hb19 (.n Z hb19 Z Z (.e Z Z (.nil ?_)))))))
        obtain rfl := oi hx16
        refine b5 (Sub.cut ⟨Z, Y⟩ Z trivial Z)
      ·replace hx16 := w6 hb18 hx16
       refine AWP.f (W.fieldAddr Z Z Z Z (.m Z Z Z Z Z Z (.v Z Z Z (.a Z Z (.g Z Z Z hb17 (.a Z Z (.p Z hb17 Z Z (.a Z Z (.i Z Z Z hb18 (.i Z Z Z hb18 (.i Z Z Z hb18 (.i Z Z Z hb18 (.i Z Z Z hb18 (.i Z Z Z hb18 (.n Z hb18 Z Z (.a Z Z (.i Z Z Z Z (.n Z Z Z Z (.e Z Z (.nil ?_))))))))))))))))))))
       obtain rfl := oi hx16
       refine b5 (Sub.cut ⟨Z, Y⟩ Z trivial Z)
     ·replace hx16 := B9 hb17 hx16
      refine AWP.f (W.fieldAddr Z Z Z Z (.m Z Z Z Z Z Z (.v Z Z Z (.a Z Z (.i Z Z Z hb17 (.n Z hb17 Z Z (.a Z Z (.i Z Z Z Z (.i Z Z Z Z (.i Z Z Z Z (.i Z Z Z Z (.i Z Z Z Z (.i Z Z Z Z (.n Z Z Z Z (.a Z Z (.i Z Z Z Z (.n Z Z Z Z (.e Z Z (.nil ?_)))))))))))))))))))
      obtain rfl := oi hx16
      refine b5 (Sub.cut ⟨Z, Y⟩ Z trivial Z)
    ·refine AWP.ret ?_
     obtain rfl := oi h
     exact Done.ret Z Z
end Ab
end
section
namespace Ab
open Go
theorem T1 {α : Type} {l : List α} {k : Nat} : ix l (k : Int) = l[k]? := by simp [ix]
theorem i7 {α : Type} {l : List α} {i : Int} (h0 : 0 ≤ i) (h1 : i < l.length) : ∃ a, ix l i = some a ∧ l[i.toNat]? = some a := by
 have h : i.toNat < l.length := by omega
 exact ⟨l[i.toNat], by simp [ix, h0, h], by simp [h]⟩
theorem j7 {α : Type} {l : List α} {i : Int} {a : α} (h : ix l i = some a) : 0 ≤ i ∧ i < l.length ∧ l[i.toNat]? = some a := by
 unfold ix at h
 split at h
 ·have := (List.getElem?_eq_some_iff.1 h).1
  exact ⟨by assumption, by omega, h⟩
 ·cases h
theorem s5 {n : Int} (h1 : -9223372036854775808 ≤ n) (h2 : n ≤ 9223372036854775807) : w64 n = n := w64_eq ⟨h1, h2⟩
theorem forN_inv {S : Type} {body : Int → S → Option S} (P : Int → S → Prop) : ∀ (k : Nat) (i : Int) (s : S), P i s →
  (∀ j s, i ≤ j → j < i + k → P j s → ∃ s', body j s = some s' ∧ P (j + 1) s') → ∃ s', forN body k i s = some s' ∧ P (i + k) s'
 | 0, i, s, h, _ => ⟨s, rfl, by simpa using h⟩
 | k + 1, i, s, h, hb => by
  obtain ⟨s1, h1, h2⟩ := hb i s (Int.le_refl _) (by omega) h
  obtain ⟨s2, h3, h4⟩ := forN_inv P k (i + 1) s1 h2 (fun j s g1 g2 => hb j s (by omega) (by omega))
  exact ⟨s2, by simp only [forN, h1]; exact h3, by rw [show i + ((k + 1 : Nat) : Int) = i + 1 + k by omega]; exact h4⟩
theorem p8 {S : Type} {body : Int → S → Option S} {n : Int} (P : Int → S → Prop) {s : S} (hn : 0 ≤ n) (h0 : P 0 s)
  (hb : ∀ j s, 0 ≤ j → j < n → P j s → ∃ s', body j s = some s' ∧ P (j + 1) s') : ∃ s', forR 0 n body s = some s' ∧ P n s' := by
 obtain ⟨s', h1, h2⟩ := forN_inv P (n - 0).toNat 0 s h0 (fun j s g1 g2 => hb j s g1 (by omega))
 exact ⟨s', h1, by rwa [show (0 : Int) + ((n - 0).toNat : Int) = n by omega] at h2⟩
theorem rngN_inv {S O : Type} {body : Int → S → Option (S ⊕ O)} (P : Int → S → Prop) (Q : O → Prop) : ∀ (k : Nat) (i : Int) (s : S), P i s →
  (∀ j s, i ≤ j → j < i + k → P j s → (∃ s', body j s = some (.inl s') ∧ P (j + 1) s') ∨ ∃ o, body j s = some (.inr o) ∧ Q o) →
  (∃ s', rngN body k i s = some (.inl s') ∧ P (i + k) s') ∨ ∃ o, rngN body k i s = some (.inr o) ∧ Q o
 | 0, i, s, h, _ => .inl ⟨s, rfl, by simpa using h⟩
 | k + 1, i, s, h, hb => by
  rcases hb i s (Int.le_refl _) (by omega) h with ⟨s1, h1, h2⟩ | ⟨o, h1, h2⟩
  ·rcases rngN_inv P Q k (i + 1) s1 h2 (fun j s g1 g2 => hb j s (by omega) (by omega)) with ⟨s2, h3, h4⟩ | ⟨o, h3, h4⟩
   ·exact .inl ⟨s2, by simp only [rngN, h1]; exact h3, by rw [show i + ((k + 1 : Nat) : Int) = i + 1 + k by omega]; exact h4⟩
   ·exact .inr ⟨o, by simp only [rngN, h1]; exact h3, h4⟩
  ·exact .inr ⟨o, by simp only [rngN, h1], h2⟩
theorem Y0 {S O : Type} {body : Int → S → Option (S ⊕ O)} {n : Int} (P : Int → S → Prop) (Q : O → Prop) {s : S} (hn : 0 ≤ n) (h0 : P 0 s)
  (hb : ∀ j s, 0 ≤ j → j < n → P j s → (∃ s', body j s = some (.inl s') ∧ P (j + 1) s') ∨ ∃ o, body j s = some (.inr o) ∧ Q o) :
  (∃ s', rngX 0 n body s = some (.inl s') ∧ P n s') ∨ ∃ o, rngX 0 n body s = some (.inr o) ∧ Q o := by
 rcases rngN_inv P Q (n - 0).toNat 0 s h0 (fun j s g1 g2 => hb j s g1 (by omega)) with ⟨s', h1, h2⟩ | h
 ·exact .inl ⟨s', h1, by rwa [show (0 : Int) + ((n - 0).toNat : Int) = n by omega] at h2⟩
 ·exact .inr h
theorem rngX_all {O : Type} {body : Int → Unit → Option (Unit ⊕ O)} {n : Int} (hn : 0 ≤ n) (hb : ∀ j, 0 ≤ j → j < n → body j () = some (.inl ())) : rngX 0 n body () = some (.inl ()) := by
 rcases Y0 (body := body) (fun _ _ => True) (fun _ => False) (s := ()) hn trivial (fun j s g1 g2 _ => .inl ⟨(), hb j g1 g2, trivial⟩) with ⟨s', h, _⟩ | ⟨o, _, h⟩
 ·exact h
 ·exact h.elim
theorem LoopN_inv {S O : Type} {body : S → Option (S ⊕ O)} (P : S → Prop) (Q : O → Prop) (μ : S → Nat) (hb : ∀ s, P s → (∃ s', body s = some (.inl s') ∧ P s' ∧ μ s' < μ s) ∨ ∃ o, body s = some (.inr o) ∧ Q o) :
  ∀ (k : Nat) (s : S), μ s < k → P s → ∃ o, D2 body k s = some o ∧ Q o
 | 0, s, h, _ => by omega
 | k + 1, s, h, hs => by
  rcases hb s hs with ⟨s', h1, h2, h3⟩ | ⟨o, h1, h2⟩
  ·obtain ⟨o, g1, g2⟩ := LoopN_inv P Q μ hb k s' (by omega) h2
   exact ⟨o, by simp only [D2, h1]; exact g1, g2⟩
  ·exact ⟨o, by simp only [D2, h1], h2⟩
theorem A6 {S O : Type} {body : S → Option (S ⊕ O)} (P : S → Prop) (Q : O → Prop) (μ : S → Nat) {s : S} (hs : P s)
  (hb : ∀ s, P s → (∃ s', body s = some (.inl s') ∧ P s' ∧ μ s' < μ s) ∨ ∃ o, body s = some (.inr o) ∧ Q o) : ∃ o, Loop body s = some o ∧ Q o := by
 obtain ⟨o, h1, h2⟩ := LoopN_inv P Q μ hb (μ s + 1) s (by omega) hs
 exact ⟨o, P3.2 ⟨_, h1⟩, h2⟩
/-! ### Two loops that do the same -/
theorem rngN_eq {S O : Type} {b1 b2 : Int → S → Option (S ⊕ O)} (P : Int → S → Prop) : ∀ (k : Nat) (i : Int) (s : S), P i s →
  (∀ j s, i ≤ j → j < i + k → P j s → b1 j s = b2 j s ∧ b1 j s ≠ none ∧ ∀ s', b1 j s = some (.inl s') → P (j + 1) s') →
  rngN b1 k i s = rngN b2 k i s ∧ rngN b1 k i s ≠ none ∧ ∀ s', rngN b1 k i s = some (.inl s') → P (i + k) s'
 | 0, i, s, h, _ => ⟨rfl, by simp [rngN], fun s' hs => by simp only [rngN, Option.some.injEq, Sum.inl.injEq] at hs; subst hs; simpa using h⟩
 | k + 1, i, s, h, hb => by
  obtain ⟨h1, h2, h3⟩ := hb i s (Int.le_refl _) (by omega) h
  simp only [rngN]
  rw [← h1]
  cases hc : b1 i s with
  | none => exact absurd hc h2
  | some x =>
   cases x with
   | inr o => exact ⟨rfl, by simp, fun s' hs => by simp at hs⟩
   | inl s1 =>
    dsimp only
    have := rngN_eq (b1 := b1) (b2 := b2) P k (i + 1) s1 (h3 s1 hc) (fun j s g1 g2 => hb j s (by omega) (by omega))
    rwa [show i + 1 + (k : Int) = i + ((k + 1 : Nat) : Int) by omega] at this
theorem rngX_eq {S O : Type} {b1 b2 : Int → S → Option (S ⊕ O)} {n : Int} (P : Int → S → Prop) {s : S} (hn : 0 ≤ n) (h0 : P 0 s)
  (hb : ∀ j s, 0 ≤ j → j < n → P j s → b1 j s = b2 j s ∧ b1 j s ≠ none ∧ ∀ s', b1 j s = some (.inl s') → P (j + 1) s') :
  rngX 0 n b1 s = rngX 0 n b2 s ∧ rngX 0 n b1 s ≠ none ∧ ∀ s', rngX 0 n b1 s = some (.inl s') → P n s' := by
 have := rngN_eq P (n - 0).toNat 0 s h0 (fun j s g1 g2 => hb j s g1 (by omega))
 rwa [show (0 : Int) + ((n - 0).toNat : Int) = n by omega] at this
end Ab
end
section
namespace Ab
open Go
noncomputable def dec (p : Prop) : Bool := @decide p (Classical.propDecidable p)
@[simp] theorem l4 {p : Prop} : dec p = true ↔ p := by simp [dec]
@[simp] theorem dec_false {p : Prop} : dec p = false ↔ ¬ p := by simp [dec]
@[simp] theorem q7 {p : Prop} : (!dec p) = dec (¬ p) := by by_cases h : p <;> simp [dec, h]
theorem z7 {p : Prop} [Decidable p] : decide p = dec p := by by_cases h : p <;> simp [dec, h]
theorem k7 {p : Prop} (h : p) : dec p = true := l4.2 h
theorem o6 {p : Prop} (h : ¬ p) : dec p = false := dec_false.2 h
theorem m7 {p q : Prop} (h : p ↔ q) : dec p = dec q := by rw [propext h]
theorem dec_inj {p q : Prop} : dec p = dec q ↔ (p ↔ q) := ⟨fun h => ⟨fun hp => l4.1 (h ▸ k7 hp), fun hq => l4.1 (h.symm ▸ k7 hq)⟩, m7⟩
theorem dec_and {p q : Prop} : (dec p && dec q) = dec (p ∧ q) := by by_cases h : p <;> by_cases g : q <;> simp [dec, h, g]
theorem dec_or {p q : Prop} : (dec p || dec q) = dec (p ∨ q) := by by_cases h : p <;> by_cases g : q <;> simp [dec, h, g]
theorem ifP {α : Type} {p : Prop} {a b : α} (h : p) : (if dec p = true then a else b) = a := if_pos (k7 h)
theorem ifN {α : Type} {p : Prop} {a b : α} (h : ¬ p) : (if dec p = true then a else b) = b := if_neg fun g => h (l4.1 g)
theorem ifNN {α : Type} {p : Prop} {a b : α} (h : p) : (if dec (¬ p) = true then a else b) = b := ifN (not_not_intro h)
theorem i8 {α : Type} {l : List α} {i : Int} {a : α} (h : ix l i = some a) : a ∈ l := List.mem_of_getElem? (j7 h).2.2
theorem k9 {α : Type} {l : List α} {a : α} (h : a ∈ l) : ∃ i : Int, 0 ≤ i ∧ i < l.length ∧ ix l i = some a := by
 obtain ⟨k, hk⟩ := List.getElem?_of_mem h
 exact ⟨k, by omega, by have := (List.getElem?_eq_some_iff.1 hk).1; omega, by rw [T1, hk]⟩
theorem ix_put {α : Type} {l : List α} {i j : Int} {x : α} (h0 : 0 ≤ i) (h1 : i < l.length) (hj : 0 ≤ j) : ix (l.set i.toNat x) j = if j = i then some x else ix l j := by
 simp only [ix, hj, if_true, List.getElem?_set]
 by_cases h : j = i
 ·subst h; rw [if_pos rfl, if_pos rfl, if_pos (by omega)]
 ·rw [if_neg h, if_neg (by omega)]
theorem u4 {O : Type} {body : Int → Unit → Option (Unit ⊕ O)} {n : Int} (g : Int → Option O) (hn : 0 ≤ n)
  (hb : ∀ j, 0 ≤ j → j < n → (∀ i, 0 ≤ i → i < j → g i = none) → body j () = some (match g j with | none => .inl () | some o => .inr o)) :
  (rngX 0 n body () = some (.inl ()) ∧ ∀ j, 0 ≤ j → j < n → g j = none) ∨ ∃ j o, 0 ≤ j ∧ j < n ∧ g j = some o ∧ (∀ i, 0 ≤ i → i < j → g i = none) ∧ rngX 0 n body () = some (.inr o) := by
 rcases Y0 (body := body) (n := n) (fun j _ => ∀ i, 0 ≤ i → i < j → g i = none) (fun o => ∃ j, 0 ≤ j ∧ j < n ∧ g j = some o ∧ ∀ i, 0 ≤ i → i < j → g i = none) (s := ()) hn (fun i h1 h2 => by omega) (fun j s h0 h1 hP => by
  have := hb j h0 h1 hP
  cases hg : g j with
  | none => rw [hg] at this; exact .inl ⟨(), this, fun i h2 h3 => by
    rcases Int.lt_or_eq_of_le (Int.le_of_lt_add_one h3) with h | h
    ·exact hP i h2 h
    ·rw [h, hg]⟩
  | some o => rw [hg] at this; exact .inr ⟨o, this, j, h0, h1, hg, hP⟩) with ⟨s', h1, h2⟩ | ⟨o, h1, j, h2, h3, h4, h5⟩
 ·exact .inl ⟨h1, h2⟩
 ·exact .inr ⟨j, o, h2, h3, h4, h5, h1⟩
theorem rng_list {α O : Type} {l : List α} {body : Int → Unit → Option (Unit ⊕ O)} (q : α → Prop) (b : O)
  (hb : ∀ j a, ix l j = some a → (q a ∧ body j () = some (.inl ())) ∨ (¬ q a ∧ body j () = some (.inr b))) :
  rngX 0 (l.length : Int) body () = some (if dec (∀ a ∈ l, q a) = true then .inl () else .inr b) := by
 rcases u4 (body := body) (n := (l.length : Int)) (fun j => match ix l j with | some a => if dec (q a) = true then none else some b | none => none) (by omega) (fun j h0 h1 _ => by
  obtain ⟨a, h2, _⟩ := i7 h0 h1
  rw [h2]
  rcases hb j a h2 with ⟨h3, h4⟩ | ⟨h3, h4⟩
  ·rw [h4]; simp [h3]
  ·rw [h4]; simp [h3]) with ⟨h1, h2⟩ | ⟨j, o, h0, h1, h2, _, h4⟩
 ·rw [h1, if_pos]
  rw [l4]
  intro a ha
  obtain ⟨i, g1, g2, g3⟩ := k9 ha
  have := h2 i g1 g2
  rw [g3] at this
  simpa using this
 ·rw [h4]
  obtain ⟨a, g1, _⟩ := i7 h0 h1
  rw [g1] at h2
  simp only [l4] at h2
  split at h2
  ·cases h2
  ·rename_i hq
   cases h2
   rw [if_neg]
   rw [l4]
   exact fun h => hq (k7 (h a (i8 g1)))
abbrev Inc (l : List Int) : Prop := l.Pairwise (· < ·)
theorem inc_of_adj : ∀ {l : List Int}, (∀ (k : Nat) a b, l[k]? = some a → l[k + 1]? = some b → a < b) → Inc l
 | [], _ => .nil
 | [_], _ => by simp
 | a :: b :: l, h => by
  have ih : Inc (b :: l) := inc_of_adj fun k x y h1 h2 => h (k + 1) x y (by simpa using h1) (by simpa using h2)
  have hab : a < b := h 0 a b rfl rfl
  refine List.pairwise_cons.2 ⟨fun c hc => ?_, ih⟩
  rcases List.mem_cons.1 hc with rfl | hc
  ·exact hab
  ·exact Int.lt_trans hab ((List.pairwise_cons.1 ih).1 c hc)
theorem Inc.get {l : List Int} (h : Inc l) {i j : Nat} {a b : Int} (hi : l[i]? = some a) (hj : l[j]? = some b) (hij : i < j) : a < b := by
 obtain ⟨h1, rfl⟩ := List.getElem?_eq_some_iff.1 hi
 obtain ⟨h2, rfl⟩ := List.getElem?_eq_some_iff.1 hj
 exact List.pairwise_iff_getElem.1 h i j h1 h2 hij
theorem Inc.ext : ∀ {l m : List Int}, Inc l → Inc m → (∀ x, x ∈ l ↔ x ∈ m) → l = m
 | [], [], _, _, _ => rfl
 | [], b :: m, _, _, h => absurd ((h b).2 (by simp)) (by simp)
 | a :: l, [], _, _, h => absurd ((h a).1 (by simp)) (by simp)
 | a :: l, b :: m, hl, hm, h => by
  obtain ⟨l1, l2⟩ := List.pairwise_cons.1 hl
  obtain ⟨m1, m2⟩ := List.pairwise_cons.1 hm
  have hab : a = b := by
   rcases List.mem_cons.1 ((h a).1 (by simp)) with e | e
   ·exact e
   ·rcases List.mem_cons.1 ((h b).2 (by simp)) with e' | e'
    ·exact e'.symm
    ·have := l1 b e'; have := m1 a e; omega
  subst hab
  rw [Inc.ext l2 m2 fun x => ⟨fun hx => ?_, fun hx => ?_⟩]
  ·rcases List.mem_cons.1 ((h x).1 (by simp [hx])) with e | e
   ·have := l1 x hx; omega
   ·exact e
  ·rcases List.mem_cons.1 ((h x).2 (by simp [hx])) with e | e
   ·have := m1 x hx; omega
   ·exact e
theorem Inc.filter {l : List Int} (h : Inc l) (p : Int → Bool) : Inc (l.filter p) := List.Pairwise.filter p h
def nums (lo : Int) : Nat → List Int
 | 0 => []
 | k + 1 => lo :: nums (lo + 1) k
theorem ak4 {x : Int} : ∀ {k : Nat} {lo : Int}, x ∈ nums lo k ↔ lo ≤ x ∧ x < lo + k
 | 0, lo => by simp [nums]
 | k + 1, lo => by
  rw [nums, List.mem_cons, ak4 (k := k)]
  omega
theorem inc_nums : ∀ (k : Nat) (lo : Int), Inc (nums lo k)
 | 0, _ => .nil
 | k + 1, lo => List.pairwise_cons.2 ⟨fun x hx => by have := ak4.1 hx; omega, inc_nums k (lo + 1)⟩
theorem len_nums : ∀ (k : Nat) (lo : Int), (nums lo k).length = k
 | 0, _ => rfl
 | k + 1, lo => by simp [nums, len_nums k]
noncomputable def M8 (p : Int → Prop) (n : Int) : List Int := (nums 0 n.toNat).filter fun x => dec (p x)
theorem aa0 {p : Int → Prop} {n x : Int} : x ∈ M8 p n ↔ 0 ≤ x ∧ x < n ∧ p x := by
 rw [M8, List.mem_filter, ak4, l4]
 constructor
 ·rintro ⟨⟨h1, h2⟩, h3⟩; exact ⟨h1, by omega, h3⟩
 ·rintro ⟨h1, h2, h3⟩; exact ⟨⟨h1, by omega⟩, h3⟩
theorem ah4 (p : Int → Prop) (n : Int) : Inc (M8 p n) := (inc_nums _ _).filter _
theorem setOf_congr {p q : Int → Prop} {n : Int} (h : ∀ x, 0 ≤ x → x < n → (p x ↔ q x)) : M8 p n = M8 q n := by
 refine List.filter_congr fun x hx => m7 ?_
 have := ak4.1 hx
 exact h x (by omega) (by omega)
def SetN (l : List Int) (n : Int) : Prop := Inc l ∧ ∀ x ∈ l, 0 ≤ x ∧ x < n
theorem setN_setOf (p : Int → Prop) (n : Int) : SetN (M8 p n) n := ⟨ah4 p n, fun x hx => by have := aa0.1 hx; exact ⟨this.1, this.2.1⟩⟩
theorem SetN.eq {l : List Int} {n : Int} (h : SetN l n) : l = M8 (· ∈ l) n :=
 h.1.ext (ah4 _ _) fun x => ⟨fun hx => aa0.2 ⟨(h.2 x hx).1, (h.2 x hx).2, hx⟩, fun hx => (aa0.1 hx).2.2⟩
theorem SetN.eq_of {l : List Int} {n : Int} (h : SetN l n) {p : Int → Prop} (hp : ∀ x, 0 ≤ x → x < n → (x ∈ l ↔ p x)) : l = M8 p n :=
 h.eq.trans (setOf_congr hp)
theorem SetN.len {l : List Int} {n : Int} (h : SetN l n) : l.length ≤ n.toNat := by
 rw [h.eq, M8]
 exact Nat.le_trans (List.length_filter_le _ _) (Nat.le_of_eq (len_nums _ _))
theorem T6 (n : Int) : SetN [] n := ⟨.nil, by simp⟩
theorem forR_filter {α : Type} {l : List α} {b : Nat} {body : Int → List α → Option (List α)} (q : α → Prop)
  (hb : ∀ j a c, ix l j = some a → (q a → body j c = app b c [a]) ∧ (¬ q a → body j c = some c)) (c0 : List α) (hl : (c0.length + l.length) * b ≤ 140737488355328) :
  forR 0 (l.length : Int) body c0 = some (c0 ++ l.filter fun a => dec (q a)) := by
 obtain ⟨s', h1, h2⟩ := p8 (body := body) (n := (l.length : Int)) (s := c0) (fun j c => c = c0 ++ (l.take j.toNat).filter fun a => dec (q a)) (by omega) (by simp) (fun j c h0 h1 hP => by
  obtain ⟨a, g1, g2⟩ := i7 h0 h1
  have e : (j + 1).toNat = j.toNat + 1 := by omega
  have ht : l.take (j + 1).toNat = l.take j.toNat ++ [a] := by rw [e, List.take_add_one, g2]; rfl
  by_cases hq : q a
  ·have happ : app b c [a] = some (c ++ [a]) := by
    rw [app, if_pos]
    have h3 : ((l.take j.toNat).filter fun a => dec (q a)).length ≤ (l.take j.toNat).length := List.length_filter_le _ _
    rw [List.length_take] at h3
    have h5 : c.length + 1 ≤ c0.length + l.length := by rw [hP, List.length_append]; omega
    refine Nat.le_trans (Nat.mul_le_mul_right b ?_) hl
    simpa using h5
   refine ⟨c ++ [a], by rw [(hb j a c g1).1 hq, happ], ?_⟩
   rw [ht, List.filter_append, hP]
   simp [hq]
  ·refine ⟨c, (hb j a c g1).2 hq, ?_⟩
   rw [ht, List.filter_append, hP]
   simp [hq])
 rw [h1, h2]
 simp
theorem forR_setOf {b : Nat} {n : Int} {body : Int → List Int → Option (List Int)} (q : Int → Prop) (hn : 0 ≤ n) (hl : n.toNat * b ≤ 140737488355328)
  (hb : ∀ j c, 0 ≤ j → j < n → (q j → body j c = app b c [j]) ∧ (¬ q j → body j c = some c)) : forR 0 n body [] = some (M8 q n) := by
 obtain ⟨s', h1, h2⟩ := p8 (body := body) (n := n) (s := []) (fun j c => c = M8 q j) hn (by simp [M8, nums]) (fun j c h0 h1 hP => by
  have hs : M8 q (j + 1) = M8 q j ++ if dec (q j) = true then [j] else [] := by
   refine (ah4 q (j + 1)).ext ?_ fun x => ?_
   ·refine List.pairwise_append.2 ⟨ah4 _ _, by split <;> simp, fun a ha b hb => ?_⟩
    have := aa0.1 ha
    split at hb
    ·simp at hb; omega
    ·cases hb
   ·rw [List.mem_append, aa0, aa0]
    by_cases hq : q j
    ·rw [if_pos (k7 hq)]
     simp only [List.mem_singleton]
     refine ⟨fun h => ?_, fun h => ?_⟩
     ·by_cases e : x = j
      ·exact .inr e
      ·exact .inl ⟨h.1, by omega, h.2.2⟩
     ·rcases h with h | rfl
      ·exact ⟨h.1, by omega, h.2.2⟩
      ·exact ⟨h0, by omega, hq⟩
    ·rw [if_neg (by simpa using hq)]
     simp only [List.not_mem_nil, or_false]
     refine ⟨fun h => ⟨h.1, ?_, h.2.2⟩, fun h => ⟨h.1, by omega, h.2.2⟩⟩
     rcases Int.lt_or_eq_of_le (Int.le_of_lt_add_one h.2.1) with e | e
     ·exact e
     ·rw [e] at h; exact absurd h.2.2 hq
  by_cases hq : q j
  ·refine ⟨c ++ [j], ?_, by rw [hs, hP, if_pos (k7 hq)]⟩
   rw [(hb j c h0 h1).1 hq, app, if_pos]
   have h3 : c.length ≤ j.toNat := by rw [hP]; exact (setN_setOf q j).len
   refine Nat.le_trans (Nat.mul_le_mul_right b ?_) hl
   simp; omega
  ·refine ⟨c, (hb j c h0 h1).2 hq, ?_⟩
   rw [hs, hP, if_neg (by simpa using hq), List.append_nil])
 rw [h1, h2]
end Ab
end
section
namespace Ab
open Go
theorem has_eq (l : List Int) (n : Int) : J2 l n = some (dec (n ∈ l)) := by
 unfold J2
 rw [rng_list (l := l) (fun a => a ≠ n) true (fun j a h => by
  unfold ai6
  rw [h]
  by_cases e : a = n <;> simp [e])]
 by_cases h : n ∈ l
 ·rw [if_neg (by simp only [l4]; exact fun g => g n h rfl)]
  simp [h]
 ·rw [if_pos (by simp only [l4]; exact fun a ha e => h (e ▸ ha))]
  simp [h]
theorem subset_eq (part l : List Int) : Q0 part l = some (dec (∀ x ∈ part, x ∈ l)) := by
 unfold Q0
 rw [rng_list (l := part) (fun a => a ∈ l) false (fun j a h => by
  unfold ab7
  rw [h]
  by_cases e : a ∈ l <;> simp [e, has_eq])]
 by_cases h : ∀ x ∈ part, x ∈ l
 ·rw [if_pos (k7 h), k7 h]; rfl
 ·rw [if_neg (by rw [o6 h]; simp), o6 h]; rfl
theorem disjoint_eq (a b : List Int) : P4 a b = some (dec (∀ x ∈ a, x ∉ b)) := by
 unfold P4
 rw [rng_list (l := a) (fun x => x ∉ b) false (fun j x h => by
  unfold Y1
  rw [h]
  by_cases e : x ∈ b <;> simp [e, has_eq])]
 by_cases h : ∀ x ∈ a, x ∉ b
 ·rw [if_pos (k7 h), k7 h]; rfl
 ·rw [if_neg (by rw [o6 h]; simp), o6 h]; rfl
theorem in_eq (n lo hi : Int) : Q5 n lo hi = some (dec (lo ≤ n ∧ n ≤ hi)) := by
 unfold Q5; rw [z7, z7, dec_and]
theorem at_eq (c i : Int) : K1 c i = some ⟨c, i⟩ := rfl
def stepOk (l : List Int) (n j : Int) : Prop := ∀ a, ix l j = some a → (0 ≤ a ∧ a < n) ∧ ∀ b, 0 < j → ix l (j - 1) = some b → b < a
theorem af0 {l : List Int} {n : Int} : (∀ j : Int, 0 ≤ j → j < l.length → stepOk l n j) ↔ SetN l n := by
 constructor
 ·intro h
  refine ⟨inc_of_adj fun k a b h1 h2 => ?_, fun x hx => ?_⟩
  ·have hk := (List.getElem?_eq_some_iff.1 h2).1
   have := (h ((k + 1 : Nat) : Int) (by omega) (by omega) b (by rw [T1]; exact h2)).2 a (by omega)
   rw [show ((k + 1 : Nat) : Int) - 1 = (k : Nat) by omega] at this
   exact this (by rw [T1]; exact h1)
  ·obtain ⟨i, h1, h2, h3⟩ := k9 hx
   exact (h i h1 h2 x h3).1
 ·intro h j h0 h1 a ha
  refine ⟨h.2 a (i8 ha), fun b hj hb => ?_⟩
  obtain ⟨_, _, ga⟩ := j7 ha
  obtain ⟨_, _, gb⟩ := j7 hb
  exact h.1.get gb ga (by omega)
theorem ak5 (l : List Int) (n : Int) : B8 l n = some (dec (SetN l n)) := by
 unfold B8
 rcases u4 (body := Q8 l n) (n := (l.length : Int)) (fun j => if dec (stepOk l n j) = true then none else some false) (by omega) (fun j h0 h1 _ => by
  obtain ⟨a, ha, _⟩ := i7 (l := l) h0 h1
  unfold Q8
  rw [ha]
  simp only [ob]
  by_cases c1 : a < 0
  ·rw [if_pos c1, if_neg]
   ·rfl
   ·rw [l4]; intro h; have := (h a ha).1; omega
  ·rw [if_neg c1]
   by_cases c2 : n ≤ a
   ·rw [if_pos c2, if_neg]
    ·rfl
    ·rw [l4]; intro h; have := (h a ha).1; omega
   ·rw [if_neg c2]
    by_cases c3 : 0 < j
    ·obtain ⟨b, hb, _⟩ := i7 (l := l) (i := j - 1) (by omega) (by omega)
     rw [if_pos c3, hb]
     simp only [ob]
     by_cases c4 : a ≤ b
     ·rw [if_pos (by simpa using c4), if_neg]
      rw [l4]; intro h; have := (h a ha).2 b c3 hb; omega
     ·rw [if_neg (by simpa using c4), if_pos]
      rw [l4]; intro x hx
      rw [ha] at hx; cases hx
      exact ⟨by omega, fun y _ hy => by rw [hb] at hy; cases hy; omega⟩
    ·rw [if_neg c3]
     simp only [ob]
     rw [if_neg (by simp), if_pos]
     rw [l4]; intro x hx
     rw [ha] at hx; cases hx
     exact ⟨by omega, fun y hy => absurd hy c3⟩) with ⟨h1, h2⟩ | ⟨j, o, h0, h1, h2, _, h4⟩
 ·rw [h1, k7]
  ·rfl
  ·exact af0.1 fun j g1 g2 => by have := h2 j g1 g2; simpa using this
 ·rw [h4]
  split at h2
  ·cases h2
  ·rename_i hs
   cases h2
   rw [o6]
   ·rfl
   ·exact fun h => hs (k7 (af0.2 h j h0 h1))
theorem ah3 (l : List Int) {n : Int} (hn : -9223372036854775808 < n) (hn' : n ≤ 9223372036854775807) : F4 l n = some (dec (SetN l n)) := by
 unfold F4
 rcases u4 (body := W6 l n) (n := (l.length : Int)) (fun j => if dec (stepOk l n j) = true then none else some false) (by omega) (fun j h0 h1 _ => by
  obtain ⟨a, ha, _⟩ := i7 (l := l) h0 h1
  unfold W6
  rw [ha]
  simp only [ob, in_eq, s5 (n := n - 1) (by omega) (by omega), q7]
  by_cases c1 : 0 ≤ a ∧ a ≤ n - 1
  ·rw [if_neg (by simpa using c1)]
   by_cases c3 : 0 < j
   ·obtain ⟨b, hb, _⟩ := i7 (l := l) (i := j - 1) (by omega) (by omega)
    rw [if_pos c3, hb]
    simp only [ob]
    by_cases c4 : a ≤ b
    ·rw [if_pos (by simpa using c4), if_neg]
     rw [l4]; intro h; have := (h a ha).2 b c3 hb; omega
    ·rw [if_neg (by simpa using c4), if_pos]
     rw [l4]; intro x hx
     rw [ha] at hx; cases hx
     exact ⟨by omega, fun y _ hy => by rw [hb] at hy; cases hy; omega⟩
   ·rw [if_neg c3]
    simp only [ob]
    rw [if_neg (by simp), if_pos]
    rw [l4]; intro x hx
    rw [ha] at hx; cases hx
    exact ⟨by omega, fun y hy => absurd hy c3⟩
  ·rw [if_pos (by simpa using c1), if_neg]
   ·rfl
   ·rw [l4]; intro h; have := (h a ha).1; omega) with ⟨h1, h2⟩ | ⟨j, o, h0, h1, h2, _, h4⟩
 ·rw [h1, k7]
  ·rfl
  ·exact af0.1 fun j g1 g2 => by have := h2 j g1 g2; simpa using this
 ·rw [h4]
  split at h2
  ·cases h2
  ·rename_i hs
   cases h2
   rw [o6]
   ·rfl
   ·exact fun h => hs (k7 (af0.2 h j h0 h1))
theorem containsLoop {s : List Int} (hs : Inc s) (hl : s.length ≤ 1000000) (x : Int) {i : Int} (h0 : 0 ≤ i) (h1 : i ≤ s.length) (hlt : ∀ k a, 0 ≤ k → k < i → ix s k = some a → a < x) :
  ∃ i', Loop (G2 s x) i = some i' ∧ i ≤ i' ∧ i' ≤ s.length ∧ (∀ k a, 0 ≤ k → k < i' → ix s k = some a → a < x) ∧ (∀ a, ix s i' = some a → x ≤ a) := by
 obtain ⟨o, h2, h3⟩ := A6 (body := G2 s x) (fun j => i ≤ j ∧ j ≤ s.length ∧ ∀ k a, 0 ≤ k → k < j → ix s k = some a → a < x) (fun i' => i ≤ i' ∧ i' ≤ s.length ∧ (∀ k a, 0 ≤ k → k < i' → ix s k = some a → a < x) ∧ (∀ a, ix s i' = some a → x ≤ a)) (fun j => (s.length - j).toNat) (s := i) ⟨Int.le_refl _, h1, hlt⟩ (fun j ⟨g1, g2, g3⟩ => by
  unfold G2
  by_cases c : j < s.length
  ·obtain ⟨a, ha, _⟩ := i7 (l := s) (i := j) (by omega) c
   rw [if_pos c, ha]
   simp only [ob, decide_eq_true_eq]
   by_cases c2 : a < x
   ·rw [if_pos c2]
    rw [s5 (by omega) (by omega)]
    refine .inl ⟨j + 1, rfl, ⟨by omega, by omega, fun k b k0 k1 hb => ?_⟩, by omega⟩
    by_cases e : k = j
    ·subst e; rw [ha] at hb; cases hb; exact c2
    ·exact g3 k b k0 (by omega) hb
   ·rw [if_neg c2]
    exact .inr ⟨j, rfl, g1, g2, g3, fun b hb => by rw [ha] at hb; cases hb; omega⟩
  ·rw [if_neg c]
   exact .inr ⟨j, rfl, g1, g2, g3, fun b hb => by have := (j7 hb).2.1; omega⟩)
 exact ⟨o, h2, h3⟩
theorem W1 {s part : List Int} (hs : Inc s) (hp : Inc part) (hl : s.length ≤ 1000000) : z6 s part = some (dec (∀ x ∈ part, x ∈ s)) := by
 unfold z6
 rcases Y0 (body := K4 s part) (n := (part.length : Int)) (fun j i => (0 ≤ i ∧ i ≤ s.length ∧ ∀ k a, 0 ≤ k → k < i → ix s k = some a → ∀ m x, j ≤ m → ix part m = some x → a < x) ∧ ∀ m x, 0 ≤ m → m < j → ix part m = some x → x ∈ s) (fun o => o = false ∧ ¬ ∀ x ∈ part, x ∈ s) (s := 0) (by omega) ⟨⟨by omega, by omega, fun k a h1 h2 => by omega⟩, fun m x h1 h2 => by omega⟩ (fun j i h0 h1 ⟨⟨g1, g2, g3⟩, g4⟩ => by
  obtain ⟨x, hx, gx⟩ := i7 (l := part) h0 h1
  unfold K4
  obtain ⟨i', e1, e2, e3, e4, e5⟩ := containsLoop hs hl x g1 g2 (fun k a k0 k1 ha => g3 k a k0 k1 ha j x (Int.le_refl _) hx)
  rw [hx]
  simp only [ob, e1]
  have nin : (∀ a, ix s i' = some a → x < a) → x ∉ s := fun hgt hin => by
   obtain ⟨k, k0, k1, hk⟩ := k9 hin
   rcases Int.lt_trichotomy k i' with c | c | c
   ·have := e4 k x k0 c hk; omega
   ·subst c; have := hgt x hk; omega
   ·obtain ⟨b, hb, gb⟩ := i7 (l := s) (i := i') (by omega) (by omega)
    obtain ⟨_, _, gk⟩ := j7 hk
    have := hs.get gb gk (by omega)
    have := e5 b hb
    omega
  by_cases c : i' = s.length
  ·rw [if_pos c]
   refine .inr ⟨false, rfl, rfl, fun h => ?_⟩
   exact nin (fun a ha => by have := (j7 ha).2.1; omega) (h x (i8 hx))
  ·rw [if_neg c]
   obtain ⟨b, hb, gb⟩ := i7 (l := s) (i := i') (by omega) (by omega)
   rw [hb]
   simp only [ob]
   have hxb := e5 b hb
   by_cases c2 : b = x
   ·subst c2
    rw [if_neg (by simp)]
    refine .inl ⟨i', rfl, ⟨by omega, e3, fun k a k0 k1 ha m y hm hy => ?_⟩, fun m y m0 m1 hy => ?_⟩
    ·obtain ⟨_, _, gy⟩ := j7 hy
     have := hp.get gx gy (by omega)
     have := e4 k a k0 k1 ha
     omega
    ·by_cases e : m = j
     ·subst e; rw [hx] at hy; cases hy; exact i8 hb
     ·exact g4 m y m0 (by omega) hy
   ·rw [if_pos (by simpa using c2)]
    refine .inr ⟨false, rfl, rfl, fun h => ?_⟩
    exact nin (fun a ha => by rw [hb] at ha; cases ha; omega) (h x (i8 hx))) with ⟨s', h1, _, h2⟩ | ⟨o, h1, rfl, h2⟩
 ·rw [h1, k7]
  ·rfl
  ·intro x hx
   obtain ⟨m, m0, m1, hm⟩ := k9 hx
   exact h2 m x m0 m1 hm
 ·rw [h1, o6 h2]; rfl
end Ab
end
