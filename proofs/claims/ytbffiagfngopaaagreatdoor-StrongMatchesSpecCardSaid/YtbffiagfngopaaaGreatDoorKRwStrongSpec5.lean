/-
  Texts that the proof stands on.
-/
import Derived.Test.YtbffiagfngopaaaGreatDoorKRwStrongSpec4
set_option linter.all false
section
namespace Ab
open Go Go.Proofs
set_option maxHeartbeats 4000000
set_option linter.all false
attribute [local irreducible] AWP AOps thn inB Done d9 m5 Sub
theorem open_Visited_ok {ov : b9} {policy : List d7} {r : LL} (h : Q8 ov policy = some r) : m5 Tryz.prog 53 [.agg (tO ov), .c (row 2 e9 policy)] 1 (List.map d4 r) := by
 unfold m5
 refine FnOk.enter (rs := [.t 4]) Tryz.func53 Z Tryz.ntmps53 Tryz.results53 Z ⟨trivial, Y⟩ (by kernel_rfl) Z ?_
 unfold Q8 at h
 refine AWP.d (.f (W.box Z Z Z Z Z Z (.e Z Z (.nil (b5 (.d ?_))))))
 obtain ⟨a14, ha14, h⟩ := b7 h
 refine AWP.f (W.fieldAddr Z Z Z Z (.m Z Z Z Z Z Z (S.fresh Z Z Z Z (I7 ha14) Z Z (.frzV (id := 1) (l := a14) (env2 := [(1, .c (row 2 e9 policy)), (2, .c (.ptr 0 0 0)), (14, .c (row 1 intI a14))]) (σ2 := [.one (.cells 4 [(tO ov)]), .dead]) Z Z (by exact ⟨⟨_, Z, .inl ⟨Z, Z⟩⟩, ⟨_, Z, .inl ⟨Z, Z⟩⟩, ⟨_, Z, .inr ⟨_, Z, Z, Z⟩⟩, Y⟩) Z (by exact ⟨⟨Z, .inl ⟨Z, Z⟩, .inl ⟨Z, Z⟩, .inl ⟨Z, Z⟩, .inl ⟨Z, Z⟩, Y⟩, trivial, Y⟩) (S.lit (f := d4) (l := [a14]) (ess := [[row 1 intI a14]]) Z Z Z Z Z Z Z ⟨⟨.inl Z, Y⟩, Y⟩ Z Z Z (.e Z Z (.nil (b5 (.d (.d (.f (.e Z Z (.nil (b5 (.l ?_)))))))))))))))
 obtain ⟨c5, ho1, h⟩ := b7 h
 refine AWP.loopS ho1 (fun (c3, atv4) => ⟨[(1, .c (row 2 e9 policy)), (2, .c (.ptr 0 0 0)), (5, .c (.own 2 0 c3.length)), (6, .c (int atv4))], [.one (.cells 4 [(tO ov)]), .dead, .one (vec 1 d4 c3)]⟩) (fun c5 e st => e = .exit 0 ∧ Sub [] st ⟨[(5, .c (.own 2 0 c5.length))], [.dead, .dead, .one (vec 1 d4 c5)]⟩) ?_ ?_ ?_
 ·try dsimp only
  exact Sub.env ⟨Z, Z, Z, Z, Y⟩
 ·intro s o h
  obtain ⟨c3, atv4⟩ := s
  unfold P1 at h
  try dsimp only at h ⊢
  refine AWP.d (.d (.f (.a Z Z (.a Z Z (S.lenO Z Z Z (fun hl18 => .j Z Z Z (.nil (b5 (.ite Z h (fun hc6 h => ?_) (fun hc6 h => ?_))))))))))
  ·refine AWP.skip (b5 ?_)
   obtain ⟨c7, hx8, h⟩ := b7 h
   refine AWP.seqJ (⟨[(1, .c (row 2 e9 policy)), (2, .c (.ptr 0 0 0)), (5, .c (.own 2 0 c7.length)), (6, .c (int atv4))], [.one (.cells 4 [(tO ov)]), .dead, .one (vec 1 d4 c7)]⟩) ?_ ?_
   ·refine AWP.l (.d ?_)
    obtain ⟨a25, ha25, a27, ha27, hx8⟩ := b2 hx8
    refine AWP.f (.a Z Z (.a Z Z (.a Z Z (S.idxO ha25 Z Z Z Z Z (S.loadO ha25 Z Z Z Z Z (.k Z Z Z Z (Y3 ha27) Z (.e Z Z (.nil (b5 (.d ?_))))))))))
    obtain ⟨t9, hx10, hx8⟩ := b7 hx8
    refine AWP.seqJ (⟨[(1, .c (row 2 e9 policy)), (2, .c (.ptr 0 0 0)), (5, .c (.own 2 0 c3.length)), (6, .c (int atv4)), (7, .c (int a27)), (38, .c (bool t9))], [.one (.cells 4 [(tO ov)]), .dead, .one (vec 1 d4 c3)]⟩) ?_ ?_
    ·rcases bft (decide (a27 < 0)) with hb11 | hb11
     ·replace hx10 := B4 hb11 hx10
      refine AWP.drawI mixed Z ?_
      refine g9.consF Z (fun E => AOps.a Z Z (.nil ⟨Z, Z⟩)) Z (.consF Z (fun E => AOps.j Z Z Z (.nil ⟨Z, Z⟩)) Z (.consF Z (fun E => AOps.a Z Z (.nil ⟨Z, Z⟩)) Z (.consF Z (fun E => AOps.i Z Z Z hb11 (.nil ⟨Z, Z⟩)) Z (.consF Z (fun E => AOps.i Z Z Z hb11 (.nil ⟨Z, Z⟩)) Z (.consF Z (fun E => AOps.i Z Z Z hb11 (.nil ⟨Z, Z⟩)) Z (.consF Z (fun E => AOps.i Z Z Z hb11 (.nil ⟨Z, Z⟩)) Z (.consF Z (fun E => AOps.i Z Z Z hb11 (.nil ⟨Z, Z⟩)) Z (.consF Z (fun E => AOps.i Z Z Z hb11 (.nil ⟨Z, Z⟩)) Z (.consF Z (fun E => AOps.i Z Z Z hb11 (.nil ⟨Z, Z⟩)) Z (.consF Z (fun E => AOps.o Z hb11 Z Z (.nil ⟨Z, Z⟩)) Z ?_))))))))))
      refine g9.done ?_
      dsimp only [i9]
      obtain rfl := oi hx10
      refine b5 (Sub.env ⟨Z, Z, Z, Z, Z, Z, Y⟩)
     ·replace hx10 := B5 hb11 hx10
      obtain ⟨a33, ha33, a37, ha37, hx10⟩ := b2 hx10
      refine AWP.drawI mixed Z ?_
      refine g9.consF Z (fun E => AOps.a Z Z (.nil ⟨Z, Z⟩)) Z (.consF Z (fun E => AOps.j Z Z Z (.nil ⟨Z, Z⟩)) Z (.consF Z (fun E => AOps.a Z Z (.nil ⟨Z, Z⟩)) Z (.consF Z (fun E => AOps.g Z Z Z hb11 (.a Z Z (.nil ⟨Z, Z⟩))) Z (.consF Z (fun E => AOps.g Z Z Z hb11 (.a Z Z (.nil ⟨Z, Z⟩))) Z (.consF Z (fun E => AOps.g Z Z Z hb11 (S.idxO ha33 Z Z Z Z Z (.nil ⟨Z, Z⟩))) Z (.consF Z (fun E => AOps.g Z Z Z hb11 (S.loadO ha33 Z Z Z Z Z (.nil ⟨Z, Z⟩))) Z (.consF Z (fun E => AOps.g Z Z Z hb11 (W.fieldAddr Z Z Z Z (.nil ⟨Z, Z⟩))) Z (.consF Z (fun E => AOps.g Z Z Z hb11 (.m Z Z Z Z Z Z (.nil ⟨Z, Z⟩))) Z (.consF Z (fun E => AOps.g Z Z Z hb11 (.k Z Z Z Z (B1 ha37) Z (.nil ⟨Z, Z⟩))) Z (.consF Z (fun E => AOps.n Z hb11 Z Z (.nil ⟨Z, Z⟩)) Z ?_))))))))))
      refine g9.done ?_
      dsimp only [i9]
      obtain rfl := oi hx10
      refine b5 (Sub.env ⟨Z, Z, Z, Z, Z, Z, Y⟩)
    ·refine AWP.s Z hx8 (fun hc12 hx8 => ?_) (fun hc12 hx8 => ?_)
     ·refine AWP.exit (d6 (f9 ?_))
      obtain rfl := oi hx8
      refine b5 (Sub.env ⟨Z, Z, Z, Z, Y⟩)
     ·refine AWP.skip (b5 (.d ?_))
      obtain ⟨a43, ha43, a46, ha46, hx8⟩ := b2 hx8
      refine AWP.drawI mixed Z ?_
      refine g9.consF Z (fun E => W.loadAgg Z Z Z Z Z Z Z (.nil ⟨Z, Z⟩)) Z (.consF Z (fun E => AOps.a Z Z (.nil ⟨Z, Z⟩)) Z (.consF Z (fun E => AOps.a Z Z (.nil ⟨Z, Z⟩)) Z (.consF Z (fun E => S.idxO ha43 Z Z Z Z Z (.nil ⟨Z, Z⟩)) Z (.consF Z (fun E => S.loadO ha43 Z Z Z Z Z (.nil ⟨Z, Z⟩)) Z (.consF Z (fun E => AOps.a Z Z (.nil ⟨Z, Z⟩)) Z (.consF Z (fun E => AOps.k Z Z Z Z (P0 ha46) Z (.nil ⟨Z, Z⟩)) Z (.consF Z (fun E => AOps.a Z Z (.nil ⟨Z, Z⟩)) Z (.consF Z (fun E => AOps.w Z Z Z (.nil ⟨Z, Z⟩)) Z (.consF Z (fun E => AOps.w Z Z Z (.nil ⟨Z, Z⟩)) Z (.consF Z (fun E => AOps.e Z Z (.nil ⟨Z, Z⟩)) Z (.consF Z (fun E => AOps.e Z Z (.nil ⟨Z, Z⟩)) Z ?_)))))))))))
      refine g9.done ?_
      dsimp only [i9]
      refine b5 (.d (.f (.a Z Z (S.len Z Z (fun hl50 => .a Z Z (.nil (b5 (.l ?_))))))))
      obtain ⟨c13, ho2, hx8⟩ := b7 hx8
      refine AWP.forS ho2 (fun t14 c13 => ⟨[(1, .c (row 2 e9 policy)), (2, .c (.ptr 0 0 0)), (5, .c (.own 2 0 c13.length)), (6, .c (int atv4)), (49, .c (row 1 d4 a46.1)), (50, .c (int (a46.1.length : Int))), (51, .c (int t14))], [.one (.cells 4 [(tO ov)]), .dead, .one (vec 1 d4 c13)]⟩) (fun c13 e st => e = .exit 2 ∧ Sub [] st ⟨[(1, .c (row 2 e9 policy)), (2, .c (.ptr 0 0 0)), (5, .c (.own 2 0 c13.length)), (6, .c (int atv4))], [.one (.cells 4 [(tO ov)]), .dead, .one (vec 1 d4 c13)]⟩) ?_ ?_ ?_ ?_
      ·try dsimp only
       exact Sub.env ⟨Z, Z, Z, Z, Z, Z, Z, Y⟩
      ·intro t14 c13 hlot14 hltt14 _
       try dsimp only
       refine AWP.d (.f (.j Z Z Z (.nil (b5 (.d (.q Z hltt14 (.exit (d6 (d6 ⟨Z, ?_⟩)))))))))
       exact Sub.env ⟨Z, Z, Z, Z, Y⟩
      ·intro t14 c13 o hlot14 hltt14 h
       unfold K6 at h
       try dsimp only at h ⊢
       refine AWP.d (.f (.j Z Z Z (.nil (b5 (.d (.r Z hltt14 (.skip (b5 ?_))))))))
       obtain ⟨c15, hx16, h⟩ := b7 h
       refine AWP.seqJ (⟨[(1, .c (row 2 e9 policy)), (2, .c (.ptr 0 0 0)), (5, .c (.own 5 0 c15.length)), (6, .c (int atv4)), (49, .c (row 1 d4 a46.1)), (50, .c (int (a46.1.length : Int))), (51, .c (int t14))], [.one (.cells 4 [(tO ov)]), .dead, .dead, .dead, .dead, .one (vec 1 d4 c15)]⟩) ?_ ?_
       ·refine AWP.l (.d ?_)
        obtain ⟨a53, ha53, hx16⟩ := b7 hx16
        refine AWP.f (S.idx ha53 Z Z Z Z (.p Z Z Z Z (W.alloc Z Z Z Z (W.store Z Z Z Z Z (.nil (b5 (.d ?_)))))))
        obtain ⟨a57, ha57, hx16⟩ := b7 hx16
        refine AWP.f (.a Z Z (.makeFunc Z Z (.y Z Z (.cons (.c (.own Z Z)) (.cons (.c (.fn (.cons (.ptr (es := [.sl 1 (List.map intI a53)]) Z Z (.cons .imm .nil)) .nil))) .nil)) Z (Y0 Z (fun hy => ak4 hy) ha57) Z ?_)))
        refine AOps.v Z Z (.nil (b5 (.s Z hx16 (fun hc17 hx16 => ?_) (fun hc17 hx16 => ?_))))
        ·obtain ⟨a62, ha62, hx16⟩ := b7 hx16
         refine AWP.f (.a Z Z (.m Z Z Z Z Z Z (S.lit (f := d4) (l := [a53]) (ess := [[row 1 intI a53]]) Z Z Z Z Z Z Z ⟨⟨.inl Z, Y⟩, Y⟩ Z Z Z (S.append (f := d4) ha62 Z Z Z Z Z Z (.own Z Z) Z Z Z Z (.e Z Z (.nil (d5 ?_)))))))
         obtain rfl := oi hx16
         refine b5 (Sub.cut ⟨Z, Z, Z, Z, Z, Z, Z, Y⟩ Z ⟨.one Z, .dead, .dead, .dead, .dead, .vec, Y⟩ Z)
        ·refine AWP.skip (d5 ?_)
         obtain rfl := oi hx16
         refine b5 ((Sub.move (env' := [(1, .c (row 2 e9 policy)), (2, .c (.ptr 0 0 0)), (5, .c (.own 5 0 c13.length)), (6, .c (int atv4)), (49, .c (row 1 d4 a46.1)), (50, .c (int (a46.1.length : Int))), (51, .c (int t14))]) (σ' := [.one (.cells 4 [(tO ov)]), .dead, .dead, .one (.cells 1 [[row 1 intI a53]]), .dead, .one (vec 1 d4 c13)]) 5 2 Z Z Z ⟨Z, Z, Z, Z, Z, Z, Z, Y⟩ Z ⟨⟨Z, Z⟩, trivial, trivial, ⟨Z, Z⟩, trivial, ⟨Blk.im_ok _ _ _, k7 Z⟩, Y⟩).trans (Sub.cut ⟨Z, Z, Z, Z, Z, Z, Z, Y⟩ Z ⟨.one Z, .dead, .dead, .dead, .dead, .vec, Y⟩ Z))
       ·refine AWP.f (.add Z Z Z (by omega) (.a Z Z (.nil ?_)))
        obtain rfl := oi h
        refine b5 ((Sub.move (env' := [(1, .c (row 2 e9 policy)), (2, .c (.ptr 0 0 0)), (5, .c (.own 2 0 c15.length)), (6, .c (int atv4)), (49, .c (row 1 d4 a46.1)), (50, .c (int (a46.1.length : Int))), (51, .c (int (t14 + 1)))]) (σ' := [.one (.cells 4 [(tO ov)]), .dead, .one (vec 1 d4 c15), .dead, .dead]) 2 5 Z Z Z ⟨Z, Z, Z, Z, Z, Z, Z, Y⟩ Z ⟨⟨Z, Z⟩, trivial, ⟨Blk.im_ok _ _ _, k7 Z⟩, trivial, trivial, Y⟩).trans (Sub.cut ⟨Z, Z, Z, Z, Z, Z, Z, Y⟩ Z ⟨.one Z, .dead, .vec, Y⟩ Z))
      ·intro e s hq
       obtain ⟨rfl, hs⟩ := hq
       refine ⟨_, hs, ?_⟩
       refine f9 (d5 ?_)
       obtain rfl := oi hx8
       refine b5 (Sub.env ⟨Z, Z, Z, Z, Y⟩)
   ·refine AWP.f (.a Z Z (S.add Z Z Z (.e Z Z (.nil ?_))))
    obtain rfl := oi h
    refine b5 ⟨_, Z, ?_⟩
    exact Sub.env ⟨Z, Z, Z, Z, Y⟩
  ·refine AWP.exit (d6 ?_)
   obtain rfl := oi h
   refine d6 ⟨_, Z, Z, ?_⟩
   exact Sub.cut ⟨Z, Y⟩ Z ⟨.dead, .dead, .vec, Y⟩ Z
 ·intro e s hq
  obtain ⟨rfl, hs⟩ := hq
  refine ⟨_, hs, ?_⟩
  refine f9 (b5 (.d ?_))
  obtain ⟨a65, ha65, h⟩ := b7 h
  refine AWP.f (.a Z Z (.callF (r2 := .c (.own 4 0 a65.length)) (σ'' := [.dead, .dead, .dead, .dead, .one (vec 1 d4 a65)]) Z Z Z (FnOk.lend [2] (P8 ha65) Z Z Z Z Z Z (by exact ⟨.vec, Y⟩) Z (by exact ⟨(.live Z .vec), Y⟩) Z Z (by exact ⟨.dead, .dead, .dead, .dead, (.new 2 Z Z .vec), Y⟩)) (.e Z Z (.nil (b5 (.ret ?_))))))
  obtain rfl := oi h
  exact Done.ret Z (Fresh.mk Z Z)
theorem ad5 {sv : List Int} {v : Int} {r : Int} (h : G8 sv v = some r) : d9 Tryz.prog 85 [.c (row 1 intI sv), .c (int v)] (.c (int r)) := by
 unfold d9
 refine FnOk.enter (rs := [.t 4]) Tryz.func85 Z Tryz.ntmps85 Tryz.results85 Z ⟨trivial, Y⟩ (by kernel_rfl) Z ?_
 unfold G8 at h
 refine AWP.d (.f (.e Z Z (.nil (b5 (.d (.d (.f (.a Z Z (S.len Z Z (fun hl7 => .a Z Z (.nil (b5 (.l ?_)))))))))))))
 obtain ⟨oo, ho1, h⟩ := b7 h
 refine AWP.rngS ho1 (fun t3 _ => ⟨[(0, .c (row 1 intI sv)), (1, .c (int v)), (7, .c (int (sv.length : Int))), (8, .c (int t3))], []⟩) (fun o e st => match o with | .inl _ => e = .exit 0 ∧ Sub [] st ⟨[], []⟩ | .inr x => e = .ret ∧ Done [.t 4] (fun t _ => t = .c (int x)) .ret st) ?_ ?_ ?_ ?_
 ·try dsimp only
  exact Sub.env ⟨Z, Z, Z, Z, Y⟩
 ·intro t3 s hlot3 hltt3 _
  try dsimp only
  refine AWP.d (.f (.j Z Z Z (.nil (b5 (.d (.q Z hltt3 (.exit (d6 (d6 ⟨Z, ?_⟩)))))))))
  exact Sub.env trivial
 ·intro t3 s o hlot3 hltt3 h
  unfold D7 at h
  try dsimp only at h ⊢
  refine AWP.d (.f (.j Z Z Z (.nil (b5 (.d (.r Z hltt3 (.skip (b5 (.d (.l (.d (.f (.a Z Z (.e Z Z (.nil (b5 (.d ?_)))))))))))))))))
  obtain ⟨a14, ha14, h⟩ := b7 h
  refine AWP.f (.a Z Z (.a Z Z (.a Z Z (S.idx ha14 Z Z Z Z (.p Z Z Z Z (.u Z Z Z (.nil (b5 (.ite Z h (fun hc4 h => ?_) (fun hc4 h => ?_))))))))))
  ·refine AWP.d (.f (.a Z Z (.e Z Z (.nil (b5 (.ret (g7 (d8 ?_))))))))
   obtain rfl := oi h
   refine d8 ⟨_, Z, Z, ?_⟩
   exact Done.ret Z Z
  ·refine AWP.skip (d5 (b5 (.f (.add Z Z Z (by omega) (.a Z Z (.nil ?_))))))
   obtain rfl := oi h
   refine b5 ⟨_, Z, ?_⟩
   exact Sub.env ⟨Z, Z, Z, Z, Y⟩
 ·intro e s hq
  rcases oo with u | x
  ·try dsimp only at h hq
   obtain ⟨rfl, hs⟩ := hq
   refine ⟨_, hs, ?_⟩
   refine f9 (b5 (.d (.f (.e Z Z (.nil (b5 (.ret ?_)))))))
   obtain rfl := oi h
   exact Done.ret Z Z
  ·try dsimp only at h hq
   obtain ⟨rfl, hs⟩ := hq
   refine ⟨_, Sub.refl _ _, ?_⟩
   refine g7 (d8 ?_)
   obtain rfl := oi h
   exact hs
theorem aa7 {sv : List Int} {v : Int} {r : Bool} (h : y6 sv v = some r) : d9 Tryz.prog 57 [.c (row 1 intI sv), .c (int v)] (.c (bool r)) := by
 unfold d9
 refine FnOk.enter (rs := [.t 4]) Tryz.func57 Z Tryz.ntmps57 Tryz.results57 Z ⟨trivial, Y⟩ (by kernel_rfl) Z ?_
 unfold y6 at h
 refine AWP.d (.f (.e Z Z (.nil (b5 (.d ?_)))))
 obtain ⟨a7, ha7, h⟩ := b7 h
 refine AWP.f (.a Z Z (.a Z Z (.k Z Z Z Z (ad5 ha7) Z (.geq Z Z Z (.e Z Z (.nil (b5 (.ret ?_))))))))
 obtain rfl := oi h
 exact Done.ret Z Z
theorem strong_Check_ok {ov : b9} {policy : List d7} {r : Int × Bool × k6} (h : H6 ov policy = some r) : d9 Tryz.prog 20 [.agg (tO ov), .c (row 2 e9 policy)] (.tup [.c (int r.1), .c (bool r.2.1), .agg [int r.2.2.code, int r.2.2.index]]) := by
 unfold d9
 refine FnOk.enter (rs := [.t 4, .t 5, .cell 6 28 2]) Tryz.func20 Z Tryz.ntmps20 Tryz.results20 Z ⟨trivial, trivial, rv _ Z, Y⟩ (by kernel_rfl) Z ?_
 unfold H6 at h
 refine AWP.d (.f (W.box Z Z Z Z Z Z (.e Z Z (.e Z Z (W.alloc Z Z Z Z (.nil (b5 (.d (.d ?_)))))))))
 obtain ⟨a18, ha18, h⟩ := b7 h
 refine AWP.f (W.loadAgg Z Z Z Z Z Z Z (.a Z Z (.k Z Z Z Z (ae9 ha18) Z (W.alloc Z Z Z Z (W.storeAgg Z Z Z Z Z Z Z (.nil (b5 (.d (.f (W.loadAgg Z Z Z Z Z Z Z (W.build Z Z Z Z (.neqP Z Z Z Z Z Z Z (.nil (b5 (.s Z h (fun hc3 h => ?_) (fun hc3 h => ?_))))))))))))))))
 ·refine AWP.d (.drawEI [3] mixed Z Z Z ?_)
  refine g8.consN Z Z (fun E => W.loadAgg Z Z Z Z Z Z Z (.nil ⟨Z, Z⟩)) Z (.consN Z Z (fun E => AOps.e Z Z (.nil ⟨Z, Z⟩)) Z (.consN Z Z (fun E => AOps.e Z Z (.nil ⟨Z, Z⟩)) Z ?_))
  apply g8.consE (v := .undef); exact Z; exact Z; intro E
  refine W.storeAgg Z Z Z Z Z Z Z (.nil ⟨Z, Z⟩)
  exact Z
  exact Z
  refine g8.done Z ?_ ?_
  ·refine e8.cons Z Z ?_ ?_
   refine b8.go Z Z (fun E => W.loadAgg Z Z Z Z Z Z Z (AOps.nil ⟨Z, Z⟩)) ?_
   refine b8.skip Z (b8.nil)
   refine e8.cons Z Z ?_ ?_
   refine b8.go Z Z (fun E => AOps.e Z Z (AOps.nil ⟨Z, Z⟩)) ?_
   refine b8.skip Z (b8.nil)
   refine e8.cons Z Z ?_ ?_
   refine b8.go Z Z (fun E => AOps.e Z Z (AOps.nil ⟨Z, Z⟩)) ?_
   refine b8.skip Z (b8.nil)
   refine e8.skip Z (e8.nil)
  dsimp only [i9]
  refine b5 (.ret (d8 ?_))
  obtain rfl := oi h
  exact Done.ret Z Z
 ·refine AWP.skip (b5 (.d ?_))
  obtain ⟨a25, ha25, h⟩ := b7 h
  refine AWP.f (W.loadAgg Z Z Z Z Z Z Z (.a Z Z (S.fresh Z Z Z Z (open_Visited_ok ha25) Z Z (.e Z Z (.nil (b5 (.d ?_)))))))
  obtain ⟨a28, ha28, h⟩ := b7 h
  refine AWP.f (.a Z Z (S.lenO Z Z Z (fun hl27 => S.make (f := intI) ha28 (.val .nil) Z Z Z Z Z Z (.e Z Z (.nil (b5 (.d (.d (.f (.a Z Z (S.lenO Z Z Z (fun hl30 => .a Z Z (.nil (b5 (.l ?_)))))))))))))))
  obtain ⟨c4, ho1, h⟩ := b7 h
  refine AWP.forS ho1 (fun t5 c4 => ⟨[(1, .c (row 2 e9 policy)), (2, .c (.ptr 0 0 0)), (6, .c (.ptr 1 0 0)), (8, .c (.own 3 0 a25.length)), (9, .c (.own 4 0 c4.length)), (29, .c (.own 3 0 a25.length)), (30, .c (int (a25.length : Int))), (31, .c (int t5))], [.one (.cells 4 [(tO ov)]), .one (.cells 2 [[int 0, int 0]]), .dead, .one (vec 1 d4 a25), .one (vec 1 intI c4)]⟩) (fun c4 e st => e = .exit 0 ∧ Sub [] st ⟨[(1, .c (row 2 e9 policy)), (2, .c (.ptr 0 0 0)), (6, .c (.ptr 1 0 0)), (8, .c (.own 3 0 a25.length)), (9, .c (.own 4 0 c4.length))], [.one (.cells 4 [(tO ov)]), .one (.cells 2 [[int 0, int 0]]), .dead, .one (vec 1 d4 a25), .one (vec 1 intI c4)]⟩) ?_ ?_ ?_ ?_
  ·try dsimp only
   exact Sub.cut ⟨Z, Z, Z, Z, Z, Z, Z, Z, Y⟩ Z ⟨.one Z, .one Z, .dead, .vec, .vec, Y⟩ Z
  ·intro t5 c4 hlot5 hltt5 _
   try dsimp only
   refine AWP.d (.f (.j Z Z Z (.nil (b5 (.d (.q Z hltt5 (.exit (d6 (d6 ⟨Z, ?_⟩)))))))))
   exact Sub.env ⟨Z, Z, Z, Z, Z, Y⟩
  ·intro t5 c4 o hlot5 hltt5 h
   unfold J9 at h
   try dsimp only at h ⊢
   refine AWP.d (.f (.j Z Z Z (.nil (b5 (.d (.r Z hltt5 (.skip (b5 ?_))))))))
   obtain ⟨c6, hx7, h⟩ := b7 h
   refine AWP.seqJ (⟨[(1, .c (row 2 e9 policy)), (2, .c (.ptr 0 0 0)), (6, .c (.ptr 1 0 0)), (8, .c (.own 3 0 a25.length)), (9, .c (.own 4 0 c6.length)), (29, .c (.own 3 0 a25.length)), (30, .c (int (a25.length : Int))), (31, .c (int t5))], [.one (.cells 4 [(tO ov)]), .one (.cells 2 [[int 0, int 0]]), .dead, .one (vec 1 d4 a25), .one (vec 1 intI c6)]⟩) ?_ ?_
   ·refine AWP.l (.d ?_)
    obtain ⟨a34, ha34, hx7⟩ := b7 hx7
    refine AWP.f (.a Z Z (S.idxO ha34 Z Z Z Z Z (S.loadO ha34 Z Z Z Z Z (.e Z Z (.e Z Z (.nil (b5 (.d ?_))))))))
    obtain ⟨a39, ha39, hx7⟩ := b7 hx7
    refine AWP.f (.a Z Z (W.fieldAddr Z Z Z Z (.m Z Z Z Z Z Z (.k Z Z Z Z (B1 ha39) Z (.v Z Z (.nil (b5 (.s Z hx7 (fun hc8 hx7 => ?_) (fun hc8 hx7 => ?_)))))))))
    ·obtain ⟨a43, ha43, hx7⟩ := b7 hx7
     refine AWP.f (.a Z Z (.a Z Z (S.idxO ha43 Z Z Z Z Z (S.storeO1 (f := intI) (a' := -1) (ix_lt ha43) (fun _ => ⟨_, Z⟩) Z Z Z Z Z ?_))))
     refine AOps.nil (d5 ?_)
     obtain rfl := oi hx7
     refine b5 (Sub.env ⟨Z, Z, Z, Z, (x8 (by first | rfl | simp only [List.length_set])), Z, Z, Z, Y⟩)
    ·refine AWP.skip (d5 ?_)
     obtain rfl := oi hx7
     refine b5 (Sub.env ⟨Z, Z, Z, Z, Z, Z, Z, Z, Y⟩)
   ·refine AWP.f (.add Z Z Z (by omega) (.a Z Z (.nil ?_)))
    obtain rfl := oi h
    refine b5 (Sub.env ⟨Z, Z, Z, Z, Z, Z, Z, Z, Y⟩)
  ·intro e s hq
   obtain ⟨rfl, hs⟩ := hq
   refine ⟨_, hs, ?_⟩
   refine f9 (b5 (.d (.d (.f (.a Z Z (S.lenO Z Z Z (fun hl46 => .a Z Z (.nil (b5 (.l ?_))))))))))
   obtain ⟨c9, ho2, h⟩ := b7 h
   refine AWP.forS ho2 (fun t10 c9 => ⟨[(1, .c (row 2 e9 policy)), (2, .c (.ptr 0 0 0)), (6, .c (.ptr 1 0 0)), (8, .c (.own 3 0 a25.length)), (9, .c (.own 4 0 c9.length)), (46, .c (int (a25.length : Int))), (47, .c (int t10))], [.one (.cells 4 [(tO ov)]), .one (.cells 2 [[int 0, int 0]]), .dead, .one (vec 1 d4 a25), .one (vec 1 intI c9)]⟩) (fun c9 e st => e = .exit 2 ∧ Sub [] st ⟨[(2, .c (.ptr 0 0 0)), (6, .c (.ptr 1 0 0)), (8, .c (.own 3 0 a25.length)), (9, .c (.own 4 0 c9.length))], [.one (.cells 4 [(tO ov)]), .one (.cells 2 [[int 0, int 0]]), .dead, .one (vec 1 d4 a25), .one (vec 1 intI c9)]⟩) ?_ ?_ ?_ ?_
   ·try dsimp only
    exact Sub.env ⟨Z, Z, Z, Z, Z, Z, Z, Y⟩
   ·intro t10 c9 hlot10 hltt10 _
    try dsimp only
    refine AWP.d (.f (.j Z Z Z (.nil (b5 (.d (.q Z hltt10 (.exit (d6 (d6 ⟨Z, ?_⟩)))))))))
    exact Sub.env ⟨Z, Z, Z, Z, Y⟩
   ·intro t10 c9 o hlot10 hltt10 h
    unfold K0 at h
    try dsimp only at h ⊢
    refine AWP.d (.f (.j Z Z Z (.nil (b5 (.d (.r Z hltt10 (.skip (b5 (.d (.l (.d (.f (.a Z Z (S.lenO Z Z Z (fun hl50 => .a Z Z (.nil (b5 (.l ?_))))))))))))))))))
    obtain ⟨c11, ho3, h⟩ := b7 h
    refine AWP.forS ho3 (fun t12 c11 => ⟨[(1, .c (row 2 e9 policy)), (2, .c (.ptr 0 0 0)), (6, .c (.ptr 1 0 0)), (8, .c (.own 3 0 a25.length)), (9, .c (.own 4 0 c11.length)), (46, .c (int (a25.length : Int))), (47, .c (int t10)), (49, .c (.own 3 0 a25.length)), (50, .c (int (a25.length : Int))), (51, .c (int t12))], [.one (.cells 4 [(tO ov)]), .one (.cells 2 [[int 0, int 0]]), .dead, .one (vec 1 d4 a25), .one (vec 1 intI c11)]⟩) (fun c11 e st => e = .exit 4 ∧ Sub [] st ⟨[(1, .c (row 2 e9 policy)), (2, .c (.ptr 0 0 0)), (6, .c (.ptr 1 0 0)), (8, .c (.own 3 0 a25.length)), (9, .c (.own 4 0 c11.length)), (46, .c (int (a25.length : Int))), (47, .c (int t10))], [.one (.cells 4 [(tO ov)]), .one (.cells 2 [[int 0, int 0]]), .dead, .one (vec 1 d4 a25), .one (vec 1 intI c11)]⟩) ?_ ?_ ?_ ?_
    ·try dsimp only
     exact Sub.env ⟨Z, Z, Z, Z, Z, Z, Z, Z, Z, Z, Y⟩
    ·intro t12 c11 hlot12 hltt12 _
     try dsimp only
     refine AWP.d (.f (.j Z Z Z (.nil (b5 (.d (.q Z hltt12 (.exit (d6 (d6 ⟨Z, ?_⟩)))))))))
     exact Sub.env ⟨Z, Z, Z, Z, Z, Z, Z, Y⟩
    ·intro t12 c11 o hlot12 hltt12 h
     unfold J3 at h
     try dsimp only at h ⊢
     refine AWP.d (.f (.j Z Z Z (.nil (b5 (.d (.r Z hltt12 (.skip (b5 ?_))))))))
     obtain ⟨c13, hx14, h⟩ := b7 h
     refine AWP.seqJ (⟨[(1, .c (row 2 e9 policy)), (2, .c (.ptr 0 0 0)), (6, .c (.ptr 1 0 0)), (8, .c (.own 3 0 a25.length)), (9, .c (.own 4 0 c13.length)), (46, .c (int (a25.length : Int))), (47, .c (int t10)), (49, .c (.own 3 0 a25.length)), (50, .c (int (a25.length : Int))), (51, .c (int t12))], [.one (.cells 4 [(tO ov)]), .one (.cells 2 [[int 0, int 0]]), .dead, .one (vec 1 d4 a25), .one (vec 1 intI c13)]⟩) ?_ ?_
     ·refine AWP.l (.d ?_)
      obtain ⟨a54, ha54, hx14⟩ := b7 hx14
      refine AWP.f (.a Z Z (S.idxO ha54 Z Z Z Z Z (S.loadO ha54 Z Z Z Z Z (.e Z Z (.e Z Z (.nil (b5 (.d ?_))))))))
      obtain ⟨a58, ha58, hx14⟩ := b7 hx14
      refine AWP.f (.a Z Z (.a Z Z (.k Z Z Z Z (Y3 ha58) Z (.e Z Z (.nil (b5 (.d ?_)))))))
      obtain ⟨a61, ha61, hx14⟩ := b7 hx14
      refine AWP.seqJ (⟨[(1, .c (row 2 e9 policy)), (2, .c (.ptr 0 0 0)), (6, .c (.ptr 1 0 0)), (8, .c (.own 3 0 a25.length)), (9, .c (.own 4 0 c11.length)), (12, .c (int t12)), (13, .c (row 1 intI a54)), (14, .c (int a58)), (46, .c (int (a25.length : Int))), (47, .c (int t10)), (49, .c (.own 3 0 a25.length)), (50, .c (int (a25.length : Int))), (51, .c (int t12)), (67, .c (bool ((decide (0 ≤ a61)) || (decide (a58 < 0)))))], [.one (.cells 4 [(tO ov)]), .one (.cells 2 [[int 0, int 0]]), .dead, .one (vec 1 d4 a25), .one (vec 1 intI c11)]⟩) ?_ ?_
      ·rcases bft (decide (0 ≤ a61)) with hb1 | hb1
       ·refine AWP.f (.a Z Z (.a Z Z (S.idxO ha61 Z Z Z Z Z (S.loadO ha61 Z Z Z Z Z (.geq Z Z Z (.a Z Z (.i Z Z Z hb1 (.i Z Z Z hb1 (.o Z hb1 Z Z (.nil (b5 ?_)))))))))))
        simp only [T4 hb1, or_t hb1, Bool.false_or, Bool.true_or, Bool.false_and, Bool.true_and]
        exact Sub.env ⟨Z, Z, Z, Z, Z, Z, Z, Z, Z, Z, Z, Z, Z, Z, Y⟩
       ·refine AWP.f (.a Z Z (.a Z Z (S.idxO ha61 Z Z Z Z Z (S.loadO ha61 Z Z Z Z Z (.geq Z Z Z (.a Z Z (.g Z Z Z hb1 (.a Z Z (.g Z Z Z hb1 (.j Z Z Z (.n Z hb1 Z Z (.nil (b5 ?_)))))))))))))
        simp only [and_f hb1, or_f hb1, Bool.false_or, Bool.true_or, Bool.false_and, Bool.true_and]
        exact Sub.env ⟨Z, Z, Z, Z, Z, Z, Z, Z, Z, Z, Z, Z, Z, Z, Y⟩
      ·refine AWP.s Z hx14 (fun hc15 hx14 => ?_) (fun hc15 hx14 => ?_)
       ·refine AWP.exit (d6 (f9 ?_))
        obtain rfl := oi hx14
        refine b5 (Sub.env ⟨Z, Z, Z, Z, Z, Z, Z, Z, Z, Z, Y⟩)
       ·refine AWP.skip (b5 (.d ?_))
        obtain ⟨a73, ha73, hx14⟩ := b7 hx14
        refine AWP.f (W.loadAgg Z Z Z Z Z Z Z (.a Z Z (.a Z Z (.a Z Z (.a Z Z (.y Z Z (.cons (.agg (.cons .imm (.cons .imm (.cons .imm (.cons .imm .nil))))) (.cons (.c (.own Z Z)) (.cons (.c (.own Z Z)) (.cons (.c .imm) (.cons (.c .imm) .nil))))) Z (ae1 ha73) Z (.e Z Z (.nil (b5 (.d (.f (.a Z Z (.geq Z Z Z (.nil (b5 (.ite Z hx14 (fun hc16 hx14 => ?_) (fun hc16 hx14 => ?_)))))))))))))))))
        ·obtain ⟨a80, ha80, hx14⟩ := b7 hx14
         refine AWP.f (.a Z Z (.a Z Z (.a Z Z (S.add Z Z Z (S.idxO ha80 Z Z Z Z Z (S.storeO1 (f := intI) (a' := w64 (a73 + 1)) (ix_lt ha80) (fun _ => ⟨_, Z⟩) Z Z Z Z Z ?_))))))
         refine AOps.nil (d5 ?_)
         obtain rfl := oi hx14
         refine b5 (Sub.env ⟨Z, Z, Z, Z, (x8 (by first | rfl | simp only [List.length_set])), Z, Z, Z, Z, Z, Y⟩)
        ·refine AWP.skip (d5 ?_)
         obtain rfl := oi hx14
         refine b5 (Sub.env ⟨Z, Z, Z, Z, Z, Z, Z, Z, Z, Z, Y⟩)
     ·refine AWP.f (.add Z Z Z (by omega) (.a Z Z (.nil ?_)))
      obtain rfl := oi h
      refine b5 (Sub.env ⟨Z, Z, Z, Z, Z, Z, Z, Z, Z, Z, Y⟩)
    ·intro e s hq
     obtain ⟨rfl, hs⟩ := hq
     refine ⟨_, hs, ?_⟩
     refine f9 (d5 (b5 (.f (.add Z Z Z (by omega) (.a Z Z (.nil ?_))))))
     obtain rfl := oi h
     refine b5 (Sub.env ⟨Z, Z, Z, Z, Z, Z, Z, Y⟩)
   ·intro e s hq
    obtain ⟨rfl, hs⟩ := hq
    refine ⟨_, hs, ?_⟩
    refine f9 (b5 (.d (.d ?_)))
    obtain ⟨a84, ha84, h⟩ := b7 h
    refine AWP.f (.a Z Z (.y Z Z (.cons (.c (.own Z Z)) (.cons (.c .imm) .nil)) Z (aa7 ha84) Z (.nil (b5 (.s Z h (fun hc17 h => ?_) (fun hc17 h => ?_))))))
    ·refine AWP.d (.f (W.build Z Z Z Z (.e Z Z (.e Z Z (W.storeAgg Z Z Z Z Z Z Z (.nil (b5 (.ret (d8 ?_)))))))))
     obtain rfl := oi h
     exact Done.ret Z Z
    ·refine AWP.skip (b5 (.d ?_))
     obtain ⟨a90, ha90, a91, ha91, h⟩ := b2 h
     refine AWP.f (.a Z Z (.a Z Z (W.fieldAddr Z Z Z Z (.m Z Z Z Z Z Z (.y Z Z (.cons (.c (.own Z Z)) (.cons (.c .imm) .nil)) Z (ac7 ha90) Z (S.idxO ha91 Z Z Z Z Z (S.loadO ha91 Z Z Z Z Z (W.build Z Z Z Z (.e Z Z (.e Z Z (W.storeAgg Z Z Z Z Z Z Z (.nil (b5 (.ret ?_))))))))))))))
     obtain rfl := oi h
     exact Done.ret Z Z
theorem W1 {av : List Int} {bv : List Int} {r : Bool} (h : H1 av bv = some r) : d9 Tryz.prog 46 [.c (row 1 intI av), .c (row 1 intI bv)] (.c (bool r)) := by
 unfold d9
 refine FnOk.enter (rs := [.t 4]) Tryz.func46 Z Tryz.ntmps46 Tryz.results46 Z ⟨trivial, Y⟩ (by kernel_rfl) Z ?_
 unfold H1 at h
 refine AWP.d (.f (.e Z Z (.nil (b5 (.d (.d (.f (.a Z Z (S.len Z Z (fun hl7 => .a Z Z (S.len Z Z (fun hl9 => .neq Z Z Z (.nil (b5 (.iteN Z h (fun hc3 h => ?_) (fun hc3 h => ?_))))))))))))))))
 ·refine AWP.d (.f (.e Z Z (.nil (b5 (.ret (d8 ?_))))))
  obtain rfl := oi h
  exact Done.ret Z Z
 ·refine AWP.skip (b5 (.d (.d (.f (.e Z Z (.nil (b5 (.l ?_))))))))
  obtain ⟨oo, ho1, h⟩ := b7 h
  refine AWP.rngS ho1 (fun iv4 _ => ⟨[(0, .c (row 1 intI av)), (1, .c (row 1 intI bv)), (5, .c (int iv4))], []⟩) (fun o e st => match o with | .inl _ => e = .exit 0 ∧ Sub [] st ⟨[], []⟩ | .inr x => e = .ret ∧ Done [.t 4] (fun t _ => t = .c (bool x)) .ret st) ?_ ?_ ?_ ?_
  ·try dsimp only
   exact Sub.env ⟨Z, Z, Z, Y⟩
  ·intro iv4 s hloiv4 hltiv4 _
   try dsimp only
   refine AWP.d (.d (.f (.a Z Z (.a Z Z (S.len Z Z (fun hl13 => .j Z Z Z (.nil (b5 (.q Z hltiv4 (.exit (d6 (d6 ⟨Z, ?_⟩))))))))))))
   exact Sub.env trivial
  ·intro iv4 s o hloiv4 hltiv4 h
   unfold ac6 at h
   try dsimp only at h ⊢
   refine AWP.d (.d (.f (.a Z Z (.a Z Z (S.len Z Z (fun hl13 => .j Z Z Z (.nil (b5 (.r Z hltiv4 (.skip (b5 (.d (.l (.d ?_))))))))))))))
   obtain ⟨a19, ha19, a23, ha23, h⟩ := b2 h
   refine AWP.drawI mixed Z ?_
   refine g9.consF Z (fun E => AOps.a Z Z (.nil ⟨Z, Z⟩)) Z (.consF Z (fun E => AOps.a Z Z (.nil ⟨Z, Z⟩)) Z (.consF Z (fun E => S.idx ha19 Z Z Z Z (.nil ⟨Z, Z⟩)) Z (.consF Z (fun E => AOps.p Z Z Z Z (.nil ⟨Z, Z⟩)) Z (.consF Z (fun E => AOps.a Z Z (.nil ⟨Z, Z⟩)) Z (.consF Z (fun E => AOps.a Z Z (.nil ⟨Z, Z⟩)) Z (.consF Z (fun E => S.idx ha23 Z Z Z Z (.nil ⟨Z, Z⟩)) Z (.consF Z (fun E => AOps.p Z Z Z Z (.nil ⟨Z, Z⟩)) Z (.consF Z (fun E => AOps.neq Z Z Z (.nil ⟨Z, Z⟩)) Z ?_))))))))
   refine g9.done ?_
   dsimp only [i9]
   refine b5 (.iteN Z h (fun hc5 h => ?_) (fun hc5 h => ?_))
   ·refine AWP.d (.f (.e Z Z (.nil (b5 (.ret (g7 (d8 ?_)))))))
    obtain rfl := oi h
    refine d8 ⟨_, Z, Z, ?_⟩
    exact Done.ret Z Z
   ·refine AWP.skip (d5 (b5 (.f (.a Z Z (.add Z Z Z (by omega) (.e Z Z (.nil ?_)))))))
    obtain rfl := oi h
    refine b5 ⟨_, Z, ?_⟩
    exact Sub.env ⟨Z, Z, Z, Y⟩
  ·intro e s hq
   rcases oo with u | x
   ·try dsimp only at h hq
    obtain ⟨rfl, hs⟩ := hq
    refine ⟨_, hs, ?_⟩
    refine f9 (b5 (.d (.f (.e Z Z (.nil (b5 (.ret ?_)))))))
    obtain rfl := oi h
    exact Done.ret Z Z
   ·try dsimp only at h hq
    obtain ⟨rfl, hs⟩ := hq
    refine ⟨_, Sub.refl _ _, ?_⟩
    refine g7 (d8 ?_)
    obtain rfl := oi h
    exact hs
theorem W9 {av : List d7} {bv : List d7} {r : Bool} (h : L8 av bv = some r) : d9 Tryz.prog 18 [.c (row 2 e9 av), .c (row 2 e9 bv)] (.c (bool r)) := by
 unfold d9
 refine FnOk.enter (rs := [.t 4]) Tryz.func18 Z Tryz.ntmps18 Tryz.results18 Z ⟨trivial, Y⟩ (by kernel_rfl) Z ?_
 unfold L8 at h
 refine AWP.d (.f (.e Z Z (.nil (b5 (.d (.d (.f (.a Z Z (S.len Z Z (fun hl7 => .a Z Z (S.len Z Z (fun hl9 => .neq Z Z Z (.nil (b5 (.iteN Z h (fun hc3 h => ?_) (fun hc3 h => ?_))))))))))))))))
 ·refine AWP.d (.f (.e Z Z (.nil (b5 (.ret (d8 ?_))))))
  obtain rfl := oi h
  exact Done.ret Z Z
 ·refine AWP.skip (b5 (.d (.d (.f (.e Z Z (.nil (b5 (.l ?_))))))))
  obtain ⟨oo, ho1, h⟩ := b7 h
  refine AWP.rngS ho1 (fun iv4 _ => ⟨[(0, .c (row 2 e9 av)), (1, .c (row 2 e9 bv)), (5, .c (int iv4))], []⟩) (fun o e st => match o with | .inl _ => e = .exit 0 ∧ Sub [] st ⟨[], []⟩ | .inr x => e = .ret ∧ Done [.t 4] (fun t _ => t = .c (bool x)) .ret st) ?_ ?_ ?_ ?_
  ·try dsimp only
   exact Sub.env ⟨Z, Z, Z, Y⟩
  ·intro iv4 s hloiv4 hltiv4 _
   try dsimp only
   refine AWP.d (.d (.f (.a Z Z (.a Z Z (S.len Z Z (fun hl13 => .j Z Z Z (.nil (b5 (.q Z hltiv4 (.exit (d6 (d6 ⟨Z, ?_⟩))))))))))))
   exact Sub.env trivial
  ·intro iv4 s o hloiv4 hltiv4 h
   unfold W8 at h
   try dsimp only at h ⊢
   refine AWP.d (.d (.f (.a Z Z (.a Z Z (S.len Z Z (fun hl13 => .j Z Z Z (.nil (b5 (.r Z hltiv4 (.skip (b5 (.d (.l ?_)))))))))))))
   obtain ⟨t5, hx6, h⟩ := b7 h
   refine AWP.seqJ (⟨[(0, .c (row 2 e9 av)), (1, .c (row 2 e9 bv)), (5, .c (int iv4)), (41, .c (bool t5))], []⟩) ?_ ?_
   ·obtain ⟨a19, ha19, a24, ha24, hx6⟩ := b2 hx6
    rcases bft (!(decide (a19.operator = a24.operator))) with hb7 | hb7
    ·replace hx6 := B8 hb7 hx6
     refine AWP.drawI mixed Z ?_
     refine g9.consF Z (fun E => AOps.a Z Z (.nil ⟨Z, Z⟩)) Z (.consF Z (fun E => AOps.a Z Z (.nil ⟨Z, Z⟩)) Z (.consF Z (fun E => S.idx ha19 Z Z Z Z (.nil ⟨Z, Z⟩)) Z (.consF Z (fun E => W.fieldAddrI Z Z Z Z (.nil ⟨Z, Z⟩)) Z (.consF Z (fun E => AOps.p Z Z Z Z (.nil ⟨Z, Z⟩)) Z (.consF Z (fun E => AOps.a Z Z (.nil ⟨Z, Z⟩)) Z (.consF Z (fun E => AOps.a Z Z (.nil ⟨Z, Z⟩)) Z (.consF Z (fun E => S.idx ha24 Z Z Z Z (.nil ⟨Z, Z⟩)) Z (.consF Z (fun E => W.fieldAddrI Z Z Z Z (.nil ⟨Z, Z⟩)) Z (.consF Z (fun E => AOps.p Z Z Z Z (.nil ⟨Z, Z⟩)) Z (.consF Z (fun E => AOps.neq Z Z Z (.nil ⟨Z, Z⟩)) Z (.consF Z (fun E => AOps.a Z Z (.nil ⟨Z, Z⟩)) Z (.consF Z (fun E => AOps.i Z Z Z hb7 (.nil ⟨Z, Z⟩)) Z (.consF Z (fun E => AOps.i Z Z Z hb7 (.nil ⟨Z, Z⟩)) Z (.consF Z (fun E => AOps.i Z Z Z hb7 (.nil ⟨Z, Z⟩)) Z (.consF Z (fun E => AOps.i Z Z Z hb7 (.nil ⟨Z, Z⟩)) Z (.consF Z (fun E => AOps.i Z Z Z hb7 (.nil ⟨Z, Z⟩)) Z (.consF Z (fun E => AOps.i Z Z Z hb7 (.nil ⟨Z, Z⟩)) Z (.consF Z (fun E => AOps.i Z Z Z hb7 (.nil ⟨Z, Z⟩)) Z (.consF Z (fun E => AOps.i Z Z Z hb7 (.nil ⟨Z, Z⟩)) Z (.consF Z (fun E => AOps.i Z Z Z hb7 (.nil ⟨Z, Z⟩)) Z (.consF Z (fun E => AOps.i Z Z Z hb7 (.nil ⟨Z, Z⟩)) Z (.consF Z (fun E => AOps.i Z Z Z hb7 (.nil ⟨Z, Z⟩)) Z (.consF Z (fun E => AOps.i Z Z Z hb7 (.nil ⟨Z, Z⟩)) Z (.consF Z (fun E => AOps.o Z hb7 Z Z (.nil ⟨Z, Z⟩)) Z ?_))))))))))))))))))))))))
     refine g9.done ?_
     dsimp only [i9]
     obtain rfl := oi hx6
     refine b5 (Sub.env ⟨Z, Z, Z, Z, Y⟩)
    ·replace hx6 := B9 hb7 hx6
     obtain ⟨a31, ha31, a36, ha36, a39, ha39, hx6⟩ := b3 hx6
     refine AWP.drawI mixed Z ?_
     refine g9.consF Z (fun E => AOps.a Z Z (.nil ⟨Z, Z⟩)) Z (.consF Z (fun E => AOps.a Z Z (.nil ⟨Z, Z⟩)) Z (.consF Z (fun E => S.idx ha19 Z Z Z Z (.nil ⟨Z, Z⟩)) Z (.consF Z (fun E => W.fieldAddrI Z Z Z Z (.nil ⟨Z, Z⟩)) Z (.consF Z (fun E => AOps.p Z Z Z Z (.nil ⟨Z, Z⟩)) Z (.consF Z (fun E => AOps.a Z Z (.nil ⟨Z, Z⟩)) Z (.consF Z (fun E => AOps.a Z Z (.nil ⟨Z, Z⟩)) Z (.consF Z (fun E => S.idx ha24 Z Z Z Z (.nil ⟨Z, Z⟩)) Z (.consF Z (fun E => W.fieldAddrI Z Z Z Z (.nil ⟨Z, Z⟩)) Z (.consF Z (fun E => AOps.p Z Z Z Z (.nil ⟨Z, Z⟩)) Z (.consF Z (fun E => AOps.neq Z Z Z (.nil ⟨Z, Z⟩)) Z (.consF Z (fun E => AOps.a Z Z (.nil ⟨Z, Z⟩)) Z (.consF Z (fun E => AOps.g Z Z Z hb7 (.a Z Z (.nil ⟨Z, Z⟩))) Z (.consF Z (fun E => AOps.g Z Z Z hb7 (.a Z Z (.nil ⟨Z, Z⟩))) Z (.consF Z (fun E => AOps.g Z Z Z hb7 (S.idx ha31 Z Z Z Z (.nil ⟨Z, Z⟩))) Z (.consF Z (fun E => AOps.g Z Z Z hb7 (W.fieldAddrI Z Z Z Z (.nil ⟨Z, Z⟩))) Z (.consF Z (fun E => AOps.g Z Z Z hb7 (.p Z Z Z Z (.nil ⟨Z, Z⟩))) Z (.consF Z (fun E => AOps.g Z Z Z hb7 (.a Z Z (.nil ⟨Z, Z⟩))) Z (.consF Z (fun E => AOps.g Z Z Z hb7 (.a Z Z (.nil ⟨Z, Z⟩))) Z (.consF Z (fun E => AOps.g Z Z Z hb7 (S.idx ha36 Z Z Z Z (.nil ⟨Z, Z⟩))) Z (.consF Z (fun E => AOps.g Z Z Z hb7 (W.fieldAddrI Z Z Z Z (.nil ⟨Z, Z⟩))) Z (.consF Z (fun E => AOps.g Z Z Z hb7 (.p Z Z Z Z (.nil ⟨Z, Z⟩))) Z (.consF Z (fun E => AOps.g Z Z Z hb7 (.k Z Z Z Z (W1 ha39) Z (.nil ⟨Z, Z⟩))) Z (.consF Z (fun E => AOps.g Z Z Z hb7 (.v Z Z (.nil ⟨Z, Z⟩))) Z (.consF Z (fun E => AOps.n Z hb7 Z Z (.nil ⟨Z, Z⟩)) Z ?_))))))))))))))))))))))))
     refine g9.done ?_
     dsimp only [i9]
     obtain rfl := oi hx6
     refine b5 (Sub.env ⟨Z, Z, Z, Z, Y⟩)
   ·refine AWP.s Z h (fun hc8 h => ?_) (fun hc8 h => ?_)
    ·refine AWP.d (.f (.e Z Z (.nil (b5 (.ret (g7 (d8 ?_)))))))
     obtain rfl := oi h
     refine d8 ⟨_, Z, Z, ?_⟩
     exact Done.ret Z Z
    ·refine AWP.skip (d5 (b5 (.f (.a Z Z (.add Z Z Z (by omega) (.e Z Z (.nil ?_)))))))
     obtain rfl := oi h
     refine b5 ⟨_, Z, ?_⟩
     exact Sub.env ⟨Z, Z, Z, Y⟩
  ·intro e s hq
   rcases oo with u | x
   ·try dsimp only at h hq
    obtain ⟨rfl, hs⟩ := hq
    refine ⟨_, hs, ?_⟩
    refine f9 (b5 (.d (.f (.e Z Z (.nil (b5 (.ret ?_)))))))
    obtain rfl := oi h
    exact Done.ret Z Z
   ·try dsimp only at h hq
    obtain ⟨rfl, hs⟩ := hq
    refine ⟨_, Sub.refl _ _, ?_⟩
    refine g7 (d8 ?_)
    obtain rfl := oi h
    exact hs
theorem R7 {r : Bool} (h : G9 = some r) : d9 Tryz.prog 14 [] (.c (bool r)) := by
 unfold d9
 refine FnOk.enter (rs := [.t 0]) Tryz.func14 Z Tryz.ntmps14 Tryz.results14 Z ⟨trivial, Y⟩ (by kernel_rfl) Z ?_
 unfold G9 at h
 refine AWP.d (.f (.e Z Z (.nil (b5 (.d ?_)))))
 obtain ⟨a8, ha8, a9, ha9, h⟩ := b2 h
 refine AWP.f (.k Z Z Z Z (aj6 ha8) Z (.k Z Z Z Z (ac1 ha9) Z (.a Z Z (.w Z Z Z (.w Z Z Z (.w Z Z Z (W.alloc Z Z Z Z (.e Z Z (.e Z Z (W.storeAgg Z Z Z Z Z Z Z (.nil (b5 (.d ?_)))))))))))))
 obtain ⟨a14, ha14, a16, ha16, h⟩ := b2 h
 refine AWP.f (.k Z Z Z Z (aj6 ha14) Z (.a Z Z (.k Z Z Z Z (strong_Check_ok ha16) Z (.a Z Z (.w Z Z Z (.w Z Z Z (.w Z Z Z (W.alloc Z Z Z Z (.e Z Z (.e Z Z (W.storeAgg Z Z Z Z Z Z Z (.nil (b5 ?_)))))))))))))
 obtain ⟨t1, hx2, h⟩ := b7 h
 refine AWP.seqJ (⟨[(0, .c (bool t1))], []⟩) ?_ ?_
 ·rcases bft (decide (a9.2.2.code = 0)) with hb3 | hb3
  ·replace hx2 := B4 hb3 hx2
   rcases bft (decide (a16.2.2.code = 0)) with hb4 | hb4
   ·replace hx2 := B4 hb4 hx2
    rcases bft (a9.2.1) with hb5 | hb5
    ·replace hx2 := B8 hb5 hx2
     rcases bft (a16.2.1) with hb6 | hb6
     ·replace hx2 := B8 hb6 hx2
      rcases bft (decide (a16.1 = 1)) with hb7 | hb7
      ·replace hx2 := B4 hb7 hx2
       obtain ⟨a42, ha42, hx2⟩ := b7 hx2
       refine AWP.f (W.fieldAddr Z Z Z Z (.m Z Z Z Z Z Z (.u Z Z Z (.a Z Z (.g Z Z Z hb3 (W.fieldAddr Z Z Z Z (.g Z Z Z hb3 (.m Z Z Z Z Z Z (.g Z Z Z hb3 (.u Z Z Z (.o Z hb3 Z Z (.a Z Z (.g Z Z Z hb4 (.a Z Z (.o Z hb4 Z Z (.a Z Z (.g Z Z Z hb5 (.a Z Z (.o Z hb5 Z Z (.a Z Z (.g Z Z Z hb6 (.a Z Z (.g Z Z Z hb6 (.u Z Z Z (.o Z hb6 Z Z (.a Z Z (.g Z Z Z hb7 (.a Z Z (.g Z Z Z hb7 (W.build Z Z Z Z (.g Z Z Z hb7 (S.lit (f := e9) (l := [(⟨[], 0⟩ : d7)]) (ess := [[.imm (.val (.slice none 0 0)), int 0]]) Z Z Z Z Z Z Z ⟨⟨.inr ⟨Z, _, Z⟩, .inl Z, Y⟩, Y⟩ Z Z Z (.g Z Z Z hb7 (.y Z Z (.cons (.c .imm) (.cons (.c (.own Z Z)) .nil)) Z (W9 ha42) Z (.o Z hb7 Z Z (.e Z Z (.nil ?_)))))))))))))))))))))))))))))))))))))
       obtain rfl := oi hx2
       refine b5 (Sub.cut ⟨Z, Y⟩ Z trivial Z)
      ·replace hx2 := B5 hb7 hx2
       refine AWP.f (W.fieldAddr Z Z Z Z (.m Z Z Z Z Z Z (.u Z Z Z (.a Z Z (.g Z Z Z hb3 (W.fieldAddr Z Z Z Z (.g Z Z Z hb3 (.m Z Z Z Z Z Z (.g Z Z Z hb3 (.u Z Z Z (.o Z hb3 Z Z (.a Z Z (.g Z Z Z hb4 (.a Z Z (.o Z hb4 Z Z (.a Z Z (.g Z Z Z hb5 (.a Z Z (.o Z hb5 Z Z (.a Z Z (.g Z Z Z hb6 (.a Z Z (.g Z Z Z hb6 (.u Z Z Z (.o Z hb6 Z Z (.a Z Z (.i Z Z Z hb7 (.i Z Z Z hb7 (.i Z Z Z hb7 (.i Z Z Z hb7 (.n Z hb7 Z Z (.e Z Z (.nil ?_)))))))))))))))))))))))))))))))))
       obtain rfl := oi hx2
       refine b5 (Sub.cut ⟨Z, Y⟩ Z trivial Z)
     ·replace hx2 := B9 hb6 hx2
      refine AWP.f (W.fieldAddr Z Z Z Z (.m Z Z Z Z Z Z (.u Z Z Z (.a Z Z (.g Z Z Z hb3 (W.fieldAddr Z Z Z Z (.g Z Z Z hb3 (.m Z Z Z Z Z Z (.g Z Z Z hb3 (.u Z Z Z (.o Z hb3 Z Z (.a Z Z (.g Z Z Z hb4 (.a Z Z (.o Z hb4 Z Z (.a Z Z (.g Z Z Z hb5 (.a Z Z (.o Z hb5 Z Z (.a Z Z (.i Z Z Z hb6 (.i Z Z Z hb6 (.n Z hb6 Z Z (.a Z Z (.i Z Z Z Z (.i Z Z Z Z (.i Z Z Z Z (.i Z Z Z Z (.n Z Z Z Z (.e Z Z (.nil ?_)))))))))))))))))))))))))))))))
      obtain rfl := oi hx2
      refine b5 (Sub.cut ⟨Z, Y⟩ Z trivial Z)
    ·replace hx2 := B9 hb5 hx2
     refine AWP.f (W.fieldAddr Z Z Z Z (.m Z Z Z Z Z Z (.u Z Z Z (.a Z Z (.g Z Z Z hb3 (W.fieldAddr Z Z Z Z (.g Z Z Z hb3 (.m Z Z Z Z Z Z (.g Z Z Z hb3 (.u Z Z Z (.o Z hb3 Z Z (.a Z Z (.g Z Z Z hb4 (.a Z Z (.o Z hb4 Z Z (.a Z Z (.i Z Z Z hb5 (.n Z hb5 Z Z (.a Z Z (.i Z Z Z Z (.i Z Z Z Z (.n Z Z Z Z (.a Z Z (.i Z Z Z Z (.i Z Z Z Z (.i Z Z Z Z (.i Z Z Z Z (.n Z Z Z Z (.e Z Z (.nil ?_))))))))))))))))))))))))))))))
     obtain rfl := oi hx2
     refine b5 (Sub.cut ⟨Z, Y⟩ Z trivial Z)
   ·replace hx2 := B5 hb4 hx2
    refine AWP.f (W.fieldAddr Z Z Z Z (.m Z Z Z Z Z Z (.u Z Z Z (.a Z Z (.g Z Z Z hb3 (W.fieldAddr Z Z Z Z (.g Z Z Z hb3 (.m Z Z Z Z Z Z (.g Z Z Z hb3 (.u Z Z Z (.o Z hb3 Z Z (.a Z Z (.i Z Z Z hb4 (.n Z hb4 Z Z (.a Z Z (.i Z Z Z Z (.n Z Z Z Z (.a Z Z (.i Z Z Z Z (.i Z Z Z Z (.n Z Z Z Z (.a Z Z (.i Z Z Z Z (.i Z Z Z Z (.i Z Z Z Z (.i Z Z Z Z (.n Z Z Z Z (.e Z Z (.nil ?_)))))))))))))))))))))))))))))
    obtain rfl := oi hx2
    refine b5 (Sub.cut ⟨Z, Y⟩ Z trivial Z)
  ·replace hx2 := B5 hb3 hx2
   refine AWP.f (W.fieldAddr Z Z Z Z (.m Z Z Z Z Z Z (.u Z Z Z (.a Z Z (.i Z Z Z hb3 (.i Z Z Z hb3 (.i Z Z Z hb3 (.n Z hb3 Z Z (.a Z Z (.i Z Z Z Z (.n Z Z Z Z (.a Z Z (.i Z Z Z Z (.n Z Z Z Z (.a Z Z (.i Z Z Z Z (.i Z Z Z Z (.n Z Z Z Z (.a Z Z (.i Z Z Z Z (.i Z Z Z Z (.i Z Z Z Z (.i Z Z Z Z (.n Z Z Z Z (.e Z Z (.nil ?_))))))))))))))))))))))))))
   obtain rfl := oi hx2
   refine b5 (Sub.cut ⟨Z, Y⟩ Z trivial Z)
 ·refine AWP.ret ?_
  obtain rfl := oi h
  exact Done.ret Z Z
theorem ab9 {sv : List Int} {r : Int} (h : M4 sv = some r) : d9 Tryz.prog 39 [.c (row 1 intI sv)] (.c (int r)) := by
 unfold d9
 refine FnOk.enter (rs := [.t 2]) Tryz.func39 Z Tryz.ntmps39 Tryz.results39 Z ⟨trivial, Y⟩ (by kernel_rfl) Z ?_
 unfold M4 at h
 refine AWP.d (.f (.e Z Z (.nil (b5 (.d (.f (.e Z Z (.nil (b5 (.d (.d (.f (.e Z Z (.nil (b5 (.l ?_))))))))))))))))
 obtain ⟨w2, ho1, h⟩ := b7 h
 refine AWP.forS ho1 (fun iv3 w2 => ⟨[(0, .c (row 1 intI sv)), (3, .c (int w2)), (4, .c (int iv3))], []⟩) (fun w2 e st => e = .exit 0 ∧ Sub [] st ⟨[(3, .c (int w2))], []⟩) ?_ ?_ ?_ ?_
 ·try dsimp only
  exact Sub.env ⟨Z, Z, Z, Y⟩
 ·intro iv3 w2 hloiv3 hltiv3 _
  try dsimp only
  refine AWP.d (.d (.f (.a Z Z (.a Z Z (S.len Z Z (fun hl7 => .j Z Z Z (.nil (b5 (.q Z hltiv3 (.exit (d6 (d6 ⟨Z, ?_⟩))))))))))))
  exact Sub.env ⟨Z, Y⟩
 ·intro iv3 w2 o hloiv3 hltiv3 h
  unfold W7 at h
  try dsimp only at h ⊢
  refine AWP.d (.d (.f (.a Z Z (.a Z Z (S.len Z Z (fun hl7 => .j Z Z Z (.nil (b5 (.r Z hltiv3 (.skip (b5 (.d (.l ?_)))))))))))))
  obtain ⟨a14, ha14, u17, hu17, h⟩ := b2 h
  refine AWP.f (.a Z Z (.a Z Z (.a Z Z (S.idx ha14 Z Z Z Z (.p Z Z Z Z (.z Z Z (S.shl hu17 Z Z Z (S.add Z Z Z (.e Z Z (.nil (d5 (b5 (.f (.a Z Z (.add Z Z Z (by omega) (.e Z Z (.nil ?_)))))))))))))))))
  obtain rfl := oi h
  refine b5 (Sub.env ⟨Z, Z, Z, Y⟩)
 ·intro e s hq
  obtain ⟨rfl, hs⟩ := hq
  refine ⟨_, hs, ?_⟩
  refine f9 (b5 (.d (.f (.a Z Z (.e Z Z (.nil (b5 (.ret ?_))))))))
  obtain rfl := oi h
  exact Done.ret Z Z
theorem af3 {part : List Int} {l : List Int} {r : Bool} (h : N8 part l = some r) : d9 Tryz.prog 76 [.c (row 1 intI part), .c (row 1 intI l)] (.c (bool r)) := by
 unfold d9
 refine FnOk.enter (rs := [.t 4]) Tryz.func76 Z Tryz.ntmps76 Tryz.results76 Z ⟨trivial, Y⟩ (by kernel_rfl) Z ?_
 unfold N8 at h
 refine AWP.d (.f (.e Z Z (.nil (b5 (.d (.d (.f (.e Z Z (.nil (b5 (.l ?_)))))))))))
 obtain ⟨oo, ho1, h⟩ := b7 h
 refine AWP.rngS ho1 (fun iv3 _ => ⟨[(0, .c (row 1 intI part)), (1, .c (row 1 intI l)), (5, .c (int iv3))], []⟩) (fun o e st => match o with | .inl _ => e = .exit 0 ∧ Sub [] st ⟨[], []⟩ | .inr x => e = .ret ∧ Done [.t 4] (fun t _ => t = .c (bool x)) .ret st) ?_ ?_ ?_ ?_
 ·try dsimp only
  exact Sub.env ⟨Z, Z, Z, Y⟩
 ·intro iv3 s hloiv3 hltiv3 _
  try dsimp only
  refine AWP.d (.d (.f (.a Z Z (.a Z Z (S.len Z Z (fun hl8 => .j Z Z Z (.nil (b5 (.q Z hltiv3 (.exit (d6 (d6 ⟨Z, ?_⟩))))))))))))
  exact Sub.env trivial
 ·intro iv3 s o hloiv3 hltiv3 h
  unfold Y2 at h
  try dsimp only at h ⊢
  refine AWP.d (.d (.f (.a Z Z (.a Z Z (S.len Z Z (fun hl8 => .j Z Z Z (.nil (b5 (.r Z hltiv3 (.skip (b5 (.d (.l (.d ?_))))))))))))))
  obtain ⟨a15, ha15, a17, ha17, h⟩ := b2 h
  refine AWP.f (.a Z Z (.a Z Z (.a Z Z (S.idx ha15 Z Z Z Z (.p Z Z Z Z (.k Z Z Z Z (E4 ha17) Z (.v Z Z (.nil (b5 (.s Z h (fun hc4 h => ?_) (fun hc4 h => ?_)))))))))))
  ·refine AWP.d (.f (.e Z Z (.nil (b5 (.ret (g7 (d8 ?_)))))))
   obtain rfl := oi h
   refine d8 ⟨_, Z, Z, ?_⟩
   exact Done.ret Z Z
  ·refine AWP.skip (d5 (b5 (.f (.a Z Z (.add Z Z Z (by omega) (.e Z Z (.nil ?_)))))))
   obtain rfl := oi h
   refine b5 ⟨_, Z, ?_⟩
   exact Sub.env ⟨Z, Z, Z, Y⟩
 ·intro e s hq
  rcases oo with u | x
  ·try dsimp only at h hq
   obtain ⟨rfl, hs⟩ := hq
   refine ⟨_, hs, ?_⟩
   refine f9 (b5 (.d (.f (.e Z Z (.nil (b5 (.ret ?_)))))))
   obtain rfl := oi h
   exact Done.ret Z Z
  ·try dsimp only at h hq
   obtain ⟨rfl, hs⟩ := hq
   refine ⟨_, Sub.refl _ _, ?_⟩
   refine g7 (d8 ?_)
   obtain rfl := oi h
   exact hs
theorem r9 {ov : b9} {sv : List Int} {op : Int} {r : Bool} (h : C9 ov sv op = some r) : d9 Tryz.prog 40 [.agg (tO ov), .c (row 1 intI sv), .c (int op)] (.c (bool r)) := by
 unfold d9
 refine FnOk.enter (rs := [.t 6]) Tryz.func40 Z Tryz.ntmps40 Tryz.results40 Z ⟨trivial, Y⟩ (by kernel_rfl) Z ?_
 unfold C9 at h
 refine AWP.d (.f (W.box Z Z Z Z Z Z (.e Z Z (.nil (b5 (.d ?_))))))
 obtain ⟨a10, ha10, a14, ha14, h⟩ := b2 h
 refine AWP.f (W.fieldAddr Z Z Z Z (.m Z Z Z Z Z Z (.a Z Z (S.idx ha10 Z Z Z Z (W.fieldAddrI Z Z Z Z (.p Z Z Z Z (.a Z Z (.k Z Z Z Z (af3 ha14) Z (.e Z Z (.nil (b5 (.ret ?_))))))))))))
 obtain rfl := oi h
 exact Done.ret Z Z
theorem af8 {ov : b9} {sv : List Int} {xv : l4} {r : (List Int)} (h : O5 ov sv xv = some r) : m5 Tryz.prog 77 [.agg (tO ov), .c (row 1 intI sv), .agg [row 1 intI xv.add, row 1 intI xv.del, int xv.weight]] 1 (List.map intI r) := by
 unfold m5
 refine FnOk.enter (rs := [.t 6]) Tryz.func77 Z Tryz.ntmps77 Tryz.results77 Z ⟨trivial, Y⟩ (by kernel_rfl) Z ?_
 unfold O5 at h
 refine AWP.d (.f (W.box Z Z Z Z Z Z (W.box Z Z Z Z Z Z (.e Z Z (.nil (b5 (.d (.f (.e Z Z (.nil (b5 (.d (.d (.f (.e Z Z (.nil (b5 (.l (.virtV 1 intI 7 Z Z Z ?_)))))))))))))))))))
 obtain ⟨hnp5, h⟩ := ite_none h
 obtain ⟨c4, ho1, h⟩ := b7 h
 refine AWP.forS ho1 (fun p5 c4 => ⟨[(1, .c (row 1 intI sv)), (3, .c (.ptr 0 0 0)), (5, .c (.ptr 1 0 0)), (7, .c (.own 2 0 c4.length)), (8, .c (int p5))], [.one (.cells 4 [(tO ov)]), .one (.cells 3 [[row 1 intI xv.add, row 1 intI xv.del, int xv.weight]]), .one (vec 1 intI c4)]⟩) (fun c4 e st => e = .exit 0 ∧ Sub [] st ⟨[(7, .c (.own 2 0 c4.length))], [.one (.cells 4 [(tO ov)]), .one (.cells 3 [[row 1 intI xv.add, row 1 intI xv.del, int xv.weight]]), .one (vec 1 intI c4)]⟩) ?_ ?_ ?_ ?_
 ·try dsimp only
  exact Sub.env ⟨Z, Z, Z, (x8 (by first | rfl | simp only [List.length_set])), Z, Y⟩
 ·intro p5 c4 hlop5 hltp5 _
  try dsimp only
  refine AWP.d (.d (.f (.a Z Z (W.fieldAddr Z Z Z Z (.m Z Z Z Z Z Z (.j Z Z Z (.nil (b5 (.q Z hltp5 (.exit (d6 (d6 ⟨Z, ?_⟩))))))))))))
  exact Sub.env ⟨Z, Y⟩
 ·intro p5 c4 o hlop5 hltp5 h
  unfold X6 at h
  try dsimp only at h ⊢
  refine AWP.d (.d (.f (.a Z Z (W.fieldAddr Z Z Z Z (.m Z Z Z Z Z Z (.j Z Z Z (.nil (b5 (.r Z hltp5 (.skip (b5 ?_)))))))))))
  obtain ⟨c6, hx7, h⟩ := b7 h
  refine AWP.seqJ (⟨[(1, .c (row 1 intI sv)), (3, .c (.ptr 0 0 0)), (5, .c (.ptr 1 0 0)), (7, .c (.own 4 0 c6.length)), (8, .c (int p5))], [.one (.cells 4 [(tO ov)]), .one (.cells 3 [[row 1 intI xv.add, row 1 intI xv.del, int xv.weight]]), .dead, .dead, .one (vec 1 intI c6)]⟩) ?_ ?_
  ·refine AWP.l ?_
   obtain ⟨t8, hx9, hx7⟩ := b7 hx7
   refine AWP.seqJ (⟨[(1, .c (row 1 intI sv)), (3, .c (.ptr 0 0 0)), (5, .c (.ptr 1 0 0)), (7, .c (.own 2 0 c4.length)), (8, .c (int p5)), (30, .c (bool t8))], [.one (.cells 4 [(tO ov)]), .one (.cells 3 [[row 1 intI xv.add, row 1 intI xv.del, int xv.weight]]), .one (vec 1 intI c4)]⟩) ?_ ?_
   ·obtain ⟨a18, ha18, hx9⟩ := b7 hx9
    rcases bft (a18) with hb10 | hb10
    ·replace hx9 := B8 hb10 hx9
     refine AWP.f (W.fieldAddr Z Z Z Z (.m Z Z Z Z Z Z (.a Z Z (.k Z Z Z Z (E4 ha18) Z (.a Z Z (.i Z Z Z hb10 (.i Z Z Z hb10 (.i Z Z Z hb10 (.i Z Z Z hb10 (.x Z Z Z (.x Z Z Z (.x Z Z Z (.x Z Z Z (.x Z Z Z (.i Z Z Z hb10 (.o Z hb10 Z Z (.nil ?_)))))))))))))))))
     obtain rfl := oi hx9
     refine b5 (Sub.env ⟨Z, Z, Z, Z, Z, Z, Y⟩)
    ·replace hx9 := B9 hb10 hx9
     obtain ⟨a22, ha22, hx9⟩ := b7 hx9
     rcases bft (a22) with hb11 | hb11
     ·replace hx9 := B8 hb11 hx9
      obtain ⟨a27, ha27, hx9⟩ := b7 hx9
      refine AWP.f (W.fieldAddr Z Z Z Z (.m Z Z Z Z Z Z (.a Z Z (.k Z Z Z Z (E4 ha18) Z (.a Z Z (.g Z Z Z hb10 (.a Z Z (.g Z Z Z hb10 (.a Z Z (.g Z Z Z hb10 (.k Z Z Z Z (E4 ha22) Z (.g Z Z Z hb10 (.a Z Z (.g Z Z Z hb11 (W.fieldAddr Z Z Z Z (.g Z Z Z hb11 (.m Z Z Z Z Z Z (.g Z Z Z hb11 (.a Z Z (.g Z Z Z hb11 (.k Z Z Z Z (E4 ha27) Z (.g Z Z Z hb11 (.v Z Z (.g Z Z Z hb10 (.o Z hb11 Z Z (.n Z hb10 Z Z (.nil ?_)))))))))))))))))))))))))))
      obtain rfl := oi hx9
      refine b5 (Sub.env ⟨Z, Z, Z, Z, Z, Z, Y⟩)
     ·replace hx9 := B9 hb11 hx9
      refine AWP.f (W.fieldAddr Z Z Z Z (.m Z Z Z Z Z Z (.a Z Z (.k Z Z Z Z (E4 ha18) Z (.a Z Z (.g Z Z Z hb10 (.a Z Z (.g Z Z Z hb10 (.a Z Z (.g Z Z Z hb10 (.k Z Z Z Z (E4 ha22) Z (.g Z Z Z hb10 (.a Z Z (.i Z Z Z hb11 (.i Z Z Z hb11 (.i Z Z Z hb11 (.i Z Z Z hb11 (.i Z Z Z hb11 (.g Z Z Z hb10 (.n Z hb11 Z Z (.n Z hb10 Z Z (.nil ?_))))))))))))))))))))))
      obtain rfl := oi hx9
      refine b5 (Sub.env ⟨Z, Z, Z, Z, Z, Z, Y⟩)
   ·refine AWP.s Z hx7 (fun hc12 hx7 => ?_) (fun hc12 hx7 => ?_)
    ·obtain ⟨a34, ha34, hx7⟩ := b7 hx7
     refine AWP.f (.a Z Z (.a Z Z (S.lit (f := intI) (l := [p5]) (ess := [[int p5]]) Z Z Z Z Z Z Z ⟨⟨.inl Z, Y⟩, Y⟩ Z Z Z (S.append (f := intI) ha34 Z Z Z Z Z Z (.own Z Z) Z Z Z Z (.e Z Z (.nil (d5 ?_)))))))
     obtain rfl := oi hx7
     refine b5 (Sub.cut ⟨Z, Z, Z, Z, Z, Y⟩ Z ⟨.one Z, .one Z, .dead, .dead, .vec, Y⟩ Z)
    ·refine AWP.skip (d5 ?_)
     obtain rfl := oi hx7
     refine b5 ((Sub.move (env' := [(1, .c (row 1 intI sv)), (3, .c (.ptr 0 0 0)), (5, .c (.ptr 1 0 0)), (7, .c (.own 4 0 c4.length)), (8, .c (int p5))]) (σ' := [.one (.cells 4 [(tO ov)]), .one (.cells 3 [[row 1 intI xv.add, row 1 intI xv.del, int xv.weight]]), .dead, .dead, .one (vec 1 intI c4)]) 4 2 Z Z Z ⟨Z, Z, Z, Z, Z, Y⟩ Z ⟨⟨Z, Z⟩, ⟨Z, Z⟩, trivial, trivial, ⟨Blk.im_ok _ _ _, k7 Z⟩, Y⟩).trans (Sub.env ⟨Z, Z, Z, Z, Z, Y⟩))
  ·refine AWP.f (.a Z Z (.add Z Z Z (by omega) (.e Z Z (.nil ?_))))
   obtain rfl := oi h
   refine b5 ((Sub.move (env' := [(1, .c (row 1 intI sv)), (3, .c (.ptr 0 0 0)), (5, .c (.ptr 1 0 0)), (7, .c (.own 2 0 c6.length)), (8, .c (int (p5 + 1)))]) (σ' := [.one (.cells 4 [(tO ov)]), .one (.cells 3 [[row 1 intI xv.add, row 1 intI xv.del, int xv.weight]]), .one (vec 1 intI c6), .dead]) 2 4 Z Z Z ⟨Z, Z, Z, Z, Z, Y⟩ Z ⟨⟨Z, Z⟩, ⟨Z, Z⟩, ⟨Blk.im_ok _ _ _, k7 Z⟩, trivial, Y⟩).trans (Sub.cut ⟨Z, Z, Z, Z, Z, Y⟩ Z ⟨.one Z, .one Z, .vec, Y⟩ Z))
 ·intro e s hq
  obtain ⟨rfl, hs⟩ := hq
  refine ⟨_, hs, ?_⟩
  refine f9 (b5 (.d (.f (.a Z Z (.e Z Z (.nil (b5 (.ret ?_))))))))
  obtain rfl := oi h
  exact Done.ret Z (Fresh.mk Z Z)
theorem af9 {av : List Int} {bv : List Int} {r : Bool} (h : H2 av bv = some r) : d9 Tryz.prog 51 [.c (row 1 intI av), .c (row 1 intI bv)] (.c (bool r)) := by
 unfold d9
 refine FnOk.enter (rs := [.t 4]) Tryz.func51 Z Tryz.ntmps51 Tryz.results51 Z ⟨trivial, Y⟩ (by kernel_rfl) Z ?_
 unfold H2 at h
 refine AWP.d (.f (.e Z Z (.nil (b5 (.d (.d (.f (.e Z Z (.nil (b5 (.l ?_)))))))))))
 obtain ⟨oo, ho1, h⟩ := b7 h
 refine AWP.loopS ho1 (fun iv3 => ⟨[(0, .c (row 1 intI av)), (1, .c (row 1 intI bv)), (5, .c (int iv3))], []⟩) (fun o e st => match o with | .inl _ => e = .exit 0 ∧ Sub [] st ⟨[(0, .c (row 1 intI av)), (1, .c (row 1 intI bv))], []⟩ | .inr x => e = .ret ∧ Done [.t 4] (fun t _ => t = .c (bool x)) .ret st) ?_ ?_ ?_
 ·try dsimp only
  exact Sub.env ⟨Z, Z, Z, Y⟩
 ·intro iv3 o h
  unfold S3 at h
  try dsimp only at h ⊢
  refine AWP.d (.seqJ (⟨[(0, .c (row 1 intI av)), (1, .c (row 1 intI bv)), (5, .c (int iv3)), (15, .c (bool ((decide (iv3 < (av.length : Int))) && (decide (iv3 < (bv.length : Int))))))], []⟩) ?_ ?_)
  ·rcases bft (decide (iv3 < (av.length : Int))) with hb1 | hb1
   ·refine AWP.f (.a Z Z (.a Z Z (S.len Z Z (fun hl8 => .j Z Z Z (.a Z Z (.g Z Z Z hb1 (.a Z Z (.g Z Z Z hb1 (.a Z Z ?_)))))))))
    refine AOps.g Z Z Z hb1 ?_; refine S.len Z Z (fun hl13 => ?_)
    refine AOps.g Z Z Z hb1 (.j Z Z Z (.o Z hb1 Z Z (.nil (b5 ?_))))
    simp only [T4 hb1, or_t hb1, Bool.false_or, Bool.true_or, Bool.false_and, Bool.true_and]
    exact Sub.env ⟨Z, Z, Z, Z, Y⟩
   ·refine AWP.f (.a Z Z (.a Z Z (S.len Z Z (fun hl8 => .j Z Z Z (.a Z Z (.i Z Z Z hb1 (.i Z Z Z hb1 (.i Z Z Z hb1 (.i Z Z Z hb1 (.n Z hb1 Z Z (.nil (b5 ?_))))))))))))
    simp only [and_f hb1, or_f hb1, Bool.false_or, Bool.true_or, Bool.false_and, Bool.true_and]
    exact Sub.env ⟨Z, Z, Z, Z, Y⟩
  ·refine AWP.s Z h (fun hc4 h => ?_) (fun hc4 h => ?_)
   ·refine AWP.skip (b5 (.d (.l (.d ?_))))
    obtain ⟨a20, ha20, a24, ha24, h⟩ := b2 h
    refine AWP.drawI mixed Z ?_
    refine g9.consF Z (fun E => AOps.a Z Z (.nil ⟨Z, Z⟩)) Z (.consF Z (fun E => AOps.a Z Z (.nil ⟨Z, Z⟩)) Z (.consF Z (fun E => S.idx ha20 Z Z Z Z (.nil ⟨Z, Z⟩)) Z (.consF Z (fun E => AOps.p Z Z Z Z (.nil ⟨Z, Z⟩)) Z (.consF Z (fun E => AOps.a Z Z (.nil ⟨Z, Z⟩)) Z (.consF Z (fun E => AOps.a Z Z (.nil ⟨Z, Z⟩)) Z (.consF Z (fun E => S.idx ha24 Z Z Z Z (.nil ⟨Z, Z⟩)) Z (.consF Z (fun E => AOps.p Z Z Z Z (.nil ⟨Z, Z⟩)) Z (.consF Z (fun E => AOps.neq Z Z Z (.nil ⟨Z, Z⟩)) Z ?_))))))))
    refine g9.done ?_
    dsimp only [i9]
    refine b5 (.iteN Z h (fun hc5 h => ?_) (fun hc5 h => ?_))
    ·refine AWP.d ?_
     obtain ⟨a29, ha29, a33, ha33, h⟩ := b2 h
     refine AWP.drawI mixed Z ?_
     refine g9.consF Z (fun E => AOps.a Z Z (.nil ⟨Z, Z⟩)) Z (.consF Z (fun E => AOps.a Z Z (.nil ⟨Z, Z⟩)) Z (.consF Z (fun E => S.idx ha29 Z Z Z Z (.nil ⟨Z, Z⟩)) Z (.consF Z (fun E => AOps.p Z Z Z Z (.nil ⟨Z, Z⟩)) Z (.consF Z (fun E => AOps.a Z Z (.nil ⟨Z, Z⟩)) Z (.consF Z (fun E => AOps.a Z Z (.nil ⟨Z, Z⟩)) Z (.consF Z (fun E => S.idx ha33 Z Z Z Z (.nil ⟨Z, Z⟩)) Z (.consF Z (fun E => AOps.p Z Z Z Z (.nil ⟨Z, Z⟩)) Z (.consF Z (fun E => AOps.j Z Z Z (.nil ⟨Z, Z⟩)) Z (.consF Z (fun E => AOps.e Z Z (.nil ⟨Z, Z⟩)) Z ?_)))))))))
     refine g9.done ?_
     dsimp only [i9]
     refine b5 (.ret (g7 (d8 ?_)))
     obtain rfl := oi h
     refine d8 ⟨_, Z, Z, ?_⟩
     exact Done.ret Z Z
    ·refine AWP.skip (d5 (b5 (.f (.a Z Z (S.add Z Z Z (.e Z Z (.nil ?_)))))))
     obtain rfl := oi h
     refine b5 ⟨_, Z, ?_⟩
     exact Sub.env ⟨Z, Z, Z, Y⟩
   ·refine AWP.exit (d6 ?_)
    obtain rfl := oi h
    refine d6 ⟨_, Z, Z, ?_⟩
    exact Sub.env ⟨Z, Z, Y⟩
 ·intro e s hq
  rcases oo with u | x
  ·try dsimp only at h hq
   obtain ⟨rfl, hs⟩ := hq
   refine ⟨_, hs, ?_⟩
   refine f9 (b5 (.d (.f (.a Z Z (S.len Z Z (fun hl37 => .a Z Z (S.len Z Z (fun hl39 => .j Z Z Z (.e Z Z (.nil (b5 (.ret ?_))))))))))))
   obtain rfl := oi h
   exact Done.ret Z Z
  ·try dsimp only at h hq
   obtain ⟨rfl, hs⟩ := hq
   refine ⟨_, Sub.refl _ _, ?_⟩
   refine g7 (d8 ?_)
   obtain rfl := oi h
   exact hs
theorem Y4 {l : LL} {sv : List Int} {r : LL} (h : K9 l sv = some r) : d9 Tryz.prog 43 [.c (row 1 d4 l), .c (row 1 intI sv)] (.c (row 1 d4 r)) := by
 unfold d9
 refine FnOk.enter (rs := [.t 4]) Tryz.func43 Z Tryz.ntmps43 Tryz.results43 Z ⟨trivial, Y⟩ (by kernel_rfl) Z ?_
 unfold K9 at h
 refine AWP.d (.f (.e Z Z (.nil (b5 (.d (.f (.e Z Z (.nil (b5 (.d (.l ?_)))))))))))
 obtain ⟨kv4, ho1, h⟩ := b7 h
 refine AWP.loopS ho1 (fun kv3 => ⟨[(0, .c (row 1 d4 l)), (1, .c (row 1 intI sv)), (5, .c (int kv3))], []⟩) (fun kv4 e st => e = .exit 0 ∧ Sub [] st ⟨[(0, .c (row 1 d4 l)), (1, .c (row 1 intI sv)), (5, .c (int kv4))], []⟩) ?_ ?_ ?_
 ·try dsimp only
  exact Sub.env ⟨Z, Z, Z, Y⟩
 ·intro kv3 o h
  unfold R8 at h
  try dsimp only at h ⊢
  refine AWP.d ?_
  obtain ⟨t5, hx6, h⟩ := b7 h
  refine AWP.seqJ (⟨[(0, .c (row 1 d4 l)), (1, .c (row 1 intI sv)), (5, .c (int kv3)), (17, .c (bool t5))], []⟩) ?_ ?_
  ·rcases bft (decide (kv3 < (l.length : Int))) with hb7 | hb7
   ·replace hx6 := B4 hb7 hx6
    obtain ⟨a13, ha13, a16, ha16, hx6⟩ := b2 hx6
    refine AWP.f (.a Z Z (.a Z Z (S.len Z Z (fun hl8 => .j Z Z Z (.a Z Z (.g Z Z Z hb7 (.a Z Z (.g Z Z Z hb7 (.a Z Z (.g Z Z Z hb7 (S.idx ha13 Z Z Z Z (.g Z Z Z hb7 (.p Z Z Z Z (.g Z Z Z hb7 (.a Z Z (.g Z Z Z hb7 (.k Z Z Z Z (af9 ha16) Z (.o Z hb7 Z Z (.nil ?_)))))))))))))))))))
    obtain rfl := oi hx6
    refine b5 (Sub.env ⟨Z, Z, Z, Z, Y⟩)
   ·replace hx6 := B5 hb7 hx6
    refine AWP.f (.a Z Z (.a Z Z (S.len Z Z (fun hl8 => .j Z Z Z (.a Z Z (.i Z Z Z hb7 (.i Z Z Z hb7 (.i Z Z Z hb7 (.i Z Z Z hb7 (.i Z Z Z hb7 (.i Z Z Z hb7 (.n Z hb7 Z Z (.nil ?_)))))))))))))
    obtain rfl := oi hx6
    refine b5 (Sub.env ⟨Z, Z, Z, Z, Y⟩)
  ·refine AWP.s Z h (fun hc8 h => ?_) (fun hc8 h => ?_)
   ·refine AWP.skip (b5 (.l (.f (.a Z Z (S.add Z Z Z (.e Z Z (.nil (d5 ?_))))))))
    obtain rfl := oi h
    refine b5 ⟨_, Z, ?_⟩
    exact Sub.env ⟨Z, Z, Z, Y⟩
   ·refine AWP.exit (d6 ?_)
    obtain rfl := oi h
    refine d6 ⟨_, Z, Z, ?_⟩
    exact Sub.env ⟨Z, Z, Z, Y⟩
 ·intro e s hq
  obtain ⟨rfl, hs⟩ := hq
  refine ⟨_, hs, ?_⟩
  refine f9 (b5 (.d ?_))
  obtain ⟨t9, hx10, h⟩ := b7 h
  refine AWP.seqJ (⟨[(0, .c (row 1 d4 l)), (1, .c (row 1 intI sv)), (5, .c (int kv4)), (31, .c (bool t9))], []⟩) ?_ ?_
  ·rcases bft (decide (kv4 < (l.length : Int))) with hb11 | hb11
   ·replace hx10 := B4 hb11 hx10
    obtain ⟨a27, ha27, a30, ha30, hx10⟩ := b2 hx10
    refine AWP.f (.a Z Z (.a Z Z (S.len Z Z (fun hl22 => .j Z Z Z (.a Z Z (.g Z Z Z hb11 (.a Z Z (.g Z Z Z hb11 (.a Z Z (.g Z Z Z hb11 (S.idx ha27 Z Z Z Z (.g Z Z Z hb11 (.p Z Z Z Z (.g Z Z Z hb11 (.a Z Z (.g Z Z Z hb11 (.k Z Z Z Z (W1 ha30) Z (.o Z hb11 Z Z (.nil ?_)))))))))))))))))))
    obtain rfl := oi hx10
    refine b5 (Sub.env ⟨Z, Z, Z, Z, Y⟩)
   ·replace hx10 := B5 hb11 hx10
    refine AWP.f (.a Z Z (.a Z Z (S.len Z Z (fun hl22 => .j Z Z Z (.a Z Z (.i Z Z Z hb11 (.i Z Z Z hb11 (.i Z Z Z hb11 (.i Z Z Z hb11 (.i Z Z Z hb11 (.i Z Z Z hb11 (.n Z hb11 Z Z (.nil ?_)))))))))))))
    obtain rfl := oi hx10
    refine b5 (Sub.env ⟨Z, Z, Z, Z, Y⟩)
  ·refine AWP.s Z h (fun hc12 h => ?_) (fun hc12 h => ?_)
   ·refine AWP.d (.f (.a Z Z (.e Z Z (.nil (b5 (.ret (d8 ?_)))))))
    obtain rfl := oi h
    exact Done.ret Z Z
   ·refine AWP.skip (b5 (.d ?_))
    obtain ⟨a36, ha36, a37, ha37, a40, ha40, h⟩ := b3 h
    obtain ⟨a43, ha43, a44, ha44, h⟩ := b2 h
    refine AWP.sub (s' := ⟨[(0, .c (row 1 d4 l)), (1, .c (row 1 intI sv)), (5, .c (int kv4)), (31, .c (bool t9))], [.dead, .dead, .dead, .dead, .dead]⟩) (Sub.cut ⟨Z, Z, Z, Z, Y⟩ Z ⟨.dead, .dead, .dead, .dead, .dead, Y⟩ Z) (.drawTI [.c (.own 0 0 (([] : LL).length)), .c (row 1 d4 l), .c (int kv4), .c (row 1 d4 a36), .c (.own 1 0 a37.length), .c (row 1 intI sv), .c (.own 2 0 ([sv].length)), .c (.own 3 0 a40.length), .c (row 1 d4 l), .c (int kv4), .c (row 1 d4 a43), .c (.own 4 0 a44.length), .c (.own 4 0 a44.length)] [0, 4, 6, 7, 11] [([], [.dead, .dead, .dead, .dead, .dead]), ([0], [.one (vec 1 d4 ([] : LL)), .dead, .dead, .dead, .dead]), ([0, 4], [.dead, .one (vec 1 d4 a37), .dead, .dead, .dead]), ([6], [.dead, .dead, .one (vec 1 d4 [sv]), .dead, .dead]), ([0, 6], [.one (vec 1 d4 ([] : LL)), .dead, .one (vec 1 d4 [sv]), .dead, .dead]), ([0, 4, 6], [.dead, .one (vec 1 d4 a37), .one (vec 1 d4 [sv]), .dead, .dead]), ([0, 4, 6, 7], [.dead, .dead, .one (vec 1 d4 [sv]), .one (vec 1 d4 a40), .dead]), ([0, 4, 6, 7, 11], [.dead, .dead, .one (vec 1 d4 [sv]), .dead, .one (vec 1 d4 a44)])] [.dead, .dead, .one (vec 1 d4 [sv]), .dead, .one (vec 1 d4 a44)] mixed Z Z Z Z Z ?_ ?_)
    ·refine F7.cons ?_ ?_
     ·apply f8.eff; exact Z; exact Z; exact Z; exact Z; intro E hE; (refine AOps.newAt 0 (.c (.own 0 0 (([] : LL).length))) (vec 1 d4 ([] : LL)) (.inl Z) Z hE Z Z Z Z (.vec) (.vec) Z Z Z ⟨.dead, .dead, .dead, .dead, .dead, Y⟩ (fun hh => by (refine S.lit (f := d4) (l := []) (ess := []) Z Z Z Z Z Z Z trivial Z Z Z ?_; exact hh)) ?_); exact AOps.nil ⟨Z, Z⟩
      apply f8.go; exact Z; exact Z; exact Z; intro E hE; (refine AOps.a Z Z ?_); exact AOps.nil ⟨Z, Z⟩
      apply f8.go; exact Z; exact Z; exact Z; intro E hE; (refine AOps.a Z Z ?_); exact AOps.nil ⟨Z, Z⟩
      apply f8.go; exact Z; exact Z; exact Z; intro E hE; (refine S.subTo ha36 Z Z Z ?_); exact AOps.nil ⟨Z, Z⟩
      refine f8.no Z ?_
      apply f8.go; exact Z; exact Z; exact Z; intro E hE; (refine AOps.a Z Z ?_); exact AOps.nil ⟨Z, Z⟩
      apply f8.eff; exact Z; exact Z; exact Z; exact Z; intro E hE; (refine AOps.newAt 2 (.c (.own 2 0 ([sv].length))) (vec 1 d4 [sv]) (.inl Z) Z hE Z Z Z Z (.vec) (.vec) Z Z Z ⟨.dead, .dead, .dead, .dead, .dead, Y⟩ (fun hh => by (refine S.lit (f := d4) (l := [sv]) (ess := [[row 1 intI sv]]) Z Z Z Z Z Z Z ⟨⟨.inl Z, Y⟩, Y⟩ Z Z Z ?_; exact hh)) ?_); exact AOps.nil ⟨Z, Z⟩
      refine f8.no Z ?_
      apply f8.go; exact Z; exact Z; exact Z; intro E hE; (refine AOps.a Z Z ?_); exact AOps.nil ⟨Z, Z⟩
      apply f8.go; exact Z; exact Z; exact Z; intro E hE; (refine AOps.a Z Z ?_); exact AOps.nil ⟨Z, Z⟩
      apply f8.go; exact Z; exact Z; exact Z; intro E hE; (refine S.subFrom ha43 Z Z Z ?_); exact AOps.nil ⟨Z, Z⟩
      refine f8.no Z (f8.no Z (f8.nil))
     refine F7.cons ?_ ?_
     ·refine f8.no Z ?_
      apply f8.go; exact Z; exact Z; exact Z; intro E hE; (refine AOps.a Z Z ?_); exact AOps.nil ⟨Z, Z⟩
      apply f8.go; exact Z; exact Z; exact Z; intro E hE; (refine AOps.a Z Z ?_); exact AOps.nil ⟨Z, Z⟩
      apply f8.go; exact Z; exact Z; exact Z; intro E hE; (refine S.subTo ha36 Z Z Z ?_); exact AOps.nil ⟨Z, Z⟩
      apply f8.eff; exact Z; exact Z; exact Z; exact Z; intro E hE; (refine AOps.newAt 1 (.c (.own 1 0 a37.length)) (vec 1 d4 a37) (.inr ⟨0, Z⟩) Z hE Z Z Z Z (.vec) (.vec) Z Z Z ⟨.dead, .dead, .dead, .dead, .dead, Y⟩ (fun hh => by (refine S.append (f := d4) ha37 Z Z Z Z Z Z .row Z Z Z Z ?_; exact hh)) ?_); exact AOps.nil ⟨Z, Z⟩
      apply f8.go; exact Z; exact Z; exact Z; intro E hE; (refine AOps.a Z Z ?_); exact AOps.nil ⟨Z, Z⟩
      apply f8.eff; exact Z; exact Z; exact Z; exact Z; intro E hE; (refine AOps.newAt 2 (.c (.own 2 0 ([sv].length))) (vec 1 d4 [sv]) (.inl Z) Z hE Z Z Z Z (.vec) (.vec) Z Z Z ⟨.vec, .dead, .dead, .dead, .dead, Y⟩ (fun hh => by (refine S.lit (f := d4) (l := [sv]) (ess := [[row 1 intI sv]]) Z Z Z Z Z Z Z ⟨⟨.inl Z, Y⟩, Y⟩ Z Z Z ?_; exact hh)) ?_); exact AOps.nil ⟨Z, Z⟩
      refine f8.no Z ?_
      apply f8.go; exact Z; exact Z; exact Z; intro E hE; (refine AOps.a Z Z ?_); exact AOps.nil ⟨Z, Z⟩
      apply f8.go; exact Z; exact Z; exact Z; intro E hE; (refine AOps.a Z Z ?_); exact AOps.nil ⟨Z, Z⟩
      apply f8.go; exact Z; exact Z; exact Z; intro E hE; (refine S.subFrom ha43 Z Z Z ?_); exact AOps.nil ⟨Z, Z⟩
      refine f8.no Z (f8.no Z (f8.nil))
     refine F7.cons ?_ ?_
     ·refine f8.no Z (f8.no Z (f8.no Z (f8.no Z (f8.no Z ?_))))
      apply f8.go; exact Z; exact Z; exact Z; intro E hE; (refine AOps.a Z Z ?_); exact AOps.nil ⟨Z, Z⟩
      apply f8.eff; exact Z; exact Z; exact Z; exact Z; intro E hE; (refine AOps.newAt 2 (.c (.own 2 0 ([sv].length))) (vec 1 d4 [sv]) (.inl Z) Z hE Z Z Z Z (.vec) (.vec) Z Z Z ⟨.dead, .vec, .dead, .dead, .dead, Y⟩ (fun hh => by (refine S.lit (f := d4) (l := [sv]) (ess := [[row 1 intI sv]]) Z Z Z Z Z Z Z ⟨⟨.inl Z, Y⟩, Y⟩ Z Z Z ?_; exact hh)) ?_); exact AOps.nil ⟨Z, Z⟩
      refine f8.no Z ?_
      apply f8.go; exact Z; exact Z; exact Z; intro E hE; (refine AOps.a Z Z ?_); exact AOps.nil ⟨Z, Z⟩
      apply f8.go; exact Z; exact Z; exact Z; intro E hE; (refine AOps.a Z Z ?_); exact AOps.nil ⟨Z, Z⟩
      apply f8.go; exact Z; exact Z; exact Z; intro E hE; (refine S.subFrom ha43 Z Z Z ?_); exact AOps.nil ⟨Z, Z⟩
      refine f8.no Z (f8.no Z (f8.nil))
     refine F7.cons ?_ ?_
     ·apply f8.eff; exact Z; exact Z; exact Z; exact Z; intro E hE; (refine AOps.newAt 0 (.c (.own 0 0 (([] : LL).length))) (vec 1 d4 ([] : LL)) (.inl Z) Z hE Z Z Z Z (.vec) (.vec) Z Z Z ⟨.dead, .dead, .vec, .dead, .dead, Y⟩ (fun hh => by (refine S.lit (f := d4) (l := []) (ess := []) Z Z Z Z Z Z Z trivial Z Z Z ?_; exact hh)) ?_); exact AOps.nil ⟨Z, Z⟩
      apply f8.go; exact Z; exact Z; exact Z; intro E hE; (refine AOps.a Z Z ?_); exact AOps.nil ⟨Z, Z⟩
      apply f8.go; exact Z; exact Z; exact Z; intro E hE; (refine AOps.a Z Z ?_); exact AOps.nil ⟨Z, Z⟩
      apply f8.go; exact Z; exact Z; exact Z; intro E hE; (refine S.subTo ha36 Z Z Z ?_); exact AOps.nil ⟨Z, Z⟩
      refine f8.no Z (f8.no Z (f8.no Z (f8.no Z ?_)))
      apply f8.go; exact Z; exact Z; exact Z; intro E hE; (refine AOps.a Z Z ?_); exact AOps.nil ⟨Z, Z⟩
      apply f8.go; exact Z; exact Z; exact Z; intro E hE; (refine AOps.a Z Z ?_); exact AOps.nil ⟨Z, Z⟩
      apply f8.go; exact Z; exact Z; exact Z; intro E hE; (refine S.subFrom ha43 Z Z Z ?_); exact AOps.nil ⟨Z, Z⟩
      refine f8.no Z (f8.no Z (f8.nil))
     refine F7.cons ?_ ?_
     ·refine f8.no Z ?_
      apply f8.go; exact Z; exact Z; exact Z; intro E hE; (refine AOps.a Z Z ?_); exact AOps.nil ⟨Z, Z⟩
      apply f8.go; exact Z; exact Z; exact Z; intro E hE; (refine AOps.a Z Z ?_); exact AOps.nil ⟨Z, Z⟩
      apply f8.go; exact Z; exact Z; exact Z; intro E hE; (refine S.subTo ha36 Z Z Z ?_); exact AOps.nil ⟨Z, Z⟩
      apply f8.eff; exact Z; exact Z; exact Z; exact Z; intro E hE; (refine AOps.newAt 1 (.c (.own 1 0 a37.length)) (vec 1 d4 a37) (.inr ⟨0, Z⟩) Z hE Z Z Z Z (.vec) (.vec) Z Z Z ⟨.dead, .dead, .vec, .dead, .dead, Y⟩ (fun hh => by (refine S.append (f := d4) ha37 Z Z Z Z Z Z .row Z Z Z Z ?_; exact hh)) ?_); exact AOps.nil ⟨Z, Z⟩
      refine f8.no Z (f8.no Z (f8.no Z ?_))
      apply f8.go; exact Z; exact Z; exact Z; intro E hE; (refine AOps.a Z Z ?_); exact AOps.nil ⟨Z, Z⟩
      apply f8.go; exact Z; exact Z; exact Z; intro E hE; (refine AOps.a Z Z ?_); exact AOps.nil ⟨Z, Z⟩
      apply f8.go; exact Z; exact Z; exact Z; intro E hE; (refine S.subFrom ha43 Z Z Z ?_); exact AOps.nil ⟨Z, Z⟩
      refine f8.no Z (f8.no Z (f8.nil))
     refine F7.cons ?_ ?_
     ·refine f8.no Z (f8.no Z (f8.no Z (f8.no Z (f8.no Z (f8.no Z (f8.no Z ?_))))))
      apply f8.eff; exact Z; exact Z; exact Z; exact Z; intro E hE; (refine AOps.newAt 3 (.c (.own 3 0 a40.length)) (vec 1 d4 a40) (.inr ⟨1, Z⟩) Z hE Z Z Z Z (.vec) (.vec) Z Z Z ⟨.dead, .dead, .vec, .dead, .dead, Y⟩ (fun hh => by (refine S.append (f := d4) ha40 Z Z Z Z Z Z (.own Z Z) Z Z Z Z ?_; exact hh)) ?_); exact AOps.nil ⟨Z, Z⟩
      apply f8.go; exact Z; exact Z; exact Z; intro E hE; (refine AOps.a Z Z ?_); exact AOps.nil ⟨Z, Z⟩
      apply f8.go; exact Z; exact Z; exact Z; intro E hE; (refine AOps.a Z Z ?_); exact AOps.nil ⟨Z, Z⟩
      apply f8.go; exact Z; exact Z; exact Z; intro E hE; (refine S.subFrom ha43 Z Z Z ?_); exact AOps.nil ⟨Z, Z⟩
      refine f8.no Z (f8.no Z (f8.nil))
     refine F7.cons ?_ ?_
     ·refine f8.no Z (f8.no Z (f8.no Z (f8.no Z (f8.no Z (f8.no Z (f8.no Z (f8.no Z ?_)))))))
      apply f8.go; exact Z; exact Z; exact Z; intro E hE; (refine AOps.a Z Z ?_); exact AOps.nil ⟨Z, Z⟩
      apply f8.go; exact Z; exact Z; exact Z; intro E hE; (refine AOps.a Z Z ?_); exact AOps.nil ⟨Z, Z⟩
      apply f8.go; exact Z; exact Z; exact Z; intro E hE; (refine S.subFrom ha43 Z Z Z ?_); exact AOps.nil ⟨Z, Z⟩
      apply f8.eff; exact Z; exact Z; exact Z; exact Z; intro E hE; (refine AOps.newAt 4 (.c (.own 4 0 a44.length)) (vec 1 d4 a44) (.inr ⟨3, Z⟩) Z hE Z Z Z Z (.vec) (.vec) Z Z Z ⟨.dead, .dead, .vec, .dead, .dead, Y⟩ (fun hh => by (refine S.append (f := d4) ha44 Z Z Z Z Z Z .row Z Z Z Z ?_; exact hh)) ?_); exact AOps.nil ⟨Z, Z⟩
      refine f8.no Z (f8.nil)
     refine F7.cons ?_ ?_
     ·refine f8.no Z (f8.no Z (f8.no Z (f8.no Z (f8.no Z (f8.no Z (f8.no Z (f8.no Z (f8.no Z (f8.no Z (f8.no Z (f8.no Z ?_)))))))))))
      apply f8.go; exact Z; exact Z; exact Z; intro E hE; (refine AOps.e Z Z ?_); exact AOps.nil ⟨Z, Z⟩
      exact f8.nil
     exact F7.nil
    dsimp only [i9]
    refine b5 (.frzV (id := 4) (l := a44) (env2 := [(4, .c (row 1 d4 a44))]) (σ2 := [.dead, .dead, .one (vec 1 d4 [sv]), .dead, .dead]) Z Z (by exact ⟨⟨_, Z, .inr ⟨_, Z, Z, Z⟩⟩, Y⟩) Z (by exact ⟨trivial, trivial, FrzB.vec, trivial, trivial, Y⟩) (.ret ?_))
    obtain rfl := oi h
    exact Done.ret Z Z
theorem x6 {l : LL} {sv : List Int} {r : Int} (h : y5 l sv = some r) : d9 Tryz.prog 17 [.c (row 1 d4 l), .c (row 1 intI sv)] (.c (int r)) := by
 unfold d9
 refine FnOk.enter (rs := [.t 4]) Tryz.func17 Z Tryz.ntmps17 Tryz.results17 Z ⟨trivial, Y⟩ (by kernel_rfl) Z ?_
 unfold y5 at h
 refine AWP.d (.f (.e Z Z (.nil (b5 (.d (.d (.f (.e Z Z (.nil (b5 (.l ?_)))))))))))
 obtain ⟨oo, ho1, h⟩ := b7 h
 refine AWP.rngS ho1 (fun iv3 _ => ⟨[(0, .c (row 1 d4 l)), (1, .c (row 1 intI sv)), (5, .c (int iv3))], []⟩) (fun o e st => match o with | .inl _ => e = .exit 0 ∧ Sub [] st ⟨[], []⟩ | .inr x => e = .ret ∧ Done [.t 4] (fun t _ => t = .c (int x)) .ret st) ?_ ?_ ?_ ?_
 ·try dsimp only
  exact Sub.env ⟨Z, Z, Z, Y⟩
 ·intro iv3 s hloiv3 hltiv3 _
  try dsimp only
  refine AWP.d (.d (.f (.a Z Z (.a Z Z (S.len Z Z (fun hl8 => .j Z Z Z (.nil (b5 (.q Z hltiv3 (.exit (d6 (d6 ⟨Z, ?_⟩))))))))))))
  exact Sub.env trivial
 ·intro iv3 s o hloiv3 hltiv3 h
  unfold U1 at h
  try dsimp only at h ⊢
  refine AWP.d (.d (.f (.a Z Z (.a Z Z (S.len Z Z (fun hl8 => .j Z Z Z (.nil (b5 (.r Z hltiv3 (.skip (b5 (.d (.l (.d ?_))))))))))))))
  obtain ⟨a14, ha14, a17, ha17, h⟩ := b2 h
  refine AWP.f (.a Z Z (.a Z Z (S.idx ha14 Z Z Z Z (.p Z Z Z Z (.a Z Z (.k Z Z Z Z (W1 ha17) Z (.nil (b5 (.s Z h (fun hc4 h => ?_) (fun hc4 h => ?_))))))))))
  ·refine AWP.d (.f (.a Z Z (.e Z Z (.nil (b5 (.ret (g7 (d8 ?_))))))))
   obtain rfl := oi h
   refine d8 ⟨_, Z, Z, ?_⟩
   exact Done.ret Z Z
  ·refine AWP.skip (d5 (b5 (.f (.a Z Z (.add Z Z Z (by omega) (.e Z Z (.nil ?_)))))))
   obtain rfl := oi h
   refine b5 ⟨_, Z, ?_⟩
   exact Sub.env ⟨Z, Z, Z, Y⟩
 ·intro e s hq
  rcases oo with u | x
  ·try dsimp only at h hq
   obtain ⟨rfl, hs⟩ := hq
   refine ⟨_, hs, ?_⟩
   refine f9 (b5 (.d (.f (.e Z Z (.nil (b5 (.ret ?_)))))))
   obtain rfl := oi h
   exact Done.ret Z Z
  ·try dsimp only at h hq
   obtain ⟨rfl, hs⟩ := hq
   refine ⟨_, Sub.refl _ _, ?_⟩
   refine g7 (d8 ?_)
   obtain rfl := oi h
   exact hs
theorem N7 {ov : b9} {sv : List Int} {op : Int} {r : LL × (List Int)} (h : G5 ov sv op = some r) : d9 Tryz.prog 41 [.agg (tO ov), .c (row 1 intI sv), .c (int op)] (.tup [.c (row 1 d4 r.1), .c (row 1 intI r.2)]) := by
 unfold d9
 refine FnOk.enter (rs := [.t 6, .t 7]) Tryz.func41 Z Tryz.ntmps41 Tryz.results41 Z ⟨trivial, trivial, Y⟩ (by kernel_rfl) Z ?_
 unfold G5 at h
 refine AWP.d (.f (W.box Z Z Z Z Z Z (.e Z Z (.e Z Z (.nil (b5 (.d (.f (.e Z Z (.nil (b5 (.d ?_))))))))))))
 obtain ⟨a17, ha17, h⟩ := b7 h
 refine AWP.f (W.fieldAddr Z Z Z Z (.m Z Z Z Z Z Z (.a Z Z (S.idx ha17 Z Z Z Z (W.fieldAddrI Z Z Z Z (.p Z Z Z Z (.e Z Z (.nil (b5 (.d (.d (.f (.e Z Z (.nil (b5 (.l ?_))))))))))))))))
 obtain ⟨states4, ho1, h⟩ := b7 h
 refine AWP.forS ho1 (fun kv5 states4 => ⟨[(1, .c (row 1 intI sv)), (3, .c (.ptr 0 0 0)), (8, .c (row 1 d4 states4)), (9, .c (row 3 n8 a17.outcomes)), (10, .c (int kv5))], [.one (.cells 4 [(tO ov)])]⟩) (fun states4 e st => e = .exit 0 ∧ Sub [] st ⟨[(1, .c (row 1 intI sv)), (3, .c (.ptr 0 0 0)), (8, .c (row 1 d4 states4)), (9, .c (row 3 n8 a17.outcomes))], [.one (.cells 4 [(tO ov)])]⟩) ?_ ?_ ?_ ?_
 ·try dsimp only
  exact (Sub.nilrow 1 8 Z).trans (Sub.env ⟨Z, Z, Z, Z, Z, Y⟩)
 ·intro kv5 states4 hlokv5 hltkv5 _
  try dsimp only
  refine AWP.d (.d (.f (.a Z Z (.a Z Z (S.len Z Z (fun hl22 => .j Z Z Z (.nil (b5 (.q Z hltkv5 (.exit (d6 (d6 ⟨Z, ?_⟩))))))))))))
  exact Sub.env ⟨Z, Z, Z, Z, Y⟩
 ·intro kv5 states4 o hlokv5 hltkv5 h
  unfold U3 at h
  try dsimp only at h ⊢
  refine AWP.d (.d (.f (.a Z Z (.a Z Z (S.len Z Z (fun hl22 => .j Z Z Z (.nil (b5 (.r Z hltkv5 (.skip (b5 (.d (.l ?_)))))))))))))
  obtain ⟨a31, ha31, a33, ha33, a34, ha34, h⟩ := b3 h
  refine AWP.drawI mixed Z ?_
  refine g9.consF Z (fun E => AOps.a Z Z (.nil ⟨Z, Z⟩)) Z (.consF Z (fun E => W.loadAgg Z Z Z Z Z Z Z (.nil ⟨Z, Z⟩)) Z (.consF Z (fun E => AOps.a Z Z (.nil ⟨Z, Z⟩)) Z (.consF Z (fun E => AOps.a Z Z (.nil ⟨Z, Z⟩)) Z (.consF Z (fun E => AOps.a Z Z (.nil ⟨Z, Z⟩)) Z (.consF Z (fun E => S.idx ha31 Z Z Z Z (.nil ⟨Z, Z⟩)) Z (.consF Z (fun E => W.loadIAgg Z Z Z Z Z (.nil ⟨Z, Z⟩)) Z (.consF Z (fun E => AOps.k Z Z Z Z (m5.data (af8 ha33)) Z (.nil ⟨Z, Z⟩)) Z (.consF Z (fun E => AOps.k Z Z Z Z (Y4 ha34) Z (.nil ⟨Z, Z⟩)) Z (.consF Z (fun E => AOps.e Z Z (.nil ⟨Z, Z⟩)) Z ?_)))))))))
  refine g9.done ?_
  dsimp only [i9]
  refine d5 (b5 (.f (.a Z Z (.add Z Z Z (by omega) (.e Z Z (.nil ?_))))))
  obtain rfl := oi h
  refine b5 (Sub.env ⟨Z, Z, Z, Z, Z, Y⟩)
 ·intro e s hq
  obtain ⟨rfl, hs⟩ := hq
  refine ⟨_, hs, ?_⟩
  refine f9 (b5 (.d ?_))
  obtain ⟨a37, ha37, h⟩ := b7 h
  refine AWP.f (.a Z Z (S.len Z Z (fun hl36 => S.make (f := intI) ha37 (.val .nil) Z Z Z Z Z Z (.e Z Z (.nil (b5 (.d (.d (.f (.e Z Z (.nil (b5 (.l ?_)))))))))))))
  obtain ⟨c6, ho2, h⟩ := b7 h
  refine AWP.forS ho2 (fun kv7 c6 => ⟨[(1, .c (row 1 intI sv)), (3, .c (.ptr 0 0 0)), (8, .c (row 1 d4 states4)), (9, .c (row 3 n8 a17.outcomes)), (11, .c (.own 1 0 c6.length)), (12, .c (int kv7))], [.one (.cells 4 [(tO ov)]), .one (vec 1 intI c6)]⟩) (fun c6 e st => e = .exit 2 ∧ Sub [] st ⟨[(8, .c (row 1 d4 states4)), (11, .c (.own 1 0 c6.length))], [.one (.cells 4 [(tO ov)]), .one (vec 1 intI c6)]⟩) ?_ ?_ ?_ ?_
  ·try dsimp only
   exact Sub.env ⟨Z, Z, Z, Z, Z, Z, Y⟩
  ·intro kv7 c6 hlokv7 hltkv7 _
   try dsimp only
   refine AWP.d (.d (.f (.a Z Z (.a Z Z (S.len Z Z (fun hl40 => .j Z Z Z (.nil (b5 (.q Z hltkv7 (.exit (d6 (d6 ⟨Z, ?_⟩))))))))))))
   exact Sub.env ⟨Z, Z, Y⟩
  ·intro kv7 c6 o hlokv7 hltkv7 h
   unfold T3 at h
   try dsimp only at h ⊢
   refine AWP.d (.d (.f (.a Z Z (.a Z Z (S.len Z Z (fun hl40 => .j Z Z Z (.nil (b5 (.r Z hltkv7 (.skip (b5 (.d (.l (.d ?_))))))))))))))
   obtain ⟨a49, ha49, a51, ha51, a52, ha52, h⟩ := b3 h
   refine AWP.drawEI [7] mixed Z Z Z ?_
   refine g8.consN Z Z (fun E => AOps.a Z Z (.nil ⟨Z, Z⟩)) Z (.consN Z Z (fun E => W.loadAgg Z Z Z Z Z Z Z (.nil ⟨Z, Z⟩)) Z (.consN Z Z (fun E => AOps.a Z Z (.nil ⟨Z, Z⟩)) Z (.consN Z Z (fun E => AOps.a Z Z (.nil ⟨Z, Z⟩)) Z (.consN Z Z (fun E => AOps.a Z Z (.nil ⟨Z, Z⟩)) Z (.consN Z Z (fun E => S.idx ha49 Z Z Z Z (.nil ⟨Z, Z⟩)) Z (.consN Z Z (fun E => W.loadIAgg Z Z Z Z Z (.nil ⟨Z, Z⟩)) Z ?_))))))
   apply g8.consE; exact Z; exact Z; intro E
   refine S.fresh Z Z Z Z (af8 ha51) Z Z (.nil ⟨Z, Z⟩)
   exact Z
   exact Z
   refine g8.consN Z Z (fun E => AOps.y Z Z (.cons (.c .imm) (.cons (.c (.own Z Z)) .nil)) Z (x6 ha52) Z (.nil ⟨Z, Z⟩)) Z (.consN Z Z (fun E => AOps.e Z Z (.nil ⟨Z, Z⟩)) Z ?_)
   refine g8.done Z ?_ ?_
   ·refine e8.cons Z Z ?_ ?_
    refine b8.go Z Z (fun E => AOps.a Z Z (AOps.nil ⟨Z, Z⟩)) ?_
    refine b8.go Z Z (fun E => AOps.a Z Z (AOps.nil ⟨Z, Z⟩)) ?_
    exact b8.nil
    refine e8.cons Z Z ?_ ?_
    refine b8.go Z Z (fun E => W.loadAgg Z Z Z Z Z Z Z (AOps.nil ⟨Z, Z⟩)) ?_
    refine b8.skip Z (b8.nil)
    refine e8.cons Z Z ?_ ?_
    refine b8.go Z Z (fun E => AOps.a Z Z (AOps.nil ⟨Z, Z⟩)) ?_
    refine b8.skip Z (b8.nil)
    refine e8.cons Z Z ?_ ?_
    refine b8.go Z Z (fun E => AOps.a Z Z (AOps.nil ⟨Z, Z⟩)) ?_
    refine b8.skip Z (b8.nil)
    refine e8.cons Z Z ?_ ?_
    refine b8.go Z Z (fun E => AOps.a Z Z (AOps.nil ⟨Z, Z⟩)) ?_
    refine b8.skip Z (b8.nil)
    refine e8.cons Z Z ?_ ?_
    refine b8.go Z Z (fun E => S.idx ha49 Z Z Z Z (AOps.nil ⟨Z, Z⟩)) ?_
    refine b8.skip Z (b8.nil)
    refine e8.cons Z Z ?_ ?_
    refine b8.go Z Z (fun E => W.loadIAgg Z Z Z Z Z (AOps.nil ⟨Z, Z⟩)) ?_
    refine b8.skip Z (b8.nil)
    refine e8.skip Z ?_
    refine e8.cons Z Z ?_ ?_
    refine b8.skip Z ?_
    refine b8.go Z Z (fun E => AOps.y Z Z (.cons (.c .imm) (.cons (.c (.own Z Z)) .nil)) Z (x6 ha52) Z (AOps.nil ⟨Z, Z⟩)) ?_
    exact b8.nil
    refine e8.cons Z Z ?_ ?_
    refine b8.skip Z ?_
    refine b8.go Z Z (fun E => AOps.e Z Z (AOps.nil ⟨Z, Z⟩)) ?_
    exact b8.nil
    exact e8.nil
   dsimp only [i9]
   refine b5 ?_
   obtain ⟨a57, ha57, a61, ha61, a65, ha65, h⟩ := b3 h
   refine AWP.drawEI [13] mixed Z Z Z ?_
   refine g8.consN Z Z (fun E => AOps.a Z Z (.nil ⟨Z, Z⟩)) Z (.consN Z Z (fun E => AOps.a Z Z (.nil ⟨Z, Z⟩)) Z (.consN Z Z (fun E => AOps.a Z Z (.nil ⟨Z, Z⟩)) Z (.consN Z Z (fun E => AOps.a Z Z (.nil ⟨Z, Z⟩)) Z (.consN Z Z (fun E => S.idxO ha57 Z Z Z Z Z (.nil ⟨Z, Z⟩)) Z (.consN Z Z (fun E => S.loadO ha57 Z Z Z Z Z (.nil ⟨Z, Z⟩)) Z (.consN Z Z (fun E => AOps.a Z Z (.nil ⟨Z, Z⟩)) Z (.consN Z Z (fun E => AOps.a Z Z (.nil ⟨Z, Z⟩)) Z (.consN Z Z (fun E => S.idx ha61 Z Z Z Z (.nil ⟨Z, Z⟩)) Z (.consN Z Z (fun E => W.fieldAddrI Z Z Z Z (.nil ⟨Z, Z⟩)) Z (.consN Z Z (fun E => AOps.p Z Z Z Z (.nil ⟨Z, Z⟩)) Z (.consN Z Z (fun E => S.add Z Z Z (.nil ⟨Z, Z⟩)) Z (.consN Z Z (fun E => S.idxO ha65 Z Z Z Z Z (.nil ⟨Z, Z⟩)) Z ?_))))))))))))
   apply g8.consE (v := .undef); exact Z; exact Z; intro E
   refine S.storeO1 (f := intI) (a' := w64 (a57 + a61.weight)) (ix_lt ha65) (fun _ => ⟨_, Z⟩) Z Z Z Z Z ?_
   exact AOps.nil ⟨Z, Z⟩
   exact Z
   exact Z
   refine g8.done Z ?_ ?_
   ·refine e8.cons Z Z ?_ ?_
    refine b8.go Z Z (fun E => AOps.a Z Z (AOps.nil ⟨Z, Z⟩)) ?_
    refine b8.skip Z (b8.nil)
    refine e8.cons Z Z ?_ ?_
    refine b8.go Z Z (fun E => AOps.a Z Z (AOps.nil ⟨Z, Z⟩)) ?_
    refine b8.skip Z (b8.nil)
    refine e8.cons Z Z ?_ ?_
    refine b8.go Z Z (fun E => AOps.a Z Z (AOps.nil ⟨Z, Z⟩)) ?_
    refine b8.skip Z (b8.nil)
    refine e8.cons Z Z ?_ ?_
    refine b8.go Z Z (fun E => AOps.a Z Z (AOps.nil ⟨Z, Z⟩)) ?_
    refine b8.skip Z (b8.nil)
    refine e8.cons Z Z ?_ ?_
    refine b8.go Z Z (fun E => S.idxO ha57 Z Z Z Z Z (AOps.nil ⟨Z, Z⟩)) ?_
    refine b8.skip Z (b8.nil)
    refine e8.cons Z Z ?_ ?_
    refine b8.go Z Z (fun E => S.loadO ha57 Z Z Z Z Z (AOps.nil ⟨Z, Z⟩)) ?_
    refine b8.skip Z (b8.nil)
    refine e8.cons Z Z ?_ ?_
    refine b8.go Z Z (fun E => AOps.a Z Z (AOps.nil ⟨Z, Z⟩)) ?_
    refine b8.skip Z (b8.nil)
    refine e8.cons Z Z ?_ ?_
    refine b8.go Z Z (fun E => AOps.a Z Z (AOps.nil ⟨Z, Z⟩)) ?_
    refine b8.skip Z (b8.nil)
    refine e8.cons Z Z ?_ ?_
    refine b8.go Z Z (fun E => S.idx ha61 Z Z Z Z (AOps.nil ⟨Z, Z⟩)) ?_
    refine b8.skip Z (b8.nil)
    refine e8.cons Z Z ?_ ?_
    refine b8.go Z Z (fun E => W.fieldAddrI Z Z Z Z (AOps.nil ⟨Z, Z⟩)) ?_
    refine b8.skip Z (b8.nil)
    refine e8.cons Z Z ?_ ?_
    refine b8.go Z Z (fun E => AOps.p Z Z Z Z (AOps.nil ⟨Z, Z⟩)) ?_
    refine b8.skip Z (b8.nil)
    refine e8.cons Z Z ?_ ?_
    refine b8.go Z Z (fun E => S.add Z Z Z (AOps.nil ⟨Z, Z⟩)) ?_
    refine b8.skip Z (b8.nil)
    refine e8.cons Z Z ?_ ?_
    refine b8.go Z Z (fun E => S.idxO ha65 Z Z Z Z Z (AOps.nil ⟨Z, Z⟩)) ?_
    refine b8.skip Z (b8.nil)
    refine e8.skip Z (e8.nil)
   dsimp only [i9]
   refine d5 (b5 (.f (.a Z Z (.add Z Z Z (by omega) (.e Z Z (.nil ?_))))))
   obtain rfl := oi h
   refine b5 (Sub.cut ⟨Z, Z, Z, Z, (x8 (by first | rfl | simp only [List.length_set])), Z, Y⟩ Z ⟨.one Z, .vec, Y⟩ Z)
  ·intro e s hq
   obtain ⟨rfl, hs⟩ := hq
   refine ⟨_, hs, ?_⟩
   refine f9 (b5 (.d (.f (.a Z Z (.a Z Z (.e Z Z (.e Z Z (.nil (b5 (.frzV (id := 1) (l := c6) (env2 := [(6, .c (row 1 d4 states4)), (7, .c (row 1 intI c6))]) (σ2 := [.one (.cells 4 [(tO ov)]), .dead]) Z Z (by exact ⟨⟨_, Z, .inl ⟨Z, Z⟩⟩, ⟨_, Z, .inr ⟨_, Z, Z, Z⟩⟩, Y⟩) Z (by exact ⟨⟨Z, .inl ⟨Z, Z⟩, .inl ⟨Z, Z⟩, .inl ⟨Z, Z⟩, .inl ⟨Z, Z⟩, Y⟩, trivial, Y⟩) (.ret ?_)))))))))))
   obtain rfl := oi h
   exact Done.ret Z Z
theorem ref8_Reached_ok {ov : b9} {most : Int} {r : LL × Bool} (h : p7 ov most = some r) : d9 Tryz.prog 15 [.agg (tO ov), .c (int most)] (.tup [.c (row 1 d4 r.1), .c (bool r.2)]) := by
 unfold d9
 refine FnOk.enter (rs := [.t 4, .t 5]) Tryz.func15 Z Tryz.ntmps15 Tryz.results15 Z ⟨trivial, trivial, Y⟩ (by kernel_rfl) Z ?_
 unfold p7 at h
 refine AWP.d (.f (W.box Z Z Z Z Z Z (.e Z Z (.e Z Z (.nil (b5 (.d (.f (W.fieldAddr Z Z Z Z (.m Z Z Z Z Z Z (S.lit (f := d4) (l := [ov.init]) (ess := [[row 1 intI ov.init]]) Z Z Z Z Z Z Z ⟨⟨.inl Z, Y⟩, Y⟩ Z Z Z (.e Z Z (.nil (b5 (.d (.f (.e Z Z (.nil (b5 (.d ?_))))))))))))))))))))
 obtain ⟨a21, ha21, a23, ha23, h⟩ := b2 h
 refine AWP.f (.a Z Z (W.fieldAddr Z Z Z Z (.m Z Z Z Z Z Z (.k Z Z Z Z (ab9 ha21) Z (S.lit (f := intI) (l := [a21]) (ess := [[int a21]]) Z Z Z Z Z Z Z ⟨⟨.inl Z, Y⟩, Y⟩ Z Z Z (S.appendNil (f := intI) ha23 Z Z Z Z (.own Z Z) Z Z Z (.e Z Z (.nil (b5 (.d (.d (.f (.e Z Z (.nil (b5 (.l ?_))))))))))))))))
 obtain ⟨oo, ho1, h⟩ := b7 h
 refine AWP.loopS ho1 (fun (c3, c4, iv5) => ⟨[(1, .c (int most)), (2, .c (.ptr 0 0 0)), (6, .c (.own 1 0 c3.length)), (7, .c (.own 3 0 c4.length)), (8, .c (int iv5))], [.one (.cells 4 [(tO ov)]), .one (vec 1 d4 c3), .dead, .one (vec 1 intI c4)]⟩) (fun o e st => match o with | .inl c6 => e = .exit 0 ∧ Sub [] st ⟨[(6, .c (.own 1 0 c6.length))], [.dead, .one (vec 1 d4 c6)]⟩ | .inr x => e = .ret ∧ Done [.t 4, .t 5] (fun t _ => t = .tup [.c (row 1 d4 x.1), .c (bool x.2)]) .ret st) ?_ ?_ ?_
 ·try dsimp only
  exact Sub.cut ⟨Z, Z, Z, Z, Z, Y⟩ Z ⟨.one Z, .vec, .dead, .vec, Y⟩ Z
 ·intro s o h
  obtain ⟨c3, c4, iv5⟩ := s
  unfold l8 at h
  try dsimp only at h ⊢
  refine AWP.d (.d (.f (.a Z Z (.a Z Z (S.lenO Z Z Z (fun hl26 => .j Z Z Z (.nil (b5 (.ite Z h (fun hc7 h => ?_) (fun hc7 h => ?_))))))))))
  ·refine AWP.skip (b5 (.d (.l (.d (.f (.e Z Z (.nil (b5 (.l ?_)))))))))
   obtain ⟨oo, ho2, h⟩ := b7 h
   refine AWP.rngS ho2 (fun op10 (c8, c9) => ⟨[(1, .c (int most)), (2, .c (.ptr 0 0 0)), (6, .c (.own 1 0 c8.length)), (7, .c (.own 3 0 c9.length)), (8, .c (int iv5)), (9, .c (int op10))], [.one (.cells 4 [(tO ov)]), .one (vec 1 d4 c8), .dead, .one (vec 1 intI c9)]⟩) (fun o e st => match o with | .inl (c8, c9) => e = .exit 2 ∧ Sub [] st ⟨[(1, .c (int most)), (2, .c (.ptr 0 0 0)), (6, .c (.own 1 0 c8.length)), (7, .c (.own 3 0 c9.length)), (8, .c (int iv5))], [.one (.cells 4 [(tO ov)]), .one (vec 1 d4 c8), .dead, .one (vec 1 intI c9)]⟩ | .inr x => e = .ret ∧ Done [.t 4, .t 5] (fun t _ => t = .tup [.c (row 1 d4 x.1), .c (bool x.2)]) .ret st) ?_ ?_ ?_ ?_
   ·try dsimp only
    exact Sub.env ⟨Z, Z, Z, Z, Z, Z, Y⟩
   ·intro op10 s hloop10 hltop10 _
    obtain ⟨c8, c9⟩ := s
    try dsimp only
    refine AWP.d (.d (.f (.a Z Z (W.fieldAddr Z Z Z Z (.m Z Z Z Z Z Z (S.len Z Z (fun hl33 => .j Z Z Z (.nil (b5 (.q Z hltop10 (.exit (d6 (d6 ⟨Z, ?_⟩)))))))))))))
    exact Sub.env ⟨Z, Z, Z, Z, Z, Y⟩
   ·intro op10 s o hloop10 hltop10 h
    obtain ⟨c8, c9⟩ := s
    unfold l5 at h
    try dsimp only at h ⊢
    refine AWP.d (.d (.f (.a Z Z (W.fieldAddr Z Z Z Z (.m Z Z Z Z Z Z (S.len Z Z (fun hl33 => .j Z Z Z (.nil (b5 (.r Z hltop10 (.skip (b5 (.seqF (J4) o (fun (c11, c12) => ⟨[(1, .c (int most)), (2, .c (.ptr 0 0 0)), (6, .c (.own 1 0 c11.length)), (7, .c (.own 3 0 c12.length)), (8, .c (int iv5)), (9, .c (int op10))], [.one (.cells 4 [(tO ov)]), .one (vec 1 d4 c11), .dead, .one (vec 1 intI c12)]⟩) (fun x h => ?_) ?_)))))))))))))
    ·obtain ⟨c11, c12⟩ := x
     unfold J4 at h
     try dsimp only at h ⊢
     refine AWP.f (.a Z Z (.add Z Z Z (by omega) (.e Z Z (.nil ?_))))
     obtain rfl := oi h
     refine b5 ⟨_, Z, ?_⟩
     exact Sub.env ⟨Z, Z, Z, Z, Z, Z, Y⟩
    ·refine AWP.l (.d (.d ?_))
     obtain ⟨a40, ha40, a43, ha43, h⟩ := b2 h
     refine AWP.drawI mixed Z ?_
     refine g9.consF Z (fun E => W.loadAgg Z Z Z Z Z Z Z (.nil ⟨Z, Z⟩)) Z (.consF Z (fun E => AOps.a Z Z (.nil ⟨Z, Z⟩)) Z (.consF Z (fun E => AOps.a Z Z (.nil ⟨Z, Z⟩)) Z (.consF Z (fun E => S.idxO ha40 Z Z Z Z Z (.nil ⟨Z, Z⟩)) Z (.consF Z (fun E => S.loadO ha40 Z Z Z Z Z (.nil ⟨Z, Z⟩)) Z (.consF Z (fun E => AOps.a Z Z (.nil ⟨Z, Z⟩)) Z (.consF Z (fun E => AOps.k Z Z Z Z (r9 ha43) Z (.nil ⟨Z, Z⟩)) Z (.consF Z (fun E => AOps.v Z Z (.nil ⟨Z, Z⟩)) Z ?_)))))))
     refine g9.done ?_
     dsimp only [i9]
     refine b5 (.s Z h (fun hc13 h => ?_) (fun hc13 h => ?_))
     ·refine AWP.exit (d6 (f9 (b5 ⟨_, h, ?_⟩)))
      exact Sub.env ⟨Z, Z, Z, Z, Z, Z, Y⟩
     ·refine AWP.skip (b5 (.d ?_))
      obtain ⟨a49, ha49, a52, ha52, h⟩ := b2 h
      refine AWP.drawI mixed Z ?_
      refine g9.consF Z (fun E => W.loadAgg Z Z Z Z Z Z Z (.nil ⟨Z, Z⟩)) Z (.consF Z (fun E => AOps.a Z Z (.nil ⟨Z, Z⟩)) Z (.consF Z (fun E => AOps.a Z Z (.nil ⟨Z, Z⟩)) Z (.consF Z (fun E => S.idxO ha49 Z Z Z Z Z (.nil ⟨Z, Z⟩)) Z (.consF Z (fun E => S.loadO ha49 Z Z Z Z Z (.nil ⟨Z, Z⟩)) Z (.consF Z (fun E => AOps.a Z Z (.nil ⟨Z, Z⟩)) Z (.consF Z (fun E => AOps.k Z Z Z Z (N7 ha52) Z (.nil ⟨Z, Z⟩)) Z (.consF Z (fun E => AOps.a Z Z (.nil ⟨Z, Z⟩)) Z (.consF Z (fun E => AOps.w Z Z Z (.nil ⟨Z, Z⟩)) Z (.consF Z (fun E => AOps.w Z Z Z (.nil ⟨Z, Z⟩)) Z (.consF Z (fun E => AOps.e Z Z (.nil ⟨Z, Z⟩)) Z (.consF Z (fun E => AOps.e Z Z (.nil ⟨Z, Z⟩)) Z ?_)))))))))))
      refine g9.done ?_
      dsimp only [i9]
      refine b5 (.d (.f (.e Z Z (.nil (b5 (.l ?_))))))
      obtain ⟨oo, ho4, h⟩ := b7 h
      refine AWP.rngS ho4 (fun kv16 (c14, c15) => ⟨[(1, .c (int most)), (2, .c (.ptr 0 0 0)), (6, .c (.own 1 0 c14.length)), (7, .c (.own 3 0 c15.length)), (8, .c (int iv5)), (9, .c (int op10)), (10, .c (row 1 d4 a52.1)), (12, .c (int kv16))], [.one (.cells 4 [(tO ov)]), .one (vec 1 d4 c14), .dead, .one (vec 1 intI c15)]⟩) (fun o e st => match o with | .inl (c14, c15) => e = .exit 4 ∧ Sub [] st ⟨[(1, .c (int most)), (2, .c (.ptr 0 0 0)), (6, .c (.own 1 0 c14.length)), (7, .c (.own 3 0 c15.length)), (8, .c (int iv5)), (9, .c (int op10))], [.one (.cells 4 [(tO ov)]), .one (vec 1 d4 c14), .dead, .one (vec 1 intI c15)]⟩ | .inr x => e = .ret ∧ Done [.t 4, .t 5] (fun t _ => t = .tup [.c (row 1 d4 x.1), .c (bool x.2)]) .ret st) ?_ ?_ ?_ ?_
      ·try dsimp only
       exact Sub.env ⟨Z, Z, Z, Z, Z, Z, Z, Z, Y⟩
      ·intro kv16 s hlokv16 hltkv16 _
       obtain ⟨c14, c15⟩ := s
       try dsimp only
       refine AWP.d (.d (.f (.a Z Z (.a Z Z (S.len Z Z (fun hl57 => .j Z Z Z (.nil (b5 (.q Z hltkv16 (.exit (d6 (d6 ⟨Z, ?_⟩))))))))))))
       exact Sub.env ⟨Z, Z, Z, Z, Z, Z, Y⟩
      ·intro kv16 s o hlokv16 hltkv16 h
       obtain ⟨c14, c15⟩ := s
       unfold l9 at h
       try dsimp only at h ⊢
       refine AWP.d (.d (.f (.a Z Z (.a Z Z (S.len Z Z (fun hl57 => .j Z Z Z (.nil (b5 (.r Z hltkv16 (.skip (b5 (.seqF (J5) o (fun (c17, c18) => ⟨[(1, .c (int most)), (2, .c (.ptr 0 0 0)), (6, .c (.own 1 0 c17.length)), (7, .c (.own 3 0 c18.length)), (8, .c (int iv5)), (9, .c (int op10)), (10, .c (row 1 d4 a52.1)), (12, .c (int kv16))], [.one (.cells 4 [(tO ov)]), .one (vec 1 d4 c17), .dead, .one (vec 1 intI c18)]⟩) (fun x h => ?_) ?_))))))))))))
       ·obtain ⟨c17, c18⟩ := x
        unfold J5 at h
        try dsimp only at h ⊢
        refine AWP.f (.a Z Z (.add Z Z Z (by omega) (.e Z Z (.nil ?_))))
        obtain rfl := oi h
        refine b5 ⟨_, Z, ?_⟩
        exact Sub.env ⟨Z, Z, Z, Z, Z, Z, Z, Z, Y⟩
       ·refine AWP.l (.d (.d ?_))
        obtain ⟨a64, ha64, a66, ha66, a67, ha67, h⟩ := b3 h
        refine AWP.f (.a Z Z (.a Z Z (.a Z Z (S.idx ha64 Z Z Z Z (.p Z Z Z Z (.k Z Z Z Z (ab9 ha66) Z (.y Z Z (.cons (.c (.own Z Z)) (.cons (.c .imm) .nil)) Z (E4 ha67) Z (.nil (b5 (.s Z h (fun hc19 h => ?_) (fun hc19 h => ?_)))))))))))
        ·refine AWP.exit (d6 (f9 (b5 ⟨_, h, ?_⟩)))
         exact Sub.env ⟨Z, Z, Z, Z, Z, Z, Z, Z, Y⟩
        ·refine AWP.skip (b5 (.d (.d (.f (.a Z Z (S.lenO Z Z Z (fun hl69 => .a Z Z (.geq Z Z Z (.nil (b5 (.ite Z h (fun hc20 h => ?_) (fun hc20 h => ?_))))))))))))
         ·refine AWP.d (.f (.e Z Z (.e Z Z (.nil (b5 (.nilrow 1 4 Z (.ret (d8 (g7 (d8 ?_))))))))))
          obtain rfl := oi h
          refine d8 ⟨_, Z, Z, ?_⟩
          exact Done.ret Z Z
         ·refine AWP.skip (b5 (.d ?_))
          obtain ⟨a75, ha75, a78, ha78, h⟩ := b2 h
          refine AWP.f (.a Z Z (.a Z Z (.a Z Z (S.idx ha75 Z Z Z Z (.p Z Z Z Z (S.lit (f := d4) (l := [a75]) (ess := [[row 1 intI a75]]) Z Z Z Z Z Z Z ⟨⟨.inl Z, Y⟩, Y⟩ Z Z Z (S.append (f := d4) ha78 Z Z Z Z Z Z (.own Z Z) Z Z Z Z (.e Z Z (.nil (b5 (.a (env' := [(1, .c (int most)), (2, .c (.ptr 0 0 0)), (6, .c (.own 1 0 a78.length)), (7, .c (.own 3 0 c15.length)), (8, .c (int iv5)), (9, .c (int op10)), (10, .c (row 1 d4 a52.1)), (12, .c (int kv16))]) (σ' := [.one (.cells 4 [(tO ov)]), .one (vec 1 d4 a78), .dead, .one (vec 1 intI c15), .one (vec 1 d4 [a75])]) 1 5 Z Z Z ⟨Z, Z, Z, Z, Z, Z, Z, Z, Y⟩ Z ⟨⟨Z, Z⟩, ⟨Blk.im_ok _ _ _, k7 Z⟩, trivial, ⟨Blk.im_ok _ _ _, k7 Z⟩, ⟨Blk.im_ok _ _ _, k7 Z⟩, Y⟩ ?_)))))))))))
          obtain ⟨a82, ha82, a84, ha84, a86, ha86, h⟩ := b3 h
          refine AWP.f (.a Z Z (.a Z Z (.a Z Z (S.idx ha82 Z Z Z Z (.p Z Z Z Z (.k Z Z Z Z (ab9 ha84) Z (S.lit (f := intI) (l := [a84]) (ess := [[int a84]]) Z Z Z Z Z Z Z ⟨⟨.inl Z, Y⟩, Y⟩ Z Z Z (S.append (f := intI) ha86 Z Z Z Z Z Z (.own Z Z) Z Z Z Z (.e Z Z (.nil (d5 (b5 ⟨_, h, ?_⟩))))))))))))
          exact (Sub.move (env' := [(1, .c (int most)), (2, .c (.ptr 0 0 0)), (6, .c (.own 1 0 a78.length)), (7, .c (.own 3 0 a86.length)), (8, .c (int iv5)), (9, .c (int op10)), (10, .c (row 1 d4 a52.1)), (12, .c (int kv16))]) (σ' := [.one (.cells 4 [(tO ov)]), .one (vec 1 d4 a78), .dead, .one (vec 1 intI a86), .one (vec 1 d4 [a75]), .one (vec 1 intI [a84])]) 3 6 Z Z Z ⟨Z, Z, Z, Z, Z, Z, Z, Z, Y⟩ Z ⟨⟨Z, Z⟩, ⟨Blk.im_ok _ _ _, k7 Z⟩, trivial, ⟨Blk.im_ok _ _ _, k7 Z⟩, ⟨Blk.im_ok _ _ _, k7 Z⟩, ⟨Blk.im_ok _ _ _, k7 Z⟩, Y⟩).trans (Sub.cut ⟨Z, Z, Z, Z, Z, Z, Z, Z, Y⟩ Z ⟨.one Z, .vec, .dead, .vec, Y⟩ Z)
      ·intro e s hq
       rcases oo with ⟨c14, c15⟩ | x
       ·try dsimp only at h hq
        obtain ⟨rfl, hs⟩ := hq
        refine ⟨_, hs, ?_⟩
        refine f9 (d5 (b5 ⟨_, h, ?_⟩))
        exact Sub.env ⟨Z, Z, Z, Z, Z, Z, Y⟩
       ·try dsimp only at h hq
        obtain ⟨rfl, hs⟩ := hq
        refine ⟨_, Sub.refl _ _, ?_⟩
        refine g7 (g7 (d8 ?_))
        obtain rfl := oi h
        refine d8 ⟨_, Z, Z, ?_⟩
        exact hs
   ·intro e s hq
    rcases oo with ⟨c8, c9⟩ | x
    ·try dsimp only at h hq
     obtain ⟨rfl, hs⟩ := hq
     refine ⟨_, hs, ?_⟩
     refine f9 (d5 (b5 (.f (.a Z Z (S.add Z Z Z (.e Z Z (.nil ?_)))))))
     obtain rfl := oi h
     refine b5 ⟨_, Z, ?_⟩
     exact Sub.env ⟨Z, Z, Z, Z, Z, Y⟩
    ·try dsimp only at h hq
     obtain ⟨rfl, hs⟩ := hq
     refine ⟨_, Sub.refl _ _, ?_⟩
     refine g7 (g7 (d8 ?_))
     obtain rfl := oi h
     refine d8 ⟨_, Z, Z, ?_⟩
     exact hs
  ·refine AWP.exit (d6 ?_)
   obtain rfl := oi h
   refine d6 ⟨_, Z, Z, ?_⟩
   exact Sub.cut ⟨Z, Y⟩ Z ⟨.dead, .vec, Y⟩ Z
 ·intro e s hq
  rcases oo with c6 | x
  ·try dsimp only at h hq
   obtain ⟨rfl, hs⟩ := hq
   refine ⟨_, hs, ?_⟩
   refine f9 (b5 (.d (.f (.e Z Z (.nil (b5 (.d (.d (.f (.e Z Z (.nil (b5 (.l ?_)))))))))))))
   obtain ⟨out21, ho6, h⟩ := b7 h
   refine AWP.forS ho6 (fun iv22 out21 => ⟨[(6, .c (.own 1 0 c6.length)), (13, .c (row 1 d4 out21)), (14, .c (int iv22))], [.dead, .one (vec 1 d4 c6)]⟩) (fun out21 e st => e = .exit 6 ∧ Sub [] st ⟨[(13, .c (row 1 d4 out21))], [.dead, .one (vec 1 d4 c6)]⟩) ?_ ?_ ?_ ?_
   ·try dsimp only
    exact (Sub.nilrow 1 13 Z).trans (Sub.env ⟨Z, Z, Z, Y⟩)
   ·intro iv22 out21 hloiv22 hltiv22 _
    try dsimp only
    refine AWP.d (.d (.f (.a Z Z (.a Z Z (S.lenO Z Z Z (fun hl89 => .j Z Z Z (.nil (b5 (.q Z hltiv22 (.exit (d6 (d6 ⟨Z, ?_⟩))))))))))))
    exact Sub.env ⟨Z, Y⟩
   ·intro iv22 out21 o hloiv22 hltiv22 h
    unfold J2 at h
    try dsimp only at h ⊢
    refine AWP.d (.d (.f (.a Z Z (.a Z Z (S.lenO Z Z Z (fun hl89 => .j Z Z Z (.nil (b5 (.r Z hltiv22 (.skip (b5 (.d (.l ?_)))))))))))))
    obtain ⟨a96, ha96, a98, ha98, h⟩ := b2 h
    refine AWP.f (.a Z Z (.a Z Z (.a Z Z (S.idxO ha96 Z Z Z Z Z (S.loadO ha96 Z Z Z Z Z (.k Z Z Z Z (Y4 ha98) Z (.e Z Z (.nil (d5 (b5 (.f (.a Z Z (.add Z Z Z (by omega) (.e Z Z (.nil ?_)))))))))))))))
    obtain rfl := oi h
    refine b5 (Sub.env ⟨Z, Z, Z, Y⟩)
   ·intro e s hq
    obtain ⟨rfl, hs⟩ := hq
    refine ⟨_, hs, ?_⟩
    refine f9 (b5 (.d (.f (.a Z Z (.e Z Z (.e Z Z (.nil (b5 (.ret ?_)))))))))
    obtain rfl := oi h
    exact Done.ret Z Z
  ·try dsimp only at h hq
   obtain ⟨rfl, hs⟩ := hq
   refine ⟨_, Sub.refl _ _, ?_⟩
   refine g7 (d8 ?_)
   obtain rfl := oi h
   exact hs
theorem W0 {ov : b9} {sv : List Int} {r : Bool} (h : K2 ov sv = some r) : d9 Tryz.prog 44 [.agg (tO ov), .c (row 1 intI sv)] (.c (bool r)) := by
 unfold d9
 refine FnOk.enter (rs := [.t 4]) Tryz.func44 Z Tryz.ntmps44 Tryz.results44 Z ⟨trivial, Y⟩ (by kernel_rfl) Z ?_
 unfold K2 at h
 refine AWP.d (.f (W.box Z Z Z Z Z Z (.e Z Z (.nil (b5 (.d ?_))))))
 obtain ⟨a8, ha8, h⟩ := b7 h
 refine AWP.f (W.fieldAddr Z Z Z Z (.m Z Z Z Z Z Z (.a Z Z (.k Z Z Z Z (af3 ha8) Z (.e Z Z (.nil (b5 (.ret ?_))))))))
 obtain rfl := oi h
 exact Done.ret Z Z
theorem ai9 {ov : b9} {all : LL} {value : List Int} {sv : List Int} {op : Int} {r : Int} (h : V5 ov all value sv op = some r) : d9 Tryz.prog 45 [.agg (tO ov), .c (row 1 d4 all), .c (row 1 intI value), .c (row 1 intI sv), .c (int op)] (.c (int r)) := by
 unfold d9
 refine FnOk.enter (rs := [.t 10]) Tryz.func45 Z Tryz.ntmps45 Tryz.results45 Z ⟨trivial, Y⟩ (by kernel_rfl) Z ?_
 unfold V5 at h
 refine AWP.d (.f (W.box Z Z Z Z Z Z (.e Z Z (.nil (b5 (.d (.f (.e Z Z (.nil (b5 (.d ?_)))))))))))
 obtain ⟨a20, ha20, h⟩ := b7 h
 refine AWP.f (W.loadAgg Z Z Z Z Z Z Z (.a Z Z (.a Z Z (.k Z Z Z Z (N7 ha20) Z (.a Z Z (.w Z Z Z (.w Z Z Z (.e Z Z (.e Z Z (.nil (b5 (.d (.d (.f (.e Z Z (.nil (b5 (.l ?_))))))))))))))))))
 obtain ⟨nv6, ho1, h⟩ := b7 h
 refine AWP.forS ho1 (fun kv7 nv6 => ⟨[(1, .c (row 1 d4 all)), (2, .c (row 1 intI value)), (11, .c (int nv6)), (12, .c (row 1 d4 a20.1)), (14, .c (int kv7))], []⟩) (fun nv6 e st => e = .exit 0 ∧ Sub [] st ⟨[(11, .c (int nv6))], []⟩) ?_ ?_ ?_ ?_
 ·try dsimp only
  exact Sub.cut ⟨Z, Z, Z, Z, Z, Y⟩ Z trivial Z
 ·intro kv7 nv6 hlokv7 hltkv7 _
  try dsimp only
  refine AWP.d (.d (.f (.a Z Z (.a Z Z (S.len Z Z (fun hl25 => .j Z Z Z (.nil (b5 (.q Z hltkv7 (.exit (d6 (d6 ⟨Z, ?_⟩))))))))))))
  exact Sub.env ⟨Z, Y⟩
 ·intro kv7 nv6 o hlokv7 hltkv7 h
  unfold W3 at h
  try dsimp only at h ⊢
  refine AWP.d (.d (.f (.a Z Z (.a Z Z (S.len Z Z (fun hl25 => .j Z Z Z (.nil (b5 (.r Z hltkv7 (.skip (b5 ?_)))))))))))
  obtain ⟨nv8, hx9, h⟩ := b7 h
  refine AWP.seqJ (⟨[(1, .c (row 1 d4 all)), (2, .c (row 1 intI value)), (11, .c (int nv8)), (12, .c (row 1 d4 a20.1)), (14, .c (int kv7))], []⟩) ?_ ?_
  ·refine AWP.l (.d ?_)
   obtain ⟨a33, ha33, a35, ha35, a36, ha36, hx9⟩ := b3 hx9
   refine AWP.f (.a Z Z (.a Z Z (.a Z Z (.a Z Z (S.idx ha33 Z Z Z Z (.p Z Z Z Z (.k Z Z Z Z (x6 ha35) Z (S.idx ha36 Z Z Z Z (.p Z Z Z Z (.e Z Z (.nil (b5 (.d (.f (.a Z Z (.a Z Z (.gtr Z Z Z (.nil (b5 (.ite Z hx9 (fun hc10 hx9 => ?_) (fun hc10 hx9 => ?_)))))))))))))))))))))
   ·refine AWP.f (.a Z Z (.e Z Z (.nil (d5 ?_))))
    obtain rfl := oi hx9
    refine b5 (Sub.env ⟨Z, Z, Z, Z, Z, Y⟩)
   ·refine AWP.skip (d5 ?_)
    obtain rfl := oi hx9
    refine b5 (Sub.env ⟨Z, Z, Z, Z, Z, Y⟩)
  ·refine AWP.f (.a Z Z (.add Z Z Z (by omega) (.e Z Z (.nil ?_))))
   obtain rfl := oi h
   refine b5 (Sub.env ⟨Z, Z, Z, Z, Z, Y⟩)
 ·intro e s hq
  obtain ⟨rfl, hs⟩ := hq
  refine ⟨_, hs, ?_⟩
  refine f9 (b5 (.d (.f (.a Z Z (.e Z Z (.nil (b5 (.ret ?_))))))))
  obtain rfl := oi h
  exact Done.ret Z Z
theorem ref8_Ranks_ok {ov : b9} {all : LL} {r : (List Int)} (h : X3 ov all = some r) : m5 Tryz.prog 16 [.agg (tO ov), .c (row 1 d4 all)] 1 (List.map intI r) := by
 unfold m5
 refine FnOk.enter (rs := [.t 4]) Tryz.func16 Z Tryz.ntmps16 Tryz.results16 Z ⟨trivial, Y⟩ (by kernel_rfl) Z ?_
 unfold X3 at h
 refine AWP.d (.f (W.box Z Z Z Z Z Z (.e Z Z (.nil (b5 (.d ?_))))))
 obtain ⟨a13, ha13, h⟩ := b7 h
 refine AWP.f (.a Z Z (S.len Z Z (fun hl12 => S.make (f := intI) ha13 (.val .nil) Z Z Z Z Z Z (.e Z Z (.nil (b5 (.d (.d (.f (.e Z Z (.nil (b5 (.l ?_)))))))))))))
 obtain ⟨c3, ho1, h⟩ := b7 h
 refine AWP.forS ho1 (fun iv4 c3 => ⟨[(1, .c (row 1 d4 all)), (2, .c (.ptr 0 0 0)), (5, .c (.own 1 0 c3.length)), (6, .c (int iv4))], [.one (.cells 4 [(tO ov)]), .one (vec 1 intI c3)]⟩) (fun c3 e st => e = .exit 0 ∧ Sub [] st ⟨[(1, .c (row 1 d4 all)), (2, .c (.ptr 0 0 0)), (5, .c (.own 1 0 c3.length))], [.one (.cells 4 [(tO ov)]), .one (vec 1 intI c3)]⟩) ?_ ?_ ?_ ?_
 ·try dsimp only
  exact Sub.env ⟨Z, Z, Z, Z, Y⟩
 ·intro iv4 c3 hloiv4 hltiv4 _
  try dsimp only
  refine AWP.d (.d (.f (.a Z Z (.a Z Z (S.len Z Z (fun hl16 => .j Z Z Z (.nil (b5 (.q Z hltiv4 (.exit (d6 (d6 ⟨Z, ?_⟩))))))))))))
  exact Sub.env ⟨Z, Z, Z, Y⟩
 ·intro iv4 c3 o hloiv4 hltiv4 h
  unfold T6 at h
  try dsimp only at h ⊢
  refine AWP.d (.d (.f (.a Z Z (.a Z Z (S.len Z Z (fun hl16 => .j Z Z Z (.nil (b5 (.r Z hltiv4 (.skip (b5 ?_)))))))))))
  obtain ⟨c5, hx6, h⟩ := b7 h
  refine AWP.seqJ (⟨[(1, .c (row 1 d4 all)), (2, .c (.ptr 0 0 0)), (5, .c (.own 1 0 c5.length)), (6, .c (int iv4))], [.one (.cells 4 [(tO ov)]), .one (vec 1 intI c5)]⟩) ?_ ?_
  ·refine AWP.l (.d ?_)
   obtain ⟨a22, ha22, hx6⟩ := b7 hx6
   refine AWP.f (.a Z Z (.a Z Z (S.idxO ha22 Z Z Z Z Z (S.storeO1 (f := intI) (a' := 1000000000) (ix_lt ha22) (fun _ => ⟨_, Z⟩) Z Z Z Z Z ?_))))
   refine AOps.nil (b5 (.d ?_))
   obtain ⟨a26, ha26, a28, ha28, hx6⟩ := b2 hx6
   refine AWP.drawI mixed Z ?_
   refine g9.consF Z (fun E => W.loadAgg Z Z Z Z Z Z Z (.nil ⟨Z, Z⟩)) Z (.consF Z (fun E => AOps.a Z Z (.nil ⟨Z, Z⟩)) Z (.consF Z (fun E => AOps.a Z Z (.nil ⟨Z, Z⟩)) Z (.consF Z (fun E => S.idx ha26 Z Z Z Z (.nil ⟨Z, Z⟩)) Z (.consF Z (fun E => AOps.p Z Z Z Z (.nil ⟨Z, Z⟩)) Z (.consF Z (fun E => AOps.k Z Z Z Z (W0 ha28) Z (.nil ⟨Z, Z⟩)) Z ?_)))))
   refine g9.done ?_
   dsimp only [i9]
   refine b5 (.s Z hx6 (fun hc7 hx6 => ?_) (fun hc7 hx6 => ?_))
   ·obtain ⟨a31, ha31, hx6⟩ := b7 hx6
    refine AWP.f (.a Z Z (.a Z Z (S.idxO ha31 Z (by simp only [List.length_set]) Z Z Z (S.storeO1 (f := intI) (a' := 0) (ix_lt ha31) (fun _ => ⟨_, Z⟩) Z Z Z Z Z ?_))))
    refine AOps.nil (d5 ?_)
    obtain rfl := oi hx6
    refine b5 (Sub.env ⟨Z, Z, (x8 (by first | rfl | simp only [List.length_set])), Z, Y⟩)
   ·refine AWP.skip (d5 ?_)
    obtain rfl := oi hx6
    refine b5 (Sub.env ⟨Z, Z, (x8 (by first | rfl | simp only [List.length_set])), Z, Y⟩)
  ·refine AWP.f (.a Z Z (.add Z Z Z (by omega) (.e Z Z (.nil ?_))))
   obtain rfl := oi h
   refine b5 (Sub.env ⟨Z, Z, Z, Z, Y⟩)
 ·intro e s hq
  obtain ⟨rfl, hs⟩ := hq
  refine ⟨_, hs, ?_⟩
  refine f9 (b5 (.d (.d (.f (.e Z Z (.nil (b5 (.l ?_))))))))
  obtain ⟨c10, ho2, h⟩ := b7 h
  refine AWP.loopS ho2 (fun (c8, again9) => ⟨[(1, .c (row 1 d4 all)), (2, .c (.ptr 0 0 0)), (5, .c (.own 1 0 c8.length)), (7, .c (bool again9))], [.one (.cells 4 [(tO ov)]), .one (vec 1 intI c8)]⟩) (fun c10 e st => e = .exit 2 ∧ Sub [] st ⟨[(5, .c (.own 1 0 c10.length))], [.dead, .one (vec 1 intI c10)]⟩) ?_ ?_ ?_
  ·try dsimp only
   exact Sub.env ⟨Z, Z, Z, Z, Y⟩
  ·intro s o h
   obtain ⟨c8, again9⟩ := s
   unfold U2 at h
   try dsimp only at h ⊢
   refine AWP.d (.d (.f (.a Z Z (.nil (b5 (.s Z h (fun hc11 h => ?_) (fun hc11 h => ?_)))))))
   ·refine AWP.skip (b5 (.l (.d (.f (.e Z Z (.nil (b5 (.d (.f (.e Z Z (.nil (b5 (.l ?_)))))))))))))
    obtain ⟨⟨c12, again13⟩, ho3, h⟩ := b7 h
    try dsimp only at h
    refine AWP.forS ho3 (fun iv14 (c12, again13) => ⟨[(1, .c (row 1 d4 all)), (2, .c (.ptr 0 0 0)), (5, .c (.own 1 0 c12.length)), (7, .c (bool again13)), (8, .c (int iv14))], [.one (.cells 4 [(tO ov)]), .one (vec 1 intI c12)]⟩) (fun (c12, again13) e st => e = .exit 4 ∧ Sub [] st ⟨[(1, .c (row 1 d4 all)), (2, .c (.ptr 0 0 0)), (5, .c (.own 1 0 c12.length)), (7, .c (bool again13))], [.one (.cells 4 [(tO ov)]), .one (vec 1 intI c12)]⟩) ?_ ?_ ?_ ?_
    ·try dsimp only
     exact Sub.env ⟨Z, Z, Z, Z, Z, Y⟩
    ·intro iv14 s hloiv14 hltiv14 _
     obtain ⟨c12, again13⟩ := s
     try dsimp only
     refine AWP.d (.d (.f (.a Z Z (.a Z Z (S.len Z Z (fun hl35 => .j Z Z Z (.nil (b5 (.q Z hltiv14 (.exit (d6 (d6 ⟨Z, ?_⟩))))))))))))
     exact Sub.env ⟨Z, Z, Z, Z, Y⟩
    ·intro iv14 s o hloiv14 hltiv14 h
     obtain ⟨c12, again13⟩ := s
     unfold T1 at h
     try dsimp only at h ⊢
     refine AWP.d (.d (.f (.a Z Z (.a Z Z (S.len Z Z (fun hl35 => .j Z Z Z (.nil (b5 (.r Z hltiv14 (.skip (b5 (.d (.l (.d (.f (.e Z Z (.nil (b5 (.l ?_)))))))))))))))))))
     obtain ⟨⟨c15, again16⟩, ho4, h⟩ := b7 h
     try dsimp only at h
     refine AWP.forS ho4 (fun op17 (c15, again16) => ⟨[(1, .c (row 1 d4 all)), (2, .c (.ptr 0 0 0)), (5, .c (.own 1 0 c15.length)), (7, .c (bool again16)), (8, .c (int iv14)), (9, .c (int op17))], [.one (.cells 4 [(tO ov)]), .one (vec 1 intI c15)]⟩) (fun (c15, again16) e st => e = .exit 6 ∧ Sub [] st ⟨[(1, .c (row 1 d4 all)), (2, .c (.ptr 0 0 0)), (5, .c (.own 1 0 c15.length)), (7, .c (bool again16)), (8, .c (int iv14))], [.one (.cells 4 [(tO ov)]), .one (vec 1 intI c15)]⟩) ?_ ?_ ?_ ?_
     ·try dsimp only
      exact Sub.env ⟨Z, Z, Z, Z, Z, Z, Y⟩
     ·intro op17 s hloop17 hltop17 _
      obtain ⟨c15, again16⟩ := s
      try dsimp only
      refine AWP.d (.d (.f (.a Z Z (W.fieldAddr Z Z Z Z (.m Z Z Z Z Z Z (S.len Z Z (fun hl42 => .j Z Z Z (.nil (b5 (.q Z hltop17 (.exit (d6 (d6 ⟨Z, ?_⟩)))))))))))))
      exact Sub.env ⟨Z, Z, Z, Z, Z, Y⟩
     ·intro op17 s o hloop17 hltop17 h
      obtain ⟨c15, again16⟩ := s
      unfold N6 at h
      try dsimp only at h ⊢
      refine AWP.d (.d (.f (.a Z Z (W.fieldAddr Z Z Z Z (.m Z Z Z Z Z Z (S.len Z Z (fun hl42 => .j Z Z Z (.nil (b5 (.r Z hltop17 (.skip (b5 ?_))))))))))))
      obtain ⟨⟨c18, again19⟩, hx20, h⟩ := b7 h
      refine AWP.seqJ (⟨[(1, .c (row 1 d4 all)), (2, .c (.ptr 0 0 0)), (5, .c (.own 1 0 c18.length)), (7, .c (bool again19)), (8, .c (int iv14)), (9, .c (int op17))], [.one (.cells 4 [(tO ov)]), .one (vec 1 intI c18)]⟩) ?_ ?_
      ·refine AWP.l (.d (.d ?_))
       obtain ⟨a49, ha49, a52, ha52, hx20⟩ := b2 hx20
       refine AWP.drawI mixed Z ?_
       refine g9.consF Z (fun E => W.loadAgg Z Z Z Z Z Z Z (.nil ⟨Z, Z⟩)) Z (.consF Z (fun E => AOps.a Z Z (.nil ⟨Z, Z⟩)) Z (.consF Z (fun E => AOps.a Z Z (.nil ⟨Z, Z⟩)) Z (.consF Z (fun E => S.idx ha49 Z Z Z Z (.nil ⟨Z, Z⟩)) Z (.consF Z (fun E => AOps.p Z Z Z Z (.nil ⟨Z, Z⟩)) Z (.consF Z (fun E => AOps.a Z Z (.nil ⟨Z, Z⟩)) Z (.consF Z (fun E => AOps.k Z Z Z Z (r9 ha52) Z (.nil ⟨Z, Z⟩)) Z (.consF Z (fun E => AOps.v Z Z (.nil ⟨Z, Z⟩)) Z ?_)))))))
       refine g9.done ?_
       dsimp only [i9]
       refine b5 (.s Z hx20 (fun hc21 hx20 => ?_) (fun hc21 hx20 => ?_))
       ·refine AWP.exit (d6 (f9 ?_))
        obtain ⟨ej0, ej1⟩ := o2 hx20
        subst ej0 ej1
        refine b5 (Sub.env ⟨Z, Z, Z, Z, Z, Z, Y⟩)
       ·refine AWP.skip (b5 (.d ?_))
        obtain ⟨a59, ha59, a62, ha62, hx20⟩ := b2 hx20
        refine AWP.drawI mixed Z ?_
        refine g9.consF Z (fun E => W.loadAgg Z Z Z Z Z Z Z (.nil ⟨Z, Z⟩)) Z (.consF Z (fun E => AOps.a Z Z (.nil ⟨Z, Z⟩)) Z (.consF Z (fun E => AOps.a Z Z (.nil ⟨Z, Z⟩)) Z (.consF Z (fun E => AOps.a Z Z (.nil ⟨Z, Z⟩)) Z (.consF Z (fun E => AOps.a Z Z (.nil ⟨Z, Z⟩)) Z (.consF Z (fun E => S.idx ha59 Z Z Z Z (.nil ⟨Z, Z⟩)) Z (.consF Z (fun E => AOps.p Z Z Z Z (.nil ⟨Z, Z⟩)) Z (.consF Z (fun E => AOps.a Z Z (.nil ⟨Z, Z⟩)) Z (.consF Z (fun E => AOps.y Z Z (.cons (.agg (.cons .imm (.cons .imm (.cons .imm (.cons .imm .nil))))) (.cons (.c .imm) (.cons (.c (.own Z Z)) (.cons (.c .imm) (.cons (.c .imm) .nil))))) Z (ai9 ha62) Z (.nil ⟨Z, Z⟩)) Z (.consF Z (fun E => AOps.e Z Z (.nil ⟨Z, Z⟩)) Z ?_)))))))))
        refine g9.done ?_
        dsimp only [i9]
        refine b5 (.d ?_)
        obtain ⟨a67, ha67, hx20⟩ := b7 hx20
        refine AWP.f (.a Z Z (S.add Z Z Z (.a Z Z (.a Z Z (S.idxO ha67 Z Z Z Z Z (S.loadO ha67 Z Z Z Z Z (.j Z Z Z (.nil (b5 (.ite Z hx20 (fun hc22 hx20 => ?_) (fun hc22 hx20 => ?_)))))))))))
        ·refine AWP.d ?_
         obtain ⟨a74, ha74, hx20⟩ := b7 hx20
         refine AWP.f (.a Z Z (.a Z Z (.a Z Z (S.add Z Z Z (S.idxO ha74 Z Z Z Z Z (S.storeO1 (f := intI) (a' := w64 (a62 + 1)) (ix_lt ha74) (fun _ => ⟨_, Z⟩) Z Z Z Z Z ?_))))))
         refine AOps.nil (b5 (.f (.e Z Z (.nil (d5 ?_)))))
         obtain ⟨ej0, ej1⟩ := o2 hx20
         subst ej0 ej1
         refine b5 (Sub.env ⟨Z, Z, (x8 (by first | rfl | simp only [List.length_set])), Z, Z, Z, Y⟩)
        ·refine AWP.skip (d5 ?_)
         obtain ⟨ej0, ej1⟩ := o2 hx20
         subst ej0 ej1
         refine b5 (Sub.env ⟨Z, Z, Z, Z, Z, Z, Y⟩)
      ·try dsimp only at h
       refine AWP.f (.a Z Z (.add Z Z Z (by omega) (.e Z Z (.nil ?_))))
       obtain rfl := oi h
       refine b5 (Sub.env ⟨Z, Z, Z, Z, Z, Z, Y⟩)
     ·intro e s hq
      obtain ⟨rfl, hs⟩ := hq
      refine ⟨_, hs, ?_⟩
      refine f9 (d5 (b5 (.f (.a Z Z (.add Z Z Z (by omega) (.e Z Z (.nil ?_)))))))
      obtain rfl := oi h
      refine b5 (Sub.env ⟨Z, Z, Z, Z, Z, Y⟩)
    ·intro e s hq
     obtain ⟨rfl, hs⟩ := hq
     refine ⟨_, hs, ?_⟩
     refine f9 (d5 ?_)
     obtain rfl := oi h
     refine b5 ⟨_, Z, ?_⟩
     exact Sub.env ⟨Z, Z, Z, Z, Y⟩
   ·refine AWP.exit (d6 ?_)
    obtain rfl := oi h
    refine d6 ⟨_, Z, Z, ?_⟩
    exact Sub.cut ⟨Z, Y⟩ Z ⟨.dead, .vec, Y⟩ Z
  ·intro e s hq
   obtain ⟨rfl, hs⟩ := hq
   refine ⟨_, hs, ?_⟩
   refine f9 (b5 (.d (.f (.a Z Z (.e Z Z (.nil (b5 (.ret ?_))))))))
   obtain rfl := oi h
   exact Done.ret Z (Fresh.mk Z Z)
theorem af7 {p : List d7} {sv : List Int} {r : Int} (h : F1 p sv = some r) : d9 Tryz.prog 48 [.c (row 2 e9 p), .c (row 1 intI sv)] (.c (int r)) := by
 unfold d9
 refine FnOk.enter (rs := [.t 4]) Tryz.func48 Z Tryz.ntmps48 Tryz.results48 Z ⟨trivial, Y⟩ (by kernel_rfl) Z ?_
 unfold F1 at h
 refine AWP.d (.f (.e Z Z (.nil (b5 (.d (.d (.f (.e Z Z (.nil (b5 (.l ?_)))))))))))
 obtain ⟨oo, ho1, h⟩ := b7 h
 refine AWP.rngS ho1 (fun iv3 _ => ⟨[(0, .c (row 2 e9 p)), (1, .c (row 1 intI sv)), (5, .c (int iv3))], []⟩) (fun o e st => match o with | .inl _ => e = .exit 0 ∧ Sub [] st ⟨[], []⟩ | .inr x => e = .ret ∧ Done [.t 4] (fun t _ => t = .c (int x)) .ret st) ?_ ?_ ?_ ?_
 ·try dsimp only
  exact Sub.env ⟨Z, Z, Z, Y⟩
 ·intro iv3 s hloiv3 hltiv3 _
  try dsimp only
  refine AWP.d (.d (.f (.a Z Z (.a Z Z (S.len Z Z (fun hl8 => .j Z Z Z (.nil (b5 (.q Z hltiv3 (.exit (d6 (d6 ⟨Z, ?_⟩))))))))))))
  exact Sub.env trivial
 ·intro iv3 s o hloiv3 hltiv3 h
  unfold R2 at h
  try dsimp only at h ⊢
  refine AWP.d (.d (.f (.a Z Z (.a Z Z (S.len Z Z (fun hl8 => .j Z Z Z (.nil (b5 (.r Z hltiv3 (.skip (b5 (.d (.l (.d ?_))))))))))))))
  obtain ⟨a14, ha14, a18, ha18, h⟩ := b2 h
  refine AWP.f (.a Z Z (.a Z Z (S.idx ha14 Z Z Z Z (W.fieldAddrI Z Z Z Z (.p Z Z Z Z (.a Z Z (.k Z Z Z Z (W1 ha18) Z (.nil (b5 (.s Z h (fun hc4 h => ?_) (fun hc4 h => ?_)))))))))))
  ·refine AWP.d ?_
   obtain ⟨a21, ha21, h⟩ := b7 h
   refine AWP.f (.a Z Z (.a Z Z (S.idx ha21 Z Z Z Z (W.fieldAddrI Z Z Z Z (.p Z Z Z Z (.e Z Z (.nil (b5 (.ret (g7 (d8 ?_)))))))))))
   obtain rfl := oi h
   refine d8 ⟨_, Z, Z, ?_⟩
   exact Done.ret Z Z
  ·refine AWP.skip (d5 (b5 (.f (.a Z Z (.add Z Z Z (by omega) (.e Z Z (.nil ?_)))))))
   obtain rfl := oi h
   refine b5 ⟨_, Z, ?_⟩
   exact Sub.env ⟨Z, Z, Z, Y⟩
 ·intro e s hq
  rcases oo with u | x
  ·try dsimp only at h hq
   obtain ⟨rfl, hs⟩ := hq
   refine ⟨_, hs, ?_⟩
   refine f9 (b5 (.d (.f (.e Z Z (.nil (b5 (.ret ?_)))))))
   obtain rfl := oi h
   exact Done.ret Z Z
  ·try dsimp only at h hq
   obtain ⟨rfl, hs⟩ := hq
   refine ⟨_, Sub.refl _ _, ?_⟩
   refine g7 (d8 ?_)
   obtain rfl := oi h
   exact hs
theorem ref8_Visited_ok {ov : b9} {p : List d7} {r : LL} (h : Q4 ov p = some r) : d9 Tryz.prog 47 [.agg (tO ov), .c (row 2 e9 p)] (.c (row 1 d4 r)) := by
 unfold d9
 refine FnOk.enter (rs := [.t 4]) Tryz.func47 Z Tryz.ntmps47 Tryz.results47 Z ⟨trivial, Y⟩ (by kernel_rfl) Z ?_
 unfold Q4 at h
 refine AWP.d (.f (W.box Z Z Z Z Z Z (.e Z Z (.nil (b5 (.d (.f (W.fieldAddr Z Z Z Z (.m Z Z Z Z Z Z (S.lit (f := d4) (l := [ov.init]) (ess := [[row 1 intI ov.init]]) Z Z Z Z Z Z Z ⟨⟨.inl Z, Y⟩, Y⟩ Z Z Z (.e Z Z (.nil (b5 (.d (.d (.f (.e Z Z (.nil (b5 (.l (.frzV (id := 1) (l := [ov.init]) (env2 := [(1, .c (row 2 e9 p)), (2, .c (.ptr 0 0 0)), (5, .c (row 1 d4 [ov.init])), (6, .c (bool true))]) (σ2 := [.one (.cells 4 [(tO ov)]), .dead]) Z Z (by exact ⟨⟨_, Z, .inl ⟨Z, Z⟩⟩, ⟨_, Z, .inl ⟨Z, Z⟩⟩, ⟨_, Z, .inr ⟨_, Z, Z, Z⟩⟩, ⟨_, Z, .inl ⟨Z, Z⟩⟩, Y⟩) Z (by exact ⟨⟨Z, .inl ⟨Z, Z⟩, .inl ⟨Z, Z⟩, .inl ⟨Z, Z⟩, .inl ⟨Z, Z⟩, Y⟩, trivial, Y⟩) ?_)))))))))))))))))))))
 obtain ⟨all5, ho1, h⟩ := b7 h
 refine AWP.loopS ho1 (fun (all3, again4) => ⟨[(1, .c (row 2 e9 p)), (2, .c (.ptr 0 0 0)), (5, .c (row 1 d4 all3)), (6, .c (bool again4))], [.one (.cells 4 [(tO ov)])]⟩) (fun all5 e st => e = .exit 0 ∧ Sub [] st ⟨[(5, .c (row 1 d4 all5))], []⟩) ?_ ?_ ?_
 ·try dsimp only
  exact Sub.cut ⟨Z, Z, Z, Z, Y⟩ Z ⟨.one Z, Y⟩ Z
 ·intro s o h
  obtain ⟨all3, again4⟩ := s
  unfold O9 at h
  try dsimp only at h ⊢
  refine AWP.d (.d (.f (.a Z Z (.nil (b5 (.s Z h (fun hc6 h => ?_) (fun hc6 h => ?_)))))))
  ·refine AWP.skip (b5 (.l (.d (.f (.e Z Z (.nil (b5 (.d (.f (.e Z Z (.nil (b5 (.l ?_)))))))))))))
   obtain ⟨⟨all10, again11⟩, ho2, h⟩ := b7 h
   try dsimp only at h
   refine AWP.loopS ho2 (fun (all7, again8, iv9) => ⟨[(1, .c (row 2 e9 p)), (2, .c (.ptr 0 0 0)), (5, .c (row 1 d4 all7)), (6, .c (bool again8)), (7, .c (int iv9))], [.one (.cells 4 [(tO ov)])]⟩) (fun (all10, again11) e st => e = .exit 2 ∧ Sub [] st ⟨[(1, .c (row 2 e9 p)), (2, .c (.ptr 0 0 0)), (5, .c (row 1 d4 all10)), (6, .c (bool again11))], [.one (.cells 4 [(tO ov)])]⟩) ?_ ?_ ?_
   ·try dsimp only
    exact Sub.env ⟨Z, Z, Z, Z, Z, Y⟩
   ·intro s o h
    obtain ⟨all7, again8, iv9⟩ := s
    unfold P2 at h
    try dsimp only at h ⊢
    refine AWP.d (.d (.f (.a Z Z (.a Z Z (S.len Z Z (fun hl18 => .j Z Z Z (.nil (b5 (.ite Z h (fun hc12 h => ?_) (fun hc12 h => ?_))))))))))
    ·refine AWP.skip (b5 ?_)
     obtain ⟨⟨all13, again14⟩, hx15, h⟩ := b7 h
     refine AWP.seqJ (⟨[(1, .c (row 2 e9 p)), (2, .c (.ptr 0 0 0)), (5, .c (row 1 d4 all13)), (6, .c (bool again14)), (7, .c (int iv9))], [.one (.cells 4 [(tO ov)])]⟩) ?_ ?_
     ·refine AWP.l (.d ?_)
      obtain ⟨a25, ha25, a27, ha27, hx15⟩ := b2 hx15
      refine AWP.f (.a Z Z (.a Z Z (.a Z Z (S.idx ha25 Z Z Z Z (.p Z Z Z Z (.k Z Z Z Z (af7 ha27) Z (.e Z Z (.nil (b5 (.d ?_))))))))))
      obtain ⟨t16, hx17, hx15⟩ := b7 hx15
      refine AWP.seqJ (⟨[(1, .c (row 2 e9 p)), (2, .c (.ptr 0 0 0)), (5, .c (row 1 d4 all7)), (6, .c (bool again8)), (7, .c (int iv9)), (8, .c (int a27)), (37, .c (bool t16))], [.one (.cells 4 [(tO ov)])]⟩) ?_ ?_
      ·rcases bft (decide (a27 < 0)) with hb18 | hb18
       ·replace hx17 := B4 hb18 hx17
        refine AWP.drawI mixed Z ?_
        refine g9.consF Z (fun E => AOps.a Z Z (.nil ⟨Z, Z⟩)) Z (.consF Z (fun E => AOps.j Z Z Z (.nil ⟨Z, Z⟩)) Z (.consF Z (fun E => AOps.a Z Z (.nil ⟨Z, Z⟩)) Z (.consF Z (fun E => AOps.i Z Z Z hb18 (.nil ⟨Z, Z⟩)) Z (.consF Z (fun E => AOps.i Z Z Z hb18 (.nil ⟨Z, Z⟩)) Z (.consF Z (fun E => AOps.i Z Z Z hb18 (.nil ⟨Z, Z⟩)) Z (.consF Z (fun E => AOps.i Z Z Z hb18 (.nil ⟨Z, Z⟩)) Z (.consF Z (fun E => AOps.i Z Z Z hb18 (.nil ⟨Z, Z⟩)) Z (.consF Z (fun E => AOps.i Z Z Z hb18 (.nil ⟨Z, Z⟩)) Z (.consF Z (fun E => AOps.o Z hb18 Z Z (.nil ⟨Z, Z⟩)) Z ?_)))))))))
        refine g9.done ?_
        dsimp only [i9]
        obtain rfl := oi hx17
        refine b5 (Sub.env ⟨Z, Z, Z, Z, Z, Z, Z, Y⟩)
       ·replace hx17 := B5 hb18 hx17
        obtain ⟨a34, ha34, a36, ha36, hx17⟩ := b2 hx17
        refine AWP.drawI mixed Z ?_
        refine g9.consF Z (fun E => AOps.a Z Z (.nil ⟨Z, Z⟩)) Z (.consF Z (fun E => AOps.j Z Z Z (.nil ⟨Z, Z⟩)) Z (.consF Z (fun E => AOps.a Z Z (.nil ⟨Z, Z⟩)) Z (.consF Z (fun E => AOps.g Z Z Z hb18 (W.loadAgg Z Z Z Z Z Z Z (.nil ⟨Z, Z⟩))) Z (.consF Z (fun E => AOps.g Z Z Z hb18 (.a Z Z (.nil ⟨Z, Z⟩))) Z (.consF Z (fun E => AOps.g Z Z Z hb18 (.a Z Z (.nil ⟨Z, Z⟩))) Z (.consF Z (fun E => AOps.g Z Z Z hb18 (S.idx ha34 Z Z Z Z (.nil ⟨Z, Z⟩))) Z (.consF Z (fun E => AOps.g Z Z Z hb18 (.p Z Z Z Z (.nil ⟨Z, Z⟩))) Z (.consF Z (fun E => AOps.g Z Z Z hb18 (.k Z Z Z Z (W0 ha36) Z (.nil ⟨Z, Z⟩))) Z (.consF Z (fun E => AOps.n Z hb18 Z Z (.nil ⟨Z, Z⟩)) Z ?_)))))))))
        refine g9.done ?_
        dsimp only [i9]
        obtain rfl := oi hx17
        refine b5 (Sub.env ⟨Z, Z, Z, Z, Z, Z, Z, Y⟩)
      ·refine AWP.s Z hx15 (fun hc19 hx15 => ?_) (fun hc19 hx15 => ?_)
       ·refine AWP.exit (d6 (f9 ?_))
        obtain ⟨ej0, ej1⟩ := o2 hx15
        subst ej0 ej1
        refine b5 (Sub.env ⟨Z, Z, Z, Z, Z, Y⟩)
       ·refine AWP.skip (b5 (.d ?_))
        obtain ⟨a42, ha42, a45, ha45, hx15⟩ := b2 hx15
        refine AWP.drawI mixed Z ?_
        refine g9.consF Z (fun E => W.loadAgg Z Z Z Z Z Z Z (.nil ⟨Z, Z⟩)) Z (.consF Z (fun E => AOps.a Z Z (.nil ⟨Z, Z⟩)) Z (.consF Z (fun E => AOps.a Z Z (.nil ⟨Z, Z⟩)) Z (.consF Z (fun E => S.idx ha42 Z Z Z Z (.nil ⟨Z, Z⟩)) Z (.consF Z (fun E => AOps.p Z Z Z Z (.nil ⟨Z, Z⟩)) Z (.consF Z (fun E => AOps.a Z Z (.nil ⟨Z, Z⟩)) Z (.consF Z (fun E => AOps.k Z Z Z Z (N7 ha45) Z (.nil ⟨Z, Z⟩)) Z (.consF Z (fun E => AOps.a Z Z (.nil ⟨Z, Z⟩)) Z (.consF Z (fun E => AOps.w Z Z Z (.nil ⟨Z, Z⟩)) Z (.consF Z (fun E => AOps.w Z Z Z (.nil ⟨Z, Z⟩)) Z (.consF Z (fun E => AOps.e Z Z (.nil ⟨Z, Z⟩)) Z (.consF Z (fun E => AOps.e Z Z (.nil ⟨Z, Z⟩)) Z ?_)))))))))))
        refine g9.done ?_
        dsimp only [i9]
        refine b5 (.d (.f (.e Z Z (.nil (b5 (.l ?_))))))
        obtain ⟨⟨all20, again21⟩, ho3, hx15⟩ := b7 hx15
        try dsimp only at hx15
        refine AWP.forS ho3 (fun kv22 (all20, again21) => ⟨[(1, .c (row 2 e9 p)), (2, .c (.ptr 0 0 0)), (5, .c (row 1 d4 all20)), (6, .c (bool again21)), (7, .c (int iv9)), (9, .c (row 1 d4 a45.1)), (11, .c (int kv22))], [.one (.cells 4 [(tO ov)])]⟩) (fun (all20, again21) e st => e = .exit 4 ∧ Sub [] st ⟨[(1, .c (row 2 e9 p)), (2, .c (.ptr 0 0 0)), (5, .c (row 1 d4 all20)), (6, .c (bool again21)), (7, .c (int iv9))], [.one (.cells 4 [(tO ov)])]⟩) ?_ ?_ ?_ ?_
        ·try dsimp only
         exact Sub.env ⟨Z, Z, Z, Z, Z, Z, Z, Y⟩
        ·intro kv22 s hlokv22 hltkv22 _
         obtain ⟨all20, again21⟩ := s
         try dsimp only
         refine AWP.d (.d (.f (.a Z Z (.a Z Z (S.len Z Z (fun hl50 => .j Z Z Z (.nil (b5 (.q Z hltkv22 (.exit (d6 (d6 ⟨Z, ?_⟩))))))))))))
         exact Sub.env ⟨Z, Z, Z, Z, Z, Y⟩
        ·intro kv22 s o hlokv22 hltkv22 h
         obtain ⟨all20, again21⟩ := s
         unfold K5 at h
         try dsimp only at h ⊢
         refine AWP.d (.d (.f (.a Z Z (.a Z Z (S.len Z Z (fun hl50 => .j Z Z Z (.nil (b5 (.r Z hltkv22 (.skip (b5 ?_)))))))))))
         obtain ⟨⟨all23, again24⟩, hx25, h⟩ := b7 h
         refine AWP.seqJ (⟨[(1, .c (row 2 e9 p)), (2, .c (.ptr 0 0 0)), (5, .c (row 1 d4 all23)), (6, .c (bool again24)), (7, .c (int iv9)), (9, .c (row 1 d4 a45.1)), (11, .c (int kv22))], [.one (.cells 4 [(tO ov)])]⟩) ?_ ?_
         ·refine AWP.l (.d ?_)
          obtain ⟨a57, ha57, a59, ha59, hx25⟩ := b2 hx25
          refine AWP.f (.a Z Z (.a Z Z (.a Z Z (S.idx ha57 Z Z Z Z (.p Z Z Z Z (.k Z Z Z Z (x6 ha59) Z (.j Z Z Z (.nil (b5 (.ite Z hx25 (fun hc26 hx25 => ?_) (fun hc26 hx25 => ?_)))))))))))
          ·refine AWP.d ?_
           obtain ⟨a64, ha64, a66, ha66, hx25⟩ := b2 hx25
           refine AWP.f (.a Z Z (.a Z Z (.a Z Z (S.idx ha64 Z Z Z Z (.p Z Z Z Z (.k Z Z Z Z (Y4 ha66) Z (.e Z Z (.nil (b5 (.f (.e Z Z (.nil (d5 ?_)))))))))))))
           obtain ⟨ej0, ej1⟩ := o2 hx25
           subst ej0 ej1
           refine b5 (Sub.env ⟨Z, Z, Z, Z, Z, Z, Z, Y⟩)
          ·refine AWP.skip (d5 ?_)
           obtain ⟨ej0, ej1⟩ := o2 hx25
           subst ej0 ej1
           refine b5 (Sub.env ⟨Z, Z, Z, Z, Z, Z, Z, Y⟩)
         ·try dsimp only at h
          refine AWP.f (.a Z Z (.add Z Z Z (by omega) (.e Z Z (.nil ?_))))
          obtain rfl := oi h
          refine b5 (Sub.env ⟨Z, Z, Z, Z, Z, Z, Z, Y⟩)
        ·intro e s hq
         obtain ⟨rfl, hs⟩ := hq
         refine ⟨_, hs, ?_⟩
         refine f9 (d5 ?_)
         obtain ⟨ej0, ej1⟩ := o2 hx15
         subst ej0 ej1
         refine b5 (Sub.env ⟨Z, Z, Z, Z, Z, Y⟩)
     ·try dsimp only at h
      refine AWP.f (.a Z Z (S.add Z Z Z (.e Z Z (.nil ?_))))
      obtain rfl := oi h
      refine b5 ⟨_, Z, ?_⟩
      exact Sub.env ⟨Z, Z, Z, Z, Z, Y⟩
    ·refine AWP.exit (d6 ?_)
     obtain rfl := oi h
     refine d6 ⟨_, Z, Z, ?_⟩
     exact Sub.env ⟨Z, Z, Z, Z, Y⟩
   ·intro e s hq
    obtain ⟨rfl, hs⟩ := hq
    refine ⟨_, hs, ?_⟩
    refine f9 (d5 ?_)
    obtain rfl := oi h
    refine b5 ⟨_, Z, ?_⟩
    exact Sub.env ⟨Z, Z, Z, Z, Y⟩
  ·refine AWP.exit (d6 ?_)
   obtain rfl := oi h
   refine d6 ⟨_, Z, Z, ?_⟩
   exact Sub.cut ⟨Z, Y⟩ Z trivial Z
 ·intro e s hq
  obtain ⟨rfl, hs⟩ := hq
  refine ⟨_, hs, ?_⟩
  refine f9 (b5 (.d (.f (.a Z Z (.e Z Z (.nil (b5 (.ret ?_))))))))
  obtain rfl := oi h
  exact Done.ret Z Z
theorem ah3 {ov : b9} {all : LL} {rank : List Int} {sv : List Int} {r : Int} (h : D1 ov all rank sv = some r) : d9 Tryz.prog 49 [.agg (tO ov), .c (row 1 d4 all), .c (row 1 intI rank), .c (row 1 intI sv)] (.c (int r)) := by
 unfold d9
 refine FnOk.enter (rs := [.t 8]) Tryz.func49 Z Tryz.ntmps49 Tryz.results49 Z ⟨trivial, Y⟩ (by kernel_rfl) Z ?_
 unfold D1 at h
 refine AWP.d (.f (W.box Z Z Z Z Z Z (.e Z Z (.nil (b5 (.d (.d (.f (.e Z Z (.nil (b5 (.l ?_))))))))))))
 obtain ⟨oo, ho1, h⟩ := b7 h
 refine AWP.rngS ho1 (fun nv5 _ => ⟨[(1, .c (row 1 d4 all)), (2, .c (row 1 intI rank)), (3, .c (row 1 intI sv)), (4, .c (.ptr 0 0 0)), (9, .c (int nv5))], [.one (.cells 4 [(tO ov)])]⟩) (fun o e st => match o with | .inl _ => e = .exit 0 ∧ Sub [] st ⟨[], [.one (.cells 4 [(tO ov)])]⟩ | .inr x => e = .ret ∧ Done [.t 8] (fun t _ => t = .c (int x)) .ret st) ?_ ?_ ?_ ?_
 ·try dsimp only
  exact Sub.env ⟨Z, Z, Z, Z, Z, Y⟩
 ·intro nv5 s hlonv5 hltnv5 _
  try dsimp only
  refine AWP.d (.d (.f (.a Z Z (.j Z Z Z (.nil (b5 (.q Z hltnv5 (.exit (d6 (d6 ⟨Z, ?_⟩))))))))))
  exact Sub.env trivial
 ·intro nv5 s o hlonv5 hltnv5 h
  unfold G7 at h
  try dsimp only at h ⊢
  refine AWP.d (.d (.f (.a Z Z (.j Z Z Z (.nil (b5 (.r Z hltnv5 (.skip (b5 (.d (.l (.d (.f (.e Z Z (.nil (b5 (.l ?_)))))))))))))))))
  obtain ⟨oo, ho2, h⟩ := b7 h
  refine AWP.rngS ho2 (fun op6 _ => ⟨[(1, .c (row 1 d4 all)), (2, .c (row 1 intI rank)), (3, .c (row 1 intI sv)), (4, .c (.ptr 0 0 0)), (9, .c (int nv5)), (10, .c (int op6))], [.one (.cells 4 [(tO ov)])]⟩) (fun o e st => match o with | .inl _ => e = .exit 2 ∧ Sub [] st ⟨[(1, .c (row 1 d4 all)), (2, .c (row 1 intI rank)), (3, .c (row 1 intI sv)), (4, .c (.ptr 0 0 0)), (9, .c (int nv5))], [.one (.cells 4 [(tO ov)])]⟩ | .inr x => e = .ret ∧ Done [.t 8] (fun t _ => t = .c (int x)) .ret st) ?_ ?_ ?_ ?_
  ·try dsimp only
   exact Sub.env ⟨Z, Z, Z, Z, Z, Z, Y⟩
  ·intro op6 s hloop6 hltop6 _
   try dsimp only
   refine AWP.d (.d (.f (.a Z Z (W.fieldAddr Z Z Z Z (.m Z Z Z Z Z Z (S.len Z Z (fun hl18 => .j Z Z Z (.nil (b5 (.q Z hltop6 (.exit (d6 (d6 ⟨Z, ?_⟩)))))))))))))
   exact Sub.env ⟨Z, Z, Z, Z, Z, Y⟩
  ·intro op6 s o hloop6 hltop6 h
   unfold G6 at h
   try dsimp only at h ⊢
   refine AWP.d (.d (.f (.a Z Z (W.fieldAddr Z Z Z Z (.m Z Z Z Z Z Z (S.len Z Z (fun hl18 => .j Z Z Z (.nil (b5 (.r Z hltop6 (.skip (b5 (.d (.l ?_))))))))))))))
   obtain ⟨t7, hx8, h⟩ := b7 h
   refine AWP.seqJ (⟨[(1, .c (row 1 d4 all)), (2, .c (row 1 intI rank)), (3, .c (row 1 intI sv)), (4, .c (.ptr 0 0 0)), (9, .c (int nv5)), (10, .c (int op6)), (35, .c (bool t7))], [.one (.cells 4 [(tO ov)])]⟩) ?_ ?_
   ·obtain ⟨a25, ha25, hx8⟩ := b7 hx8
    rcases bft (a25) with hb9 | hb9
    ·replace hx8 := B8 hb9 hx8
     obtain ⟨a32, ha32, hx8⟩ := b7 hx8
     refine AWP.f (W.loadAgg Z Z Z Z Z Z Z (.a Z Z (.a Z Z (.k Z Z Z Z (r9 ha25) Z (.a Z Z (.g Z Z Z hb9 (W.loadAgg Z Z Z Z Z Z Z (.g Z Z Z hb9 (.a Z Z (.g Z Z Z hb9 (.a Z Z (.g Z Z Z hb9 (.a Z Z (.g Z Z Z hb9 (.a Z Z (.g Z Z Z hb9 (.k Z Z Z Z (ai9 ha32) Z (.g Z Z Z hb9 (.a Z Z (.g Z Z Z hb9 (.u Z Z Z (.o Z hb9 Z Z (.nil ?_)))))))))))))))))))))))
     obtain rfl := oi hx8
     refine b5 (Sub.env ⟨Z, Z, Z, Z, Z, Z, Z, Y⟩)
    ·replace hx8 := B9 hb9 hx8
     refine AWP.f (W.loadAgg Z Z Z Z Z Z Z (.a Z Z (.a Z Z (.k Z Z Z Z (r9 ha25) Z (.a Z Z (.i Z Z Z hb9 (.i Z Z Z hb9 (.i Z Z Z hb9 (.i Z Z Z hb9 (.i Z Z Z hb9 (.i Z Z Z hb9 (.i Z Z Z hb9 (.i Z Z Z hb9 (.n Z hb9 Z Z (.nil ?_)))))))))))))))
     obtain rfl := oi hx8
     refine b5 (Sub.env ⟨Z, Z, Z, Z, Z, Z, Z, Y⟩)
   ·refine AWP.s Z h (fun hc10 h => ?_) (fun hc10 h => ?_)
    ·refine AWP.d (.f (.a Z Z (.e Z Z (.nil (b5 (.ret (g7 (d8 ?_))))))))
     obtain rfl := oi h
     refine d8 ⟨_, Z, Z, ?_⟩
     exact Done.ret Z Z
    ·refine AWP.skip (d5 (b5 (.f (.a Z Z (.add Z Z Z (by omega) (.e Z Z (.nil ?_)))))))
     obtain rfl := oi h
     refine b5 ⟨_, Z, ?_⟩
     exact Sub.env ⟨Z, Z, Z, Z, Z, Z, Y⟩
  ·intro e s hq
   rcases oo with u | x
   ·try dsimp only at h hq
    obtain ⟨rfl, hs⟩ := hq
    refine ⟨_, hs, ?_⟩
    refine f9 (d5 (b5 (.f (.a Z Z (.add Z Z Z (by omega) (.e Z Z (.nil ?_)))))))
    obtain rfl := oi h
    refine b5 ⟨_, Z, ?_⟩
    exact Sub.env ⟨Z, Z, Z, Z, Z, Y⟩
   ·try dsimp only at h hq
    obtain ⟨rfl, hs⟩ := hq
    refine ⟨_, Sub.refl _ _, ?_⟩
    refine g7 (g7 (d8 ?_))
    obtain rfl := oi h
    refine d8 ⟨_, Z, Z, ?_⟩
    exact hs
 ·intro e s hq
  rcases oo with u | x
  ·try dsimp only at h hq
   obtain ⟨rfl, hs⟩ := hq
   refine ⟨_, hs, ?_⟩
   refine f9 (b5 (.d (.f (.e Z Z (.nil (b5 (.ret ?_)))))))
   obtain rfl := oi h
   exact Done.ret Z Z
  ·try dsimp only at h hq
   obtain ⟨rfl, hs⟩ := hq
   refine ⟨_, Sub.refl _ _, ?_⟩
   refine g7 (d8 ?_)
   obtain rfl := oi h
   exact hs
theorem ai4 {value : List Int} {r : (List Bool)} (h : ag2 value = some r) : m5 Tryz.prog 78 [.c (row 1 intI value)] 1 (List.map eBool r) := by
 unfold m5
 refine FnOk.enter (rs := [.t 2]) Tryz.func78 Z Tryz.ntmps78 Tryz.results78 Z ⟨trivial, Y⟩ (by kernel_rfl) Z ?_
 unfold ag2 at h
 refine AWP.d (.f (.e Z Z (.nil (b5 (.d (.f (.e Z Z (.nil (b5 (.d (.d (.f (.e Z Z (.nil (b5 (.l (.virtV 1 eBool 3 Z Z Z ?_)))))))))))))))))
 obtain ⟨c2, ho1, h⟩ := b7 h
 refine AWP.forS ho1 (fun iv3 c2 => ⟨[(0, .c (row 1 intI value)), (3, .c (.own 0 0 c2.length)), (4, .c (int iv3))], [.one (vec 1 eBool c2)]⟩) (fun c2 e st => e = .exit 0 ∧ Sub [] st ⟨[(3, .c (.own 0 0 c2.length))], [.one (vec 1 eBool c2)]⟩) ?_ ?_ ?_ ?_
 ·try dsimp only
  exact Sub.env ⟨Z, (x8 (by first | rfl | simp only [List.length_set])), Z, Y⟩
 ·intro iv3 c2 hloiv3 hltiv3 _
  try dsimp only
  refine AWP.d (.d (.f (.a Z Z (.a Z Z (S.len Z Z (fun hl7 => .j Z Z Z (.nil (b5 (.q Z hltiv3 (.exit (d6 (d6 ⟨Z, ?_⟩))))))))))))
  exact Sub.env ⟨Z, Y⟩
 ·intro iv3 c2 o hloiv3 hltiv3 h
  unfold ai0 at h
  try dsimp only at h ⊢
  refine AWP.d (.d (.f (.a Z Z (.a Z Z (S.len Z Z (fun hl7 => .j Z Z Z (.nil (b5 (.r Z hltiv3 (.skip (b5 (.d (.l ?_)))))))))))))
  obtain ⟨a14, ha14, a18, ha18, h⟩ := b2 h
  refine AWP.f (.a Z Z (.a Z Z (.a Z Z (S.idx ha14 Z Z Z Z (.p Z Z Z Z (.j Z Z Z (S.lit (f := eBool) (l := [decide (a14 < 1000000000)]) (ess := [[bool (decide (a14 < 1000000000))]]) Z Z Z Z Z Z Z ⟨⟨.inl Z, Y⟩, Y⟩ Z Z Z (S.append (f := eBool) ha18 Z Z Z Z Z Z (.own Z Z) Z Z Z Z (.e Z Z (.nil (d5 (b5 (.a (env' := [(0, .c (row 1 intI value)), (3, .c (.own 0 0 a18.length)), (4, .c (int iv3))]) (σ' := [.one (vec 1 eBool a18), .one (vec 1 eBool [decide (a14 < 1000000000)])]) 0 2 Z Z Z ⟨Z, Z, Z, Y⟩ Z ⟨⟨Blk.im_ok _ _ _, k7 Z⟩, ⟨Blk.im_ok _ _ _, k7 Z⟩, Y⟩ (.f (.a Z Z (.add Z Z Z (by omega) (.e Z Z (.nil ?_))))))))))))))))))
  obtain rfl := oi h
  refine b5 (Sub.cut ⟨Z, Z, Z, Y⟩ Z ⟨.vec, Y⟩ Z)
 ·intro e s hq
  obtain ⟨rfl, hs⟩ := hq
  refine ⟨_, hs, ?_⟩
  refine f9 (b5 (.d (.f (.a Z Z (.e Z Z (.nil (b5 (.ret ?_))))))))
  obtain rfl := oi h
  exact Done.ret Z (Fresh.mk Z Z)
theorem R4 {ov : b9} {all : LL} {inv : List Bool} {sv : List Int} {op : Int} {r : Bool} (h : af1 ov all inv sv op = some r) : d9 Tryz.prog 63 [.agg (tO ov), .c (row 1 d4 all), .c (row 1 eBool inv), .c (row 1 intI sv), .c (int op)] (.c (bool r)) := by
 unfold d9
 refine FnOk.enter (rs := [.t 10]) Tryz.func63 Z Tryz.ntmps63 Tryz.results63 Z ⟨trivial, Y⟩ (by kernel_rfl) Z ?_
 unfold af1 at h
 refine AWP.d (.f (W.box Z Z Z Z Z Z (.e Z Z (.nil (b5 (.d ?_))))))
 obtain ⟨a18, ha18, h⟩ := b7 h
 refine AWP.f (W.loadAgg Z Z Z Z Z Z Z (.a Z Z (.a Z Z (.k Z Z Z Z (N7 ha18) Z (.a Z Z (.w Z Z Z (.w Z Z Z (.e Z Z (.e Z Z (.nil (b5 (.d (.d (.f (.e Z Z (.nil (b5 (.l ?_))))))))))))))))))
 obtain ⟨oo, ho1, h⟩ := b7 h
 refine AWP.rngS ho1 (fun kv6 _ => ⟨[(1, .c (row 1 d4 all)), (2, .c (row 1 eBool inv)), (11, .c (row 1 d4 a18.1)), (13, .c (int kv6))], []⟩) (fun o e st => match o with | .inl _ => e = .exit 0 ∧ Sub [] st ⟨[], []⟩ | .inr x => e = .ret ∧ Done [.t 10] (fun t _ => t = .c (bool x)) .ret st) ?_ ?_ ?_ ?_
 ·try dsimp only
  exact Sub.cut ⟨Z, Z, Z, Z, Y⟩ Z trivial Z
 ·intro kv6 s hlokv6 hltkv6 _
  try dsimp only
  refine AWP.d (.d (.f (.a Z Z (.a Z Z (S.len Z Z (fun hl23 => .j Z Z Z (.nil (b5 (.q Z hltkv6 (.exit (d6 (d6 ⟨Z, ?_⟩))))))))))))
  exact Sub.env trivial
 ·intro kv6 s o hlokv6 hltkv6 h
  unfold ag0 at h
  try dsimp only at h ⊢
  refine AWP.d (.d (.f (.a Z Z (.a Z Z (S.len Z Z (fun hl23 => .j Z Z Z (.nil (b5 (.r Z hltkv6 (.skip (b5 (.d (.l (.d ?_))))))))))))))
  obtain ⟨a31, ha31, a33, ha33, a34, ha34, h⟩ := b3 h
  refine AWP.f (.a Z Z (.a Z Z (.a Z Z (.a Z Z (S.idx ha31 Z Z Z Z (.p Z Z Z Z (.k Z Z Z Z (x6 ha33) Z (S.idx ha34 Z Z Z Z (.p Z Z Z Z (.v Z Z (.nil (b5 (.s Z h (fun hc7 h => ?_) (fun hc7 h => ?_))))))))))))))
  ·refine AWP.d (.f (.e Z Z (.nil (b5 (.ret (g7 (d8 ?_)))))))
   obtain rfl := oi h
   refine d8 ⟨_, Z, Z, ?_⟩
   exact Done.ret Z Z
  ·refine AWP.skip (d5 (b5 (.f (.a Z Z (.add Z Z Z (by omega) (.e Z Z (.nil ?_)))))))
   obtain rfl := oi h
   refine b5 ⟨_, Z, ?_⟩
   exact Sub.env ⟨Z, Z, Z, Z, Y⟩
 ·intro e s hq
  rcases oo with u | x
  ·try dsimp only at h hq
   obtain ⟨rfl, hs⟩ := hq
   refine ⟨_, hs, ?_⟩
   refine f9 (b5 (.d (.f (.e Z Z (.nil (b5 (.ret ?_)))))))
   obtain rfl := oi h
   exact Done.ret Z Z
  ·try dsimp only at h hq
   obtain ⟨rfl, hs⟩ := hq
   refine ⟨_, Sub.refl _ _, ?_⟩
   refine g7 (d8 ?_)
   obtain rfl := oi h
   exact hs
theorem ai3 {ov : b9} {all : LL} {value : List Int} {sv : List Int} {op : Int} {r : Int} (h : ah0 ov all value sv op = some r) : d9 Tryz.prog 64 [.agg (tO ov), .c (row 1 d4 all), .c (row 1 intI value), .c (row 1 intI sv), .c (int op)] (.c (int r)) := by
 unfold d9
 refine FnOk.enter (rs := [.t 10]) Tryz.func64 Z Tryz.ntmps64 Tryz.results64 Z ⟨trivial, Y⟩ (by kernel_rfl) Z ?_
 unfold ah0 at h
 refine AWP.d (.f (W.box Z Z Z Z Z Z (.e Z Z (.nil (b5 (.d (.f (.e Z Z (.nil (b5 (.d ?_)))))))))))
 obtain ⟨a20, ha20, h⟩ := b7 h
 refine AWP.f (W.loadAgg Z Z Z Z Z Z Z (.a Z Z (.a Z Z (.k Z Z Z Z (N7 ha20) Z (.a Z Z (.w Z Z Z (.w Z Z Z (.e Z Z (.e Z Z (.nil (b5 (.d (.d (.f (.e Z Z (.nil (b5 (.l ?_))))))))))))))))))
 obtain ⟨nv6, ho1, h⟩ := b7 h
 refine AWP.forS ho1 (fun kv7 nv6 => ⟨[(1, .c (row 1 d4 all)), (2, .c (row 1 intI value)), (11, .c (int nv6)), (12, .c (row 1 d4 a20.1)), (14, .c (int kv7))], []⟩) (fun nv6 e st => e = .exit 0 ∧ Sub [] st ⟨[(11, .c (int nv6))], []⟩) ?_ ?_ ?_ ?_
 ·try dsimp only
  exact Sub.cut ⟨Z, Z, Z, Z, Z, Y⟩ Z trivial Z
 ·intro kv7 nv6 hlokv7 hltkv7 _
  try dsimp only
  refine AWP.d (.d (.f (.a Z Z (.a Z Z (S.len Z Z (fun hl25 => .j Z Z Z (.nil (b5 (.q Z hltkv7 (.exit (d6 (d6 ⟨Z, ?_⟩))))))))))))
  exact Sub.env ⟨Z, Y⟩
 ·intro kv7 nv6 o hlokv7 hltkv7 h
  unfold ai2 at h
  try dsimp only at h ⊢
  refine AWP.d (.d (.f (.a Z Z (.a Z Z (S.len Z Z (fun hl25 => .j Z Z Z (.nil (b5 (.r Z hltkv7 (.skip (b5 ?_)))))))))))
  obtain ⟨nv8, hx9, h⟩ := b7 h
  refine AWP.seqJ (⟨[(1, .c (row 1 d4 all)), (2, .c (row 1 intI value)), (11, .c (int nv8)), (12, .c (row 1 d4 a20.1)), (14, .c (int kv7))], []⟩) ?_ ?_
  ·refine AWP.l (.d ?_)
   obtain ⟨a33, ha33, a35, ha35, a36, ha36, hx9⟩ := b3 hx9
   refine AWP.f (.a Z Z (.a Z Z (.a Z Z (.a Z Z (S.idx ha33 Z Z Z Z (.p Z Z Z Z (.k Z Z Z Z (x6 ha35) Z (S.idx ha36 Z Z Z Z (.p Z Z Z Z (.e Z Z (.nil (b5 (.d (.f (.a Z Z (.a Z Z (.j Z Z Z (.nil (b5 (.ite Z hx9 (fun hc10 hx9 => ?_) (fun hc10 hx9 => ?_)))))))))))))))))))))
   ·refine AWP.f (.a Z Z (.e Z Z (.nil (d5 ?_))))
    obtain rfl := oi hx9
    refine b5 (Sub.env ⟨Z, Z, Z, Z, Z, Y⟩)
   ·refine AWP.skip (d5 ?_)
    obtain rfl := oi hx9
    refine b5 (Sub.env ⟨Z, Z, Z, Z, Z, Y⟩)
  ·refine AWP.f (.a Z Z (.add Z Z Z (by omega) (.e Z Z (.nil ?_))))
   obtain rfl := oi h
   refine b5 (Sub.env ⟨Z, Z, Z, Z, Z, Y⟩)
 ·intro e s hq
  obtain ⟨rfl, hs⟩ := hq
  refine ⟨_, hs, ?_⟩
  refine f9 (b5 (.d (.f (.a Z Z (.e Z Z (.nil (b5 (.ret ?_))))))))
  obtain rfl := oi h
  exact Done.ret Z Z
theorem ah7 {ov : b9} {all : LL} {value : List Int} {sv : List Int} {r : Int} (h : L5 ov all value sv = some r) : d9 Tryz.prog 50 [.agg (tO ov), .c (row 1 d4 all), .c (row 1 intI value), .c (row 1 intI sv)] (.c (int r)) := by
 unfold d9
 refine FnOk.enter (rs := [.t 8]) Tryz.func50 Z Tryz.ntmps50 Tryz.results50 Z ⟨trivial, Y⟩ (by kernel_rfl) Z ?_
 unfold L5 at h
 refine AWP.d (.f (W.box Z Z Z Z Z Z (.e Z Z (.nil (b5 (.d (.d (.f (.e Z Z (.nil (b5 (.l ?_))))))))))))
 obtain ⟨oo, ho1, h⟩ := b7 h
 refine AWP.rngS ho1 (fun op5 _ => ⟨[(1, .c (row 1 d4 all)), (2, .c (row 1 intI value)), (3, .c (row 1 intI sv)), (4, .c (.ptr 0 0 0)), (9, .c (int op5))], [.one (.cells 4 [(tO ov)])]⟩) (fun o e st => match o with | .inl _ => e = .exit 0 ∧ Sub [] st ⟨[], [.one (.cells 4 [(tO ov)])]⟩ | .inr x => e = .ret ∧ Done [.t 8] (fun t _ => t = .c (int x)) .ret st) ?_ ?_ ?_ ?_
 ·try dsimp only
  exact Sub.env ⟨Z, Z, Z, Z, Z, Y⟩
 ·intro op5 s hloop5 hltop5 _
  try dsimp only
  refine AWP.d (.d (.f (.a Z Z (W.fieldAddr Z Z Z Z (.m Z Z Z Z Z Z (S.len Z Z (fun hl13 => .j Z Z Z (.nil (b5 (.q Z hltop5 (.exit (d6 (d6 ⟨Z, ?_⟩)))))))))))))
  exact Sub.env trivial
 ·intro op5 s o hloop5 hltop5 h
  unfold W5 at h
  try dsimp only at h ⊢
  refine AWP.d (.d (.f (.a Z Z (W.fieldAddr Z Z Z Z (.m Z Z Z Z Z Z (S.len Z Z (fun hl13 => .j Z Z Z (.nil (b5 (.r Z hltop5 (.skip (b5 (.d (.l ?_))))))))))))))
  obtain ⟨t6, hx7, h⟩ := b7 h
  refine AWP.seqJ (⟨[(1, .c (row 1 d4 all)), (2, .c (row 1 intI value)), (3, .c (row 1 intI sv)), (4, .c (.ptr 0 0 0)), (9, .c (int op5)), (44, .c (bool t6))], [.one (.cells 4 [(tO ov)])]⟩) ?_ ?_
  ·obtain ⟨a20, ha20, hx7⟩ := b7 hx7
   rcases bft (a20) with hb8 | hb8
   ·replace hx7 := B8 hb8 hx7
    obtain ⟨a25, ha25, a28, ha28, hx7⟩ := b2 hx7
    rcases bft (a28) with hb9 | hb9
    ·replace hx7 := B8 hb9 hx7
     obtain ⟨a36, ha36, a40, ha40, a41, ha41, hx7⟩ := b3 hx7
     refine AWP.drawEI [8] mixed Z Z Z ?_
     refine g8.consN Z Z (fun E => W.loadAgg Z Z Z Z Z Z Z (.nil ⟨Z, Z⟩)) Z (.consN Z Z (fun E => AOps.a Z Z (.nil ⟨Z, Z⟩)) Z (.consN Z Z (fun E => AOps.a Z Z (.nil ⟨Z, Z⟩)) Z (.consN Z Z (fun E => AOps.k Z Z Z Z (r9 ha20) Z (.nil ⟨Z, Z⟩)) Z (.consN Z Z (fun E => AOps.a Z Z (.nil ⟨Z, Z⟩)) Z (.consN Z Z (fun E => AOps.g Z Z Z hb8 (W.loadAgg Z Z Z Z Z Z Z (.nil ⟨Z, Z⟩))) Z (.consN Z Z (fun E => AOps.g Z Z Z hb8 (.a Z Z (.nil ⟨Z, Z⟩))) Z (.consN Z Z (fun E => AOps.g Z Z Z hb8 (.a Z Z (.nil ⟨Z, Z⟩))) Z ?_)))))))
     apply g8.consE; exact Z; exact Z; intro E
     refine AOps.g Z Z Z hb8 (S.fresh Z Z Z Z (ai4 ha25) Z Z (.nil ⟨Z, Z⟩))
     exact Z
     exact Z
     refine g8.consN Z Z (fun E => AOps.g Z Z Z hb8 (.a Z Z (.nil ⟨Z, Z⟩))) Z (.consN Z Z (fun E => AOps.g Z Z Z hb8 (.a Z Z (.nil ⟨Z, Z⟩))) Z (.consN Z Z (fun E => AOps.g Z Z Z hb8 (.y Z Z (.cons (.agg (.cons .imm (.cons .imm (.cons .imm (.cons .imm .nil))))) (.cons (.c .imm) (.cons (.c (.own Z Z)) (.cons (.c .imm) (.cons (.c .imm) .nil))))) Z (R4 ha28) Z (.nil ⟨Z, Z⟩))) Z (.consN Z Z (fun E => AOps.o Z hb8 Z Z (.nil ⟨Z, Z⟩)) Z (.consN Z Z (fun E => AOps.a Z Z (.nil ⟨Z, Z⟩)) Z (.consN Z Z (fun E => AOps.g Z Z Z hb9 (W.loadAgg Z Z Z Z Z Z Z (.nil ⟨Z, Z⟩))) Z (.consN Z Z (fun E => AOps.g Z Z Z hb9 (.a Z Z (.nil ⟨Z, Z⟩))) Z (.consN Z Z (fun E => AOps.g Z Z Z hb9 (.a Z Z (.nil ⟨Z, Z⟩))) Z (.consN Z Z (fun E => AOps.g Z Z Z hb9 (.a Z Z (.nil ⟨Z, Z⟩))) Z (.consN Z Z (fun E => AOps.g Z Z Z hb9 (.a Z Z (.nil ⟨Z, Z⟩))) Z (.consN Z Z (fun E => AOps.g Z Z Z hb9 (.k Z Z Z Z (ai3 ha36) Z (.nil ⟨Z, Z⟩))) Z (.consN Z Z (fun E => AOps.g Z Z Z hb9 (.a Z Z (.nil ⟨Z, Z⟩))) Z (.consN Z Z (fun E => AOps.g Z Z Z hb9 (.a Z Z (.nil ⟨Z, Z⟩))) Z (.consN Z Z (fun E => AOps.g Z Z Z hb9 (.a Z Z (.nil ⟨Z, Z⟩))) Z (.consN Z Z (fun E => AOps.g Z Z Z hb9 (.k Z Z Z Z (x6 ha40) Z (.nil ⟨Z, Z⟩))) Z (.consN Z Z (fun E => AOps.g Z Z Z hb9 (S.idx ha41 Z Z Z Z (.nil ⟨Z, Z⟩))) Z (.consN Z Z (fun E => AOps.g Z Z Z hb9 (.p Z Z Z Z (.nil ⟨Z, Z⟩))) Z (.consN Z Z (fun E => AOps.g Z Z Z hb9 (.j Z Z Z (.nil ⟨Z, Z⟩))) Z (.consN Z Z (fun E => AOps.o Z hb9 Z Z (.nil ⟨Z, Z⟩)) Z ?_))))))))))))))))))
     refine g8.done Z ?_ ?_
     ·refine e8.cons Z Z ?_ ?_
      refine b8.go Z Z (fun E => W.loadAgg Z Z Z Z Z Z Z (AOps.nil ⟨Z, Z⟩)) ?_
      refine b8.skip Z (b8.nil)
      refine e8.cons Z Z ?_ ?_
      refine b8.go Z Z (fun E => AOps.a Z Z (AOps.nil ⟨Z, Z⟩)) ?_
      refine b8.skip Z (b8.nil)
      refine e8.cons Z Z ?_ ?_
      refine b8.go Z Z (fun E => AOps.a Z Z (AOps.nil ⟨Z, Z⟩)) ?_
      refine b8.skip Z (b8.nil)
      refine e8.cons Z Z ?_ ?_
      refine b8.go Z Z (fun E => AOps.k Z Z Z Z (r9 ha20) Z (AOps.nil ⟨Z, Z⟩)) ?_
      refine b8.skip Z (b8.nil)
      refine e8.cons Z Z ?_ ?_
      refine b8.go Z Z (fun E => AOps.a Z Z (AOps.nil ⟨Z, Z⟩)) ?_
      refine b8.skip Z (b8.nil)
      refine e8.cons Z Z ?_ ?_
      refine b8.go Z Z (fun E => AOps.g Z Z Z hb8 (W.loadAgg Z Z Z Z Z Z Z (AOps.nil ⟨Z, Z⟩))) ?_
      refine b8.go Z Z (fun E => AOps.g Z Z Z hb8 (W.loadAgg Z Z Z Z Z Z Z (AOps.nil ⟨Z, Z⟩))) ?_
      exact b8.nil
      refine e8.cons Z Z ?_ ?_
      refine b8.go Z Z (fun E => AOps.g Z Z Z hb8 (AOps.a Z Z (AOps.nil ⟨Z, Z⟩))) ?_
      refine b8.go Z Z (fun E => AOps.g Z Z Z hb8 (AOps.a Z Z (AOps.nil ⟨Z, Z⟩))) ?_
      exact b8.nil
      refine e8.cons Z Z ?_ ?_
      refine b8.go Z Z (fun E => AOps.g Z Z Z hb8 (AOps.a Z Z (AOps.nil ⟨Z, Z⟩))) ?_
      refine b8.skip Z (b8.nil)
      refine e8.skip Z ?_
      refine e8.cons Z Z ?_ ?_
      refine b8.go Z Z (fun E => AOps.g Z Z Z hb8 (AOps.a Z Z (AOps.nil ⟨Z, Z⟩))) ?_
      refine b8.go Z Z (fun E => AOps.g Z Z Z hb8 (AOps.a Z Z (AOps.nil ⟨Z, Z⟩))) ?_
      exact b8.nil
      refine e8.cons Z Z ?_ ?_
      refine b8.go Z Z (fun E => AOps.g Z Z Z hb8 (AOps.a Z Z (AOps.nil ⟨Z, Z⟩))) ?_
      refine b8.go Z Z (fun E => AOps.g Z Z Z hb8 (AOps.a Z Z (AOps.nil ⟨Z, Z⟩))) ?_
      exact b8.nil
      refine e8.cons Z Z ?_ ?_
      refine b8.skip Z ?_
      refine b8.go Z Z (fun E => AOps.g Z Z Z hb8 (AOps.y Z Z (.cons (.agg (.cons .imm (.cons .imm (.cons .imm (.cons .imm .nil))))) (.cons (.c .imm) (.cons (.c (.own Z Z)) (.cons (.c .imm) (.cons (.c .imm) .nil))))) Z (R4 ha28) Z (AOps.nil ⟨Z, Z⟩))) ?_
      exact b8.nil
      refine e8.cons Z Z ?_ ?_
      refine b8.skip Z ?_
      refine b8.go Z Z (fun E => AOps.o Z hb8 Z Z (AOps.nil ⟨Z, Z⟩)) ?_
      exact b8.nil
      refine e8.cons Z Z ?_ ?_
      refine b8.skip Z ?_
      refine b8.go Z Z (fun E => AOps.a Z Z (AOps.nil ⟨Z, Z⟩)) ?_
      exact b8.nil
      refine e8.cons Z Z ?_ ?_
      refine b8.skip Z ?_
      refine b8.go Z Z (fun E => AOps.g Z Z Z hb9 (W.loadAgg Z Z Z Z Z Z Z (AOps.nil ⟨Z, Z⟩))) ?_
      exact b8.nil
      refine e8.cons Z Z ?_ ?_
      refine b8.skip Z ?_
      refine b8.go Z Z (fun E => AOps.g Z Z Z hb9 (AOps.a Z Z (AOps.nil ⟨Z, Z⟩))) ?_
      exact b8.nil
      refine e8.cons Z Z ?_ ?_
      refine b8.skip Z ?_
      refine b8.go Z Z (fun E => AOps.g Z Z Z hb9 (AOps.a Z Z (AOps.nil ⟨Z, Z⟩))) ?_
      exact b8.nil
      refine e8.cons Z Z ?_ ?_
      refine b8.skip Z ?_
      refine b8.go Z Z (fun E => AOps.g Z Z Z hb9 (AOps.a Z Z (AOps.nil ⟨Z, Z⟩))) ?_
      exact b8.nil
      refine e8.cons Z Z ?_ ?_
      refine b8.skip Z ?_
      refine b8.go Z Z (fun E => AOps.g Z Z Z hb9 (AOps.a Z Z (AOps.nil ⟨Z, Z⟩))) ?_
      exact b8.nil
      refine e8.cons Z Z ?_ ?_
      refine b8.skip Z ?_
      refine b8.go Z Z (fun E => AOps.g Z Z Z hb9 (AOps.k Z Z Z Z (ai3 ha36) Z (AOps.nil ⟨Z, Z⟩))) ?_
      exact b8.nil
      refine e8.cons Z Z ?_ ?_
      refine b8.skip Z ?_
      refine b8.go Z Z (fun E => AOps.g Z Z Z hb9 (AOps.a Z Z (AOps.nil ⟨Z, Z⟩))) ?_
      exact b8.nil
      refine e8.cons Z Z ?_ ?_
      refine b8.skip Z ?_
      refine b8.go Z Z (fun E => AOps.g Z Z Z hb9 (AOps.a Z Z (AOps.nil ⟨Z, Z⟩))) ?_
      exact b8.nil
      refine e8.cons Z Z ?_ ?_
      refine b8.skip Z ?_
      refine b8.go Z Z (fun E => AOps.g Z Z Z hb9 (AOps.a Z Z (AOps.nil ⟨Z, Z⟩))) ?_
      exact b8.nil
      refine e8.cons Z Z ?_ ?_
      refine b8.skip Z ?_
      refine b8.go Z Z (fun E => AOps.g Z Z Z hb9 (AOps.k Z Z Z Z (x6 ha40) Z (AOps.nil ⟨Z, Z⟩))) ?_
      exact b8.nil
      refine e8.cons Z Z ?_ ?_
      refine b8.skip Z ?_
      refine b8.go Z Z (fun E => AOps.g Z Z Z hb9 (S.idx ha41 Z Z Z Z (AOps.nil ⟨Z, Z⟩))) ?_
      exact b8.nil
      refine e8.cons Z Z ?_ ?_
      refine b8.skip Z ?_
      refine b8.go Z Z (fun E => AOps.g Z Z Z hb9 (AOps.p Z Z Z Z (AOps.nil ⟨Z, Z⟩))) ?_
      exact b8.nil
      refine e8.cons Z Z ?_ ?_
      refine b8.skip Z ?_
      refine b8.go Z Z (fun E => AOps.g Z Z Z hb9 (AOps.j Z Z Z (AOps.nil ⟨Z, Z⟩))) ?_
      exact b8.nil
      refine e8.cons Z Z ?_ ?_
      refine b8.skip Z ?_
      refine b8.go Z Z (fun E => AOps.o Z hb9 Z Z (AOps.nil ⟨Z, Z⟩)) ?_
      exact b8.nil
      exact e8.nil
     dsimp only [i9]
     obtain rfl := oi hx7
     refine b5 (Sub.cut ⟨Z, Z, Z, Z, Z, Z, Y⟩ Z ⟨.one Z, Y⟩ Z)
    ·replace hx7 := B9 hb9 hx7
     refine AWP.drawEI [8] mixed Z Z Z ?_
     refine g8.consN Z Z (fun E => W.loadAgg Z Z Z Z Z Z Z (.nil ⟨Z, Z⟩)) Z (.consN Z Z (fun E => AOps.a Z Z (.nil ⟨Z, Z⟩)) Z (.consN Z Z (fun E => AOps.a Z Z (.nil ⟨Z, Z⟩)) Z (.consN Z Z (fun E => AOps.k Z Z Z Z (r9 ha20) Z (.nil ⟨Z, Z⟩)) Z (.consN Z Z (fun E => AOps.a Z Z (.nil ⟨Z, Z⟩)) Z (.consN Z Z (fun E => AOps.g Z Z Z hb8 (W.loadAgg Z Z Z Z Z Z Z (.nil ⟨Z, Z⟩))) Z (.consN Z Z (fun E => AOps.g Z Z Z hb8 (.a Z Z (.nil ⟨Z, Z⟩))) Z (.consN Z Z (fun E => AOps.g Z Z Z hb8 (.a Z Z (.nil ⟨Z, Z⟩))) Z ?_)))))))
     apply g8.consE; exact Z; exact Z; intro E
     refine AOps.g Z Z Z hb8 (S.fresh Z Z Z Z (ai4 ha25) Z Z (.nil ⟨Z, Z⟩))
     exact Z
     exact Z
     refine g8.consN Z Z (fun E => AOps.g Z Z Z hb8 (.a Z Z (.nil ⟨Z, Z⟩))) Z (.consN Z Z (fun E => AOps.g Z Z Z hb8 (.a Z Z (.nil ⟨Z, Z⟩))) Z (.consN Z Z (fun E => AOps.g Z Z Z hb8 (.y Z Z (.cons (.agg (.cons .imm (.cons .imm (.cons .imm (.cons .imm .nil))))) (.cons (.c .imm) (.cons (.c (.own Z Z)) (.cons (.c .imm) (.cons (.c .imm) .nil))))) Z (R4 ha28) Z (.nil ⟨Z, Z⟩))) Z (.consN Z Z (fun E => AOps.o Z hb8 Z Z (.nil ⟨Z, Z⟩)) Z (.consN Z Z (fun E => AOps.a Z Z (.nil ⟨Z, Z⟩)) Z (.consN Z Z (fun E => AOps.i Z Z Z hb9 (.nil ⟨Z, Z⟩)) Z (.consN Z Z (fun E => AOps.i Z Z Z hb9 (.nil ⟨Z, Z⟩)) Z (.consN Z Z (fun E => AOps.i Z Z Z hb9 (.nil ⟨Z, Z⟩)) Z (.consN Z Z (fun E => AOps.i Z Z Z hb9 (.nil ⟨Z, Z⟩)) Z (.consN Z Z (fun E => AOps.i Z Z Z hb9 (.nil ⟨Z, Z⟩)) Z (.consN Z Z (fun E => AOps.i Z Z Z hb9 (.nil ⟨Z, Z⟩)) Z (.consN Z Z (fun E => AOps.i Z Z Z hb9 (.nil ⟨Z, Z⟩)) Z (.consN Z Z (fun E => AOps.i Z Z Z hb9 (.nil ⟨Z, Z⟩)) Z (.consN Z Z (fun E => AOps.i Z Z Z hb9 (.nil ⟨Z, Z⟩)) Z (.consN Z Z (fun E => AOps.i Z Z Z hb9 (.nil ⟨Z, Z⟩)) Z (.consN Z Z (fun E => AOps.i Z Z Z hb9 (.nil ⟨Z, Z⟩)) Z (.consN Z Z (fun E => AOps.i Z Z Z hb9 (.nil ⟨Z, Z⟩)) Z (.consN Z Z (fun E => AOps.i Z Z Z hb9 (.nil ⟨Z, Z⟩)) Z (.consN Z Z (fun E => AOps.n Z hb9 Z Z (.nil ⟨Z, Z⟩)) Z ?_))))))))))))))))))
     refine g8.done Z ?_ ?_
     ·refine e8.cons Z Z ?_ ?_
      refine b8.go Z Z (fun E => W.loadAgg Z Z Z Z Z Z Z (AOps.nil ⟨Z, Z⟩)) ?_
      refine b8.skip Z (b8.nil)
      refine e8.cons Z Z ?_ ?_
      refine b8.go Z Z (fun E => AOps.a Z Z (AOps.nil ⟨Z, Z⟩)) ?_
      refine b8.skip Z (b8.nil)
      refine e8.cons Z Z ?_ ?_
      refine b8.go Z Z (fun E => AOps.a Z Z (AOps.nil ⟨Z, Z⟩)) ?_
      refine b8.skip Z (b8.nil)
      refine e8.cons Z Z ?_ ?_
      refine b8.go Z Z (fun E => AOps.k Z Z Z Z (r9 ha20) Z (AOps.nil ⟨Z, Z⟩)) ?_
      refine b8.skip Z (b8.nil)
      refine e8.cons Z Z ?_ ?_
      refine b8.go Z Z (fun E => AOps.a Z Z (AOps.nil ⟨Z, Z⟩)) ?_
      refine b8.skip Z (b8.nil)
      refine e8.cons Z Z ?_ ?_
      refine b8.go Z Z (fun E => AOps.g Z Z Z hb8 (W.loadAgg Z Z Z Z Z Z Z (AOps.nil ⟨Z, Z⟩))) ?_
      refine b8.go Z Z (fun E => AOps.g Z Z Z hb8 (W.loadAgg Z Z Z Z Z Z Z (AOps.nil ⟨Z, Z⟩))) ?_
      exact b8.nil
      refine e8.cons Z Z ?_ ?_
      refine b8.go Z Z (fun E => AOps.g Z Z Z hb8 (AOps.a Z Z (AOps.nil ⟨Z, Z⟩))) ?_
      refine b8.go Z Z (fun E => AOps.g Z Z Z hb8 (AOps.a Z Z (AOps.nil ⟨Z, Z⟩))) ?_
      exact b8.nil
      refine e8.cons Z Z ?_ ?_
      refine b8.go Z Z (fun E => AOps.g Z Z Z hb8 (AOps.a Z Z (AOps.nil ⟨Z, Z⟩))) ?_
      refine b8.skip Z (b8.nil)
      refine e8.skip Z ?_
      refine e8.cons Z Z ?_ ?_
      refine b8.go Z Z (fun E => AOps.g Z Z Z hb8 (AOps.a Z Z (AOps.nil ⟨Z, Z⟩))) ?_
      refine b8.go Z Z (fun E => AOps.g Z Z Z hb8 (AOps.a Z Z (AOps.nil ⟨Z, Z⟩))) ?_
      exact b8.nil
      refine e8.cons Z Z ?_ ?_
      refine b8.go Z Z (fun E => AOps.g Z Z Z hb8 (AOps.a Z Z (AOps.nil ⟨Z, Z⟩))) ?_
      refine b8.go Z Z (fun E => AOps.g Z Z Z hb8 (AOps.a Z Z (AOps.nil ⟨Z, Z⟩))) ?_
      exact b8.nil
      refine e8.cons Z Z ?_ ?_
      refine b8.skip Z ?_
      refine b8.go Z Z (fun E => AOps.g Z Z Z hb8 (AOps.y Z Z (.cons (.agg (.cons .imm (.cons .imm (.cons .imm (.cons .imm .nil))))) (.cons (.c .imm) (.cons (.c (.own Z Z)) (.cons (.c .imm) (.cons (.c .imm) .nil))))) Z (R4 ha28) Z (AOps.nil ⟨Z, Z⟩))) ?_
      exact b8.nil
      refine e8.cons Z Z ?_ ?_
      refine b8.skip Z ?_
      refine b8.go Z Z (fun E => AOps.o Z hb8 Z Z (AOps.nil ⟨Z, Z⟩)) ?_
      exact b8.nil
      refine e8.cons Z Z ?_ ?_
      refine b8.skip Z ?_
      refine b8.go Z Z (fun E => AOps.a Z Z (AOps.nil ⟨Z, Z⟩)) ?_
      exact b8.nil
      refine e8.cons Z Z ?_ ?_
      refine b8.skip Z ?_
      refine b8.go Z Z (fun E => AOps.i Z Z Z hb9 (AOps.nil ⟨Z, Z⟩)) ?_
      exact b8.nil
      refine e8.cons Z Z ?_ ?_
      refine b8.skip Z ?_
      refine b8.go Z Z (fun E => AOps.i Z Z Z hb9 (AOps.nil ⟨Z, Z⟩)) ?_
      exact b8.nil
      refine e8.cons Z Z ?_ ?_
      refine b8.skip Z ?_
      refine b8.go Z Z (fun E => AOps.i Z Z Z hb9 (AOps.nil ⟨Z, Z⟩)) ?_
      exact b8.nil
      refine e8.cons Z Z ?_ ?_
      refine b8.skip Z ?_
      refine b8.go Z Z (fun E => AOps.i Z Z Z hb9 (AOps.nil ⟨Z, Z⟩)) ?_
      exact b8.nil
      refine e8.cons Z Z ?_ ?_
      refine b8.skip Z ?_
      refine b8.go Z Z (fun E => AOps.i Z Z Z hb9 (AOps.nil ⟨Z, Z⟩)) ?_
      exact b8.nil
      refine e8.cons Z Z ?_ ?_
      refine b8.skip Z ?_
      refine b8.go Z Z (fun E => AOps.i Z Z Z hb9 (AOps.nil ⟨Z, Z⟩)) ?_
      exact b8.nil
      refine e8.cons Z Z ?_ ?_
      refine b8.skip Z ?_
      refine b8.go Z Z (fun E => AOps.i Z Z Z hb9 (AOps.nil ⟨Z, Z⟩)) ?_
      exact b8.nil
      refine e8.cons Z Z ?_ ?_
      refine b8.skip Z ?_
      refine b8.go Z Z (fun E => AOps.i Z Z Z hb9 (AOps.nil ⟨Z, Z⟩)) ?_
      exact b8.nil
      refine e8.cons Z Z ?_ ?_
      refine b8.skip Z ?_
      refine b8.go Z Z (fun E => AOps.i Z Z Z hb9 (AOps.nil ⟨Z, Z⟩)) ?_
      exact b8.nil
      refine e8.cons Z Z ?_ ?_
      refine b8.skip Z ?_
      refine b8.go Z Z (fun E => AOps.i Z Z Z hb9 (AOps.nil ⟨Z, Z⟩)) ?_
      exact b8.nil
      refine e8.cons Z Z ?_ ?_
      refine b8.skip Z ?_
      refine b8.go Z Z (fun E => AOps.i Z Z Z hb9 (AOps.nil ⟨Z, Z⟩)) ?_
      exact b8.nil
      refine e8.cons Z Z ?_ ?_
      refine b8.skip Z ?_
      refine b8.go Z Z (fun E => AOps.i Z Z Z hb9 (AOps.nil ⟨Z, Z⟩)) ?_
      exact b8.nil
      refine e8.cons Z Z ?_ ?_
      refine b8.skip Z ?_
      refine b8.go Z Z (fun E => AOps.i Z Z Z hb9 (AOps.nil ⟨Z, Z⟩)) ?_
      exact b8.nil
      refine e8.cons Z Z ?_ ?_
      refine b8.skip Z ?_
      refine b8.go Z Z (fun E => AOps.n Z hb9 Z Z (AOps.nil ⟨Z, Z⟩)) ?_
      exact b8.nil
      exact e8.nil
     dsimp only [i9]
     obtain rfl := oi hx7
     refine b5 (Sub.cut ⟨Z, Z, Z, Z, Z, Z, Y⟩ Z ⟨.one Z, Y⟩ Z)
   ·replace hx7 := B9 hb8 hx7
    refine AWP.drawEI [8] mixed Z Z Z ?_
    refine g8.consN Z Z (fun E => W.loadAgg Z Z Z Z Z Z Z (.nil ⟨Z, Z⟩)) Z (.consN Z Z (fun E => AOps.a Z Z (.nil ⟨Z, Z⟩)) Z (.consN Z Z (fun E => AOps.a Z Z (.nil ⟨Z, Z⟩)) Z (.consN Z Z (fun E => AOps.k Z Z Z Z (r9 ha20) Z (.nil ⟨Z, Z⟩)) Z (.consN Z Z (fun E => AOps.a Z Z (.nil ⟨Z, Z⟩)) Z (.consN Z Z (fun E => AOps.i Z Z Z hb8 (.nil ⟨Z, Z⟩)) Z (.consN Z Z (fun E => AOps.i Z Z Z hb8 (.nil ⟨Z, Z⟩)) Z (.consN Z Z (fun E => AOps.i Z Z Z hb8 (.nil ⟨Z, Z⟩)) Z ?_)))))))
    apply g8.consE; exact Z; exact Z; intro E
    refine AOps.i Z Z Z hb8 (.nil ⟨Z, Z⟩)
    exact Z
    exact Z
    refine g8.consN Z Z (fun E => AOps.i Z Z Z hb8 (.nil ⟨Z, Z⟩)) Z (.consN Z Z (fun E => AOps.i Z Z Z hb8 (.nil ⟨Z, Z⟩)) Z (.consN Z Z (fun E => AOps.i Z Z Z hb8 (.nil ⟨Z, Z⟩)) Z (.consN Z Z (fun E => AOps.n Z hb8 Z Z (.nil ⟨Z, Z⟩)) Z (.consN Z Z (fun E => AOps.a Z Z (.nil ⟨Z, Z⟩)) Z (.consN Z Z (fun E => AOps.i Z Z Z Z (.nil ⟨Z, Z⟩)) Z (.consN Z Z (fun E => AOps.i Z Z Z Z (.nil ⟨Z, Z⟩)) Z (.consN Z Z (fun E => AOps.i Z Z Z Z (.nil ⟨Z, Z⟩)) Z (.consN Z Z (fun E => AOps.i Z Z Z Z (.nil ⟨Z, Z⟩)) Z (.consN Z Z (fun E => AOps.i Z Z Z Z (.nil ⟨Z, Z⟩)) Z (.consN Z Z (fun E => AOps.i Z Z Z Z (.nil ⟨Z, Z⟩)) Z (.consN Z Z (fun E => AOps.i Z Z Z Z (.nil ⟨Z, Z⟩)) Z (.consN Z Z (fun E => AOps.i Z Z Z Z (.nil ⟨Z, Z⟩)) Z (.consN Z Z (fun E => AOps.i Z Z Z Z (.nil ⟨Z, Z⟩)) Z (.consN Z Z (fun E => AOps.i Z Z Z Z (.nil ⟨Z, Z⟩)) Z (.consN Z Z (fun E => AOps.i Z Z Z Z (.nil ⟨Z, Z⟩)) Z (.consN Z Z (fun E => AOps.i Z Z Z Z (.nil ⟨Z, Z⟩)) Z (.consN Z Z (fun E => AOps.i Z Z Z Z (.nil ⟨Z, Z⟩)) Z (.consN Z Z (fun E => AOps.n Z Z Z Z (.nil ⟨Z, Z⟩)) Z ?_))))))))))))))))))
    refine g8.done Z ?_ ?_
    ·refine e8.cons Z Z ?_ ?_
     refine b8.go Z Z (fun E => W.loadAgg Z Z Z Z Z Z Z (AOps.nil ⟨Z, Z⟩)) ?_
     refine b8.skip Z (b8.nil)
     refine e8.cons Z Z ?_ ?_
     refine b8.go Z Z (fun E => AOps.a Z Z (AOps.nil ⟨Z, Z⟩)) ?_
     refine b8.skip Z (b8.nil)
     refine e8.cons Z Z ?_ ?_
     refine b8.go Z Z (fun E => AOps.a Z Z (AOps.nil ⟨Z, Z⟩)) ?_
     refine b8.skip Z (b8.nil)
     refine e8.cons Z Z ?_ ?_
     refine b8.go Z Z (fun E => AOps.k Z Z Z Z (r9 ha20) Z (AOps.nil ⟨Z, Z⟩)) ?_
     refine b8.skip Z (b8.nil)
     refine e8.cons Z Z ?_ ?_
     refine b8.go Z Z (fun E => AOps.a Z Z (AOps.nil ⟨Z, Z⟩)) ?_
     refine b8.skip Z (b8.nil)
     refine e8.cons Z Z ?_ ?_
     refine b8.go Z Z (fun E => AOps.i Z Z Z hb8 (AOps.nil ⟨Z, Z⟩)) ?_
     refine b8.go Z Z (fun E => AOps.i Z Z Z hb8 (AOps.nil ⟨Z, Z⟩)) ?_
     exact b8.nil
     refine e8.cons Z Z ?_ ?_
     refine b8.go Z Z (fun E => AOps.i Z Z Z hb8 (AOps.nil ⟨Z, Z⟩)) ?_
     refine b8.go Z Z (fun E => AOps.i Z Z Z hb8 (AOps.nil ⟨Z, Z⟩)) ?_
     exact b8.nil
     refine e8.cons Z Z ?_ ?_
     refine b8.go Z Z (fun E => AOps.i Z Z Z hb8 (AOps.nil ⟨Z, Z⟩)) ?_
     refine b8.skip Z (b8.nil)
     refine e8.skip Z ?_
     refine e8.cons Z Z ?_ ?_
     refine b8.go Z Z (fun E => AOps.i Z Z Z hb8 (AOps.nil ⟨Z, Z⟩)) ?_
     refine b8.go Z Z (fun E => AOps.i Z Z Z hb8 (AOps.nil ⟨Z, Z⟩)) ?_
     exact b8.nil
     refine e8.cons Z Z ?_ ?_
     refine b8.go Z Z (fun E => AOps.i Z Z Z hb8 (AOps.nil ⟨Z, Z⟩)) ?_
     refine b8.go Z Z (fun E => AOps.i Z Z Z hb8 (AOps.nil ⟨Z, Z⟩)) ?_
     exact b8.nil
     refine e8.cons Z Z ?_ ?_
     refine b8.skip Z ?_
     refine b8.go Z Z (fun E => AOps.i Z Z Z hb8 (AOps.nil ⟨Z, Z⟩)) ?_
     exact b8.nil
     refine e8.cons Z Z ?_ ?_
     refine b8.skip Z ?_
     refine b8.go Z Z (fun E => AOps.n Z hb8 Z Z (AOps.nil ⟨Z, Z⟩)) ?_
     exact b8.nil
     refine e8.cons Z Z ?_ ?_
     refine b8.skip Z ?_
     refine b8.go Z Z (fun E => AOps.a Z Z (AOps.nil ⟨Z, Z⟩)) ?_
     exact b8.nil
     refine e8.cons Z Z ?_ ?_
     refine b8.skip Z ?_
     refine b8.go Z Z (fun E => AOps.i Z Z Z Z (AOps.nil ⟨Z, Z⟩)) ?_
     exact b8.nil
     refine e8.cons Z Z ?_ ?_
     refine b8.skip Z ?_
     refine b8.go Z Z (fun E => AOps.i Z Z Z Z (AOps.nil ⟨Z, Z⟩)) ?_
     exact b8.nil
     refine e8.cons Z Z ?_ ?_
     refine b8.skip Z ?_
     refine b8.go Z Z (fun E => AOps.i Z Z Z Z (AOps.nil ⟨Z, Z⟩)) ?_
     exact b8.nil
     refine e8.cons Z Z ?_ ?_
     refine b8.skip Z ?_
     refine b8.go Z Z (fun E => AOps.i Z Z Z Z (AOps.nil ⟨Z, Z⟩)) ?_
     exact b8.nil
     refine e8.cons Z Z ?_ ?_
     refine b8.skip Z ?_
     refine b8.go Z Z (fun E => AOps.i Z Z Z Z (AOps.nil ⟨Z, Z⟩)) ?_
     exact b8.nil
     refine e8.cons Z Z ?_ ?_
     refine b8.skip Z ?_
     refine b8.go Z Z (fun E => AOps.i Z Z Z Z (AOps.nil ⟨Z, Z⟩)) ?_
     exact b8.nil
     refine e8.cons Z Z ?_ ?_
     refine b8.skip Z ?_
     refine b8.go Z Z (fun E => AOps.i Z Z Z Z (AOps.nil ⟨Z, Z⟩)) ?_
     exact b8.nil
     refine e8.cons Z Z ?_ ?_
     refine b8.skip Z ?_
     refine b8.go Z Z (fun E => AOps.i Z Z Z Z (AOps.nil ⟨Z, Z⟩)) ?_
     exact b8.nil
     refine e8.cons Z Z ?_ ?_
     refine b8.skip Z ?_
     refine b8.go Z Z (fun E => AOps.i Z Z Z Z (AOps.nil ⟨Z, Z⟩)) ?_
     exact b8.nil
     refine e8.cons Z Z ?_ ?_
     refine b8.skip Z ?_
     refine b8.go Z Z (fun E => AOps.i Z Z Z Z (AOps.nil ⟨Z, Z⟩)) ?_
     exact b8.nil
     refine e8.cons Z Z ?_ ?_
     refine b8.skip Z ?_
     refine b8.go Z Z (fun E => AOps.i Z Z Z Z (AOps.nil ⟨Z, Z⟩)) ?_
     exact b8.nil
     refine e8.cons Z Z ?_ ?_
     refine b8.skip Z ?_
     refine b8.go Z Z (fun E => AOps.i Z Z Z Z (AOps.nil ⟨Z, Z⟩)) ?_
     exact b8.nil
     refine e8.cons Z Z ?_ ?_
     refine b8.skip Z ?_
     refine b8.go Z Z (fun E => AOps.i Z Z Z Z (AOps.nil ⟨Z, Z⟩)) ?_
     exact b8.nil
     refine e8.cons Z Z ?_ ?_
     refine b8.skip Z ?_
     refine b8.go Z Z (fun E => AOps.n Z Z Z Z (AOps.nil ⟨Z, Z⟩)) ?_
     exact b8.nil
     exact e8.nil
    dsimp only [i9]
    obtain rfl := oi hx7
    refine b5 (Sub.env ⟨Z, Z, Z, Z, Z, Z, Y⟩)
  ·refine AWP.s Z h (fun hc10 h => ?_) (fun hc10 h => ?_)
   ·refine AWP.d (.f (.a Z Z (.e Z Z (.nil (b5 (.ret (g7 (d8 ?_))))))))
    obtain rfl := oi h
    refine d8 ⟨_, Z, Z, ?_⟩
    exact Done.ret Z Z
   ·refine AWP.skip (d5 (b5 (.f (.a Z Z (.add Z Z Z (by omega) (.e Z Z (.nil ?_)))))))
    obtain rfl := oi h
    refine b5 ⟨_, Z, ?_⟩
    exact Sub.env ⟨Z, Z, Z, Z, Z, Y⟩
 ·intro e s hq
  rcases oo with u | x
  ·try dsimp only at h hq
   obtain ⟨rfl, hs⟩ := hq
   refine ⟨_, hs, ?_⟩
   refine f9 (b5 (.d (.f (.e Z Z (.nil (b5 (.ret ?_)))))))
   obtain rfl := oi h
   exact Done.ret Z Z
  ·try dsimp only at h hq
   obtain ⟨rfl, hs⟩ := hq
   refine ⟨_, Sub.refl _ _, ?_⟩
   refine g7 (d8 ?_)
   obtain rfl := oi h
   exact hs
theorem ah9 {ov : b9} {all : LL} {value : List Int} {kind : Int} {r : (List d7)} (h : V7 ov all value kind = some r) : d9 Tryz.prog 19 [.agg (tO ov), .c (row 1 d4 all), .c (row 1 intI value), .c (int kind)] (.c (row 2 e9 r)) := by
 unfold d9
 refine FnOk.enter (rs := [.t 8]) Tryz.func19 Z Tryz.ntmps19 Tryz.results19 Z ⟨trivial, Y⟩ (by kernel_rfl) Z ?_
 unfold V7 at h
 refine AWP.d (.f (W.box Z Z Z Z Z Z (.e Z Z (.nil (b5 (.d (.f (.e Z Z (.nil (b5 (.l (.virtV 2 e9 9 Z Z Z ?_))))))))))))
 obtain ⟨x, ho1, h⟩ := b7 h
 refine AWP.loopS ho1 (fun c5 => ⟨[(1, .c (row 1 d4 all)), (2, .c (row 1 intI value)), (3, .c (int kind)), (4, .c (.ptr 0 0 0)), (9, .c (.own 1 0 c5.length))], [.one (.cells 4 [(tO ov)]), .one (vec 2 e9 c5)]⟩) (fun x e st => e = .ret ∧ Done [.t 8] (fun t _ => t = .c (row 2 e9 x)) .ret st) ?_ ?_ ?_
 ·try dsimp only
  exact Sub.env ⟨Z, Z, Z, Z, (x8 (by first | rfl | simp only [List.length_set])), Y⟩
 ·intro c5 o h
  unfold U0 at h
  try dsimp only at h ⊢
  refine AWP.l (.d ?_)
  obtain ⟨a19, ha19, h⟩ := b7 h
  refine AWP.f (W.loadAgg Z Z Z Z Z Z Z (.a Z Z (.frzV (id := 1) (l := c5) (env2 := [(1, .c (row 1 d4 all)), (2, .c (row 1 intI value)), (3, .c (int kind)), (4, .c (.ptr 0 0 0)), (9, .c (row 2 e9 c5)), (17, .agg (tO ov)), (18, .c (row 2 e9 c5))]) (σ2 := [.one (.cells 4 [(tO ov)]), .dead]) Z Z (by exact ⟨⟨_, Z, .inl ⟨Z, Z⟩⟩, ⟨_, Z, .inl ⟨Z, Z⟩⟩, ⟨_, Z, .inl ⟨Z, Z⟩⟩, ⟨_, Z, .inl ⟨Z, Z⟩⟩, ⟨_, Z, .inr ⟨_, Z, Z, Z⟩⟩, ⟨_, Z, ⟨.inl ⟨Z, Z⟩, .inl ⟨Z, Z⟩, .inl ⟨Z, Z⟩, .inl ⟨Z, Z⟩, Y⟩⟩, ⟨_, Z, .inr ⟨_, Z, Z, Z⟩⟩, Y⟩) Z (by exact ⟨⟨Z, .inl ⟨Z, Z⟩, .inl ⟨Z, Z⟩, .inl ⟨Z, Z⟩, .inl ⟨Z, Z⟩, Y⟩, trivial, Y⟩) (.k Z Z Z Z (ref8_Visited_ok ha19) Z (.e Z Z (.nil (b5 (.d (.f (.e Z Z (.nil (b5 (.d (.d (.f (.e Z Z (.nil (b5 (.l ?_)))))))))))))))))))
  obtain ⟨fresh6, ho2, h⟩ := b7 h
  refine AWP.forS ho2 (fun iv7 fresh6 => ⟨[(1, .c (row 1 d4 all)), (2, .c (row 1 intI value)), (3, .c (int kind)), (4, .c (.ptr 0 0 0)), (9, .c (row 2 e9 c5)), (10, .c (row 1 d4 a19)), (11, .c (int fresh6)), (12, .c (int iv7))], [.one (.cells 4 [(tO ov)])]⟩) (fun fresh6 e st => e = .exit 2 ∧ Sub [] st ⟨[(1, .c (row 1 d4 all)), (2, .c (row 1 intI value)), (3, .c (int kind)), (4, .c (.ptr 0 0 0)), (9, .c (row 2 e9 c5)), (10, .c (row 1 d4 a19)), (11, .c (int fresh6))], [.one (.cells 4 [(tO ov)])]⟩) ?_ ?_ ?_ ?_
  ·try dsimp only
   exact Sub.cut ⟨Z, Z, Z, Z, Z, Z, Z, Z, Y⟩ Z ⟨.one Z, Y⟩ Z
  ·intro iv7 fresh6 hloiv7 hltiv7 _
   try dsimp only
   refine AWP.d (.d (.f (.a Z Z (.a Z Z (S.len Z Z (fun hl22 => .j Z Z Z (.nil (b5 (.q Z hltiv7 (.exit (d6 (d6 ⟨Z, ?_⟩))))))))))))
   exact Sub.env ⟨Z, Z, Z, Z, Z, Z, Z, Y⟩
  ·intro iv7 fresh6 o hloiv7 hltiv7 h
   unfold T2 at h
   try dsimp only at h ⊢
   refine AWP.d (.d (.f (.a Z Z (.a Z Z (S.len Z Z (fun hl22 => .j Z Z Z (.nil (b5 (.r Z hltiv7 (.skip (b5 ?_)))))))))))
   obtain ⟨fresh8, hx9, h⟩ := b7 h
   refine AWP.seqJ (⟨[(1, .c (row 1 d4 all)), (2, .c (row 1 intI value)), (3, .c (int kind)), (4, .c (.ptr 0 0 0)), (9, .c (row 2 e9 c5)), (10, .c (row 1 d4 a19)), (11, .c (int fresh8)), (12, .c (int iv7))], [.one (.cells 4 [(tO ov)])]⟩) ?_ ?_
   ·refine AWP.l ?_
    obtain ⟨t10, hx11, hx9⟩ := b7 hx9
    refine AWP.seqJ (⟨[(1, .c (row 1 d4 all)), (2, .c (row 1 intI value)), (3, .c (int kind)), (4, .c (.ptr 0 0 0)), (9, .c (row 2 e9 c5)), (10, .c (row 1 d4 a19)), (11, .c (int fresh6)), (12, .c (int iv7)), (41, .c (bool t10))], [.one (.cells 4 [(tO ov)])]⟩) ?_ ?_
    ·obtain ⟨a29, ha29, a31, ha31, hx11⟩ := b2 hx11
     rcases bft (!a31) with hb12 | hb12
     ·replace hx11 := B8 hb12 hx11
      obtain ⟨a37, ha37, a39, ha39, hx11⟩ := b2 hx11
      refine AWP.drawI mixed Z ?_
      refine g9.consF Z (fun E => W.loadAgg Z Z Z Z Z Z Z (.nil ⟨Z, Z⟩)) Z (.consF Z (fun E => AOps.a Z Z (.nil ⟨Z, Z⟩)) Z (.consF Z (fun E => AOps.a Z Z (.nil ⟨Z, Z⟩)) Z (.consF Z (fun E => S.idx ha29 Z Z Z Z (.nil ⟨Z, Z⟩)) Z (.consF Z (fun E => AOps.p Z Z Z Z (.nil ⟨Z, Z⟩)) Z (.consF Z (fun E => AOps.k Z Z Z Z (W0 ha31) Z (.nil ⟨Z, Z⟩)) Z (.consF Z (fun E => AOps.v Z Z (.nil ⟨Z, Z⟩)) Z (.consF Z (fun E => AOps.a Z Z (.nil ⟨Z, Z⟩)) Z (.consF Z (fun E => AOps.g Z Z Z hb12 (.a Z Z (.nil ⟨Z, Z⟩))) Z (.consF Z (fun E => AOps.g Z Z Z hb12 (.a Z Z (.nil ⟨Z, Z⟩))) Z (.consF Z (fun E => AOps.g Z Z Z hb12 (.a Z Z (.nil ⟨Z, Z⟩))) Z (.consF Z (fun E => AOps.g Z Z Z hb12 (S.idx ha37 Z Z Z Z (.nil ⟨Z, Z⟩))) Z (.consF Z (fun E => AOps.g Z Z Z hb12 (.p Z Z Z Z (.nil ⟨Z, Z⟩))) Z (.consF Z (fun E => AOps.g Z Z Z hb12 (.k Z Z Z Z (af7 ha39) Z (.nil ⟨Z, Z⟩))) Z (.consF Z (fun E => AOps.g Z Z Z hb12 (.j Z Z Z (.nil ⟨Z, Z⟩))) Z (.consF Z (fun E => AOps.o Z hb12 Z Z (.nil ⟨Z, Z⟩)) Z ?_)))))))))))))))
      refine g9.done ?_
      dsimp only [i9]
      obtain rfl := oi hx11
      refine b5 (Sub.env ⟨Z, Z, Z, Z, Z, Z, Z, Z, Z, Y⟩)
     ·replace hx11 := B9 hb12 hx11
      refine AWP.drawI mixed Z ?_
      refine g9.consF Z (fun E => W.loadAgg Z Z Z Z Z Z Z (.nil ⟨Z, Z⟩)) Z (.consF Z (fun E => AOps.a Z Z (.nil ⟨Z, Z⟩)) Z (.consF Z (fun E => AOps.a Z Z (.nil ⟨Z, Z⟩)) Z (.consF Z (fun E => S.idx ha29 Z Z Z Z (.nil ⟨Z, Z⟩)) Z (.consF Z (fun E => AOps.p Z Z Z Z (.nil ⟨Z, Z⟩)) Z (.consF Z (fun E => AOps.k Z Z Z Z (W0 ha31) Z (.nil ⟨Z, Z⟩)) Z (.consF Z (fun E => AOps.v Z Z (.nil ⟨Z, Z⟩)) Z (.consF Z (fun E => AOps.a Z Z (.nil ⟨Z, Z⟩)) Z (.consF Z (fun E => AOps.i Z Z Z hb12 (.nil ⟨Z, Z⟩)) Z (.consF Z (fun E => AOps.i Z Z Z hb12 (.nil ⟨Z, Z⟩)) Z (.consF Z (fun E => AOps.i Z Z Z hb12 (.nil ⟨Z, Z⟩)) Z (.consF Z (fun E => AOps.i Z Z Z hb12 (.nil ⟨Z, Z⟩)) Z (.consF Z (fun E => AOps.i Z Z Z hb12 (.nil ⟨Z, Z⟩)) Z (.consF Z (fun E => AOps.i Z Z Z hb12 (.nil ⟨Z, Z⟩)) Z (.consF Z (fun E => AOps.i Z Z Z hb12 (.nil ⟨Z, Z⟩)) Z (.consF Z (fun E => AOps.n Z hb12 Z Z (.nil ⟨Z, Z⟩)) Z ?_)))))))))))))))
      refine g9.done ?_
      dsimp only [i9]
      obtain rfl := oi hx11
      refine b5 (Sub.env ⟨Z, Z, Z, Z, Z, Z, Z, Z, Z, Y⟩)
    ·refine AWP.s Z hx9 (fun hc13 hx9 => ?_) (fun hc13 hx9 => ?_)
     ·refine AWP.f (.a Z Z (.e Z Z (.nil (d5 ?_))))
      obtain rfl := oi hx9
      refine b5 (Sub.env ⟨Z, Z, Z, Z, Z, Z, Z, Z, Y⟩)
     ·refine AWP.skip (d5 ?_)
      obtain rfl := oi hx9
      refine b5 (Sub.env ⟨Z, Z, Z, Z, Z, Z, Z, Z, Y⟩)
   ·refine AWP.f (.a Z Z (.add Z Z Z (by omega) (.e Z Z (.nil ?_))))
    obtain rfl := oi h
    refine b5 (Sub.env ⟨Z, Z, Z, Z, Z, Z, Z, Z, Y⟩)
  ·intro e s hq
   obtain ⟨rfl, hs⟩ := hq
   refine ⟨_, hs, ?_⟩
   refine f9 (b5 (.d (.d (.f (.a Z Z (.j Z Z Z (.nil (b5 (.ite Z h (fun hc14 h => ?_) (fun hc14 h => ?_))))))))))
   ·refine AWP.d (.f (.a Z Z (.e Z Z (.nil (b5 (.ret (d8 (g7 ?_))))))))
    obtain rfl := oi h
    refine d8 ⟨_, Z, Z, ?_⟩
    exact Done.ret Z Z
   ·refine AWP.skip (b5 (.d ?_))
    obtain ⟨a48, ha48, h⟩ := b7 h
    refine AWP.f (.a Z Z (.a Z Z (S.idx ha48 Z Z Z Z (.p Z Z Z Z (.e Z Z (.nil (b5 (.d ?_))))))))
    obtain ⟨a53, ha53, a54, ha54, h⟩ := b2 h
    refine AWP.f (.a Z Z (.a Z Z (.a Z Z (.k Z Z Z Z (x6 ha53) Z (S.idx ha54 Z Z Z Z (.p Z Z Z Z (.e Z Z (.nil (b5 ?_)))))))))
    obtain ⟨op15, hx16, h⟩ := b7 h
    refine AWP.seqJ (⟨[(1, .c (row 1 d4 all)), (2, .c (row 1 intI value)), (3, .c (int kind)), (4, .c (.ptr 0 0 0)), (9, .c (row 2 e9 c5)), (13, .c (row 1 intI a48)), (14, .c (int op15))], [.one (.cells 4 [(tO ov)])]⟩) ?_ ?_
    ·refine AWP.d (.f (.a Z Z (.u Z Z Z (.nil (b5 (.ite Z hx16 (fun hc17 hx16 => ?_) (fun hc17 hx16 => ?_)))))))
     ·obtain ⟨a62, ha62, hx16⟩ := b7 hx16
      refine AWP.f (W.loadAgg Z Z Z Z Z Z Z (.a Z Z (.a Z Z (.a Z Z (.k Z Z Z Z (ah3 ha62) Z (.e Z Z (.nil ?_)))))))
      obtain rfl := oi hx16
      refine b5 (Sub.env ⟨Z, Z, Z, Z, Z, Z, Z, Y⟩)
     ·refine AWP.skip ?_
      obtain rfl := oi hx16
      refine b5 (Sub.env ⟨Z, Z, Z, Z, Z, Z, Z, Y⟩)
    ·obtain ⟨op18, hx19, h⟩ := b7 h
     refine AWP.seqJ (⟨[(1, .c (row 1 d4 all)), (2, .c (row 1 intI value)), (3, .c (int kind)), (4, .c (.ptr 0 0 0)), (9, .c (row 2 e9 c5)), (13, .c (row 1 intI a48)), (14, .c (int op18))], [.one (.cells 4 [(tO ov)])]⟩) ?_ ?_
     ·refine AWP.d (.f (.a Z Z (.u Z Z Z (.nil (b5 (.ite Z hx19 (fun hc20 hx19 => ?_) (fun hc20 hx19 => ?_)))))))
      ·obtain ⟨a69, ha69, hx19⟩ := b7 hx19
       refine AWP.f (W.loadAgg Z Z Z Z Z Z Z (.a Z Z (.a Z Z (.a Z Z (.k Z Z Z Z (ah7 ha69) Z (.e Z Z (.nil ?_)))))))
       obtain rfl := oi hx19
       refine b5 (Sub.env ⟨Z, Z, Z, Z, Z, Z, Z, Y⟩)
      ·refine AWP.skip ?_
       obtain rfl := oi hx19
       refine b5 (Sub.env ⟨Z, Z, Z, Z, Z, Z, Z, Y⟩)
     ·refine AWP.d (.f (.e Z Z (.nil (b5 (.d (.f (.e Z Z (.nil (b5 (.d (.l (.virtV 2 e9 15 Z Z Z ?_))))))))))))
      obtain ⟨⟨c23, kv24⟩, ho3, h⟩ := b7 h
      try dsimp only at h
      refine AWP.loopS ho3 (fun (c21, kv22) => ⟨[(1, .c (row 1 d4 all)), (2, .c (row 1 intI value)), (3, .c (int kind)), (4, .c (.ptr 0 0 0)), (9, .c (row 2 e9 c5)), (13, .c (row 1 intI a48)), (14, .c (int op18)), (15, .c (.own 1 0 c21.length)), (16, .c (int kv22))], [.one (.cells 4 [(tO ov)]), .one (vec 2 e9 c21)]⟩) (fun (c23, kv24) e st => e = .exit 4 ∧ Sub [] st ⟨[(1, .c (row 1 d4 all)), (2, .c (row 1 intI value)), (3, .c (int kind)), (4, .c (.ptr 0 0 0)), (9, .c (row 2 e9 c5)), (13, .c (row 1 intI a48)), (14, .c (int op18)), (15, .c (.own 1 0 c23.length)), (16, .c (int kv24))], [.one (.cells 4 [(tO ov)]), .one (vec 2 e9 c23)]⟩) ?_ ?_ ?_
      ·try dsimp only
       exact Sub.env ⟨Z, Z, Z, Z, Z, Z, Z, (x8 (by first | rfl | simp only [List.length_set])), Z, Y⟩
      ·intro s o h
       obtain ⟨c21, kv22⟩ := s
       unfold T9 at h
       try dsimp only at h ⊢
       refine AWP.d ?_
       obtain ⟨t25, hx26, h⟩ := b7 h
       refine AWP.seqJ (⟨[(1, .c (row 1 d4 all)), (2, .c (row 1 intI value)), (3, .c (int kind)), (4, .c (.ptr 0 0 0)), (9, .c (row 2 e9 c5)), (13, .c (row 1 intI a48)), (14, .c (int op18)), (15, .c (.own 1 0 c21.length)), (16, .c (int kv22)), (82, .c (bool t25))], [.one (.cells 4 [(tO ov)]), .one (vec 2 e9 c21)]⟩) ?_ ?_
       ·rcases bft (decide (kv22 < (c5.length : Int))) with hb27 | hb27
        ·replace hx26 := B4 hb27 hx26
         obtain ⟨a77, ha77, a81, ha81, hx26⟩ := b2 hx26
         refine AWP.f (.a Z Z (.a Z Z (S.len Z Z (fun hl72 => .j Z Z Z (.a Z Z (.g Z Z Z hb27 (.a Z Z (.g Z Z Z hb27 (.a Z Z (.g Z Z Z hb27 (S.idx ha77 Z Z Z Z (.g Z Z Z hb27 (W.fieldAddrI Z Z Z Z (.g Z Z Z hb27 (.p Z Z Z Z (.g Z Z Z hb27 (.a Z Z (.g Z Z Z hb27 (.k Z Z Z Z (af9 ha81) Z (.o Z hb27 Z Z (.nil ?_)))))))))))))))))))))
         obtain rfl := oi hx26
         refine b5 (Sub.env ⟨Z, Z, Z, Z, Z, Z, Z, Z, Z, Z, Y⟩)
        ·replace hx26 := B5 hb27 hx26
         refine AWP.f (.a Z Z (.a Z Z (S.len Z Z (fun hl72 => .j Z Z Z (.a Z Z (.i Z Z Z hb27 (.i Z Z Z hb27 (.i Z Z Z hb27 (.i Z Z Z hb27 (.i Z Z Z hb27 (.i Z Z Z hb27 (.i Z Z Z hb27 (.n Z hb27 Z Z (.nil ?_))))))))))))))
         obtain rfl := oi hx26
         refine b5 (Sub.env ⟨Z, Z, Z, Z, Z, Z, Z, Z, Z, Z, Y⟩)
       ·refine AWP.s Z h (fun hc28 h => ?_) (fun hc28 h => ?_)
        ·refine AWP.skip (b5 (.l (.d ?_)))
         obtain ⟨a86, ha86, a89, ha89, h⟩ := b2 h
         refine AWP.f (.a Z Z (.a Z Z (.a Z Z (S.idx ha86 Z Z Z Z (W.loadIAgg Z Z Z Z Z (S.lit (f := e9) (l := [a86]) (ess := [[row 1 intI a86.state, int a86.operator]]) Z Z Z Z Z Z Z ⟨⟨.inl Z, .inl Z, Y⟩, Y⟩ Z Z Z (S.append (f := e9) ha89 Z Z Z Z Z Z (.own Z Z) Z Z Z Z (.e Z Z (.nil (b5 (.a (env' := [(1, .c (row 1 d4 all)), (2, .c (row 1 intI value)), (3, .c (int kind)), (4, .c (.ptr 0 0 0)), (9, .c (row 2 e9 c5)), (13, .c (row 1 intI a48)), (14, .c (int op18)), (15, .c (.own 1 0 a89.length)), (16, .c (int kv22))]) (σ' := [.one (.cells 4 [(tO ov)]), .one (vec 2 e9 a89), .one (vec 2 e9 [a86])]) 1 3 Z Z Z ⟨Z, Z, Z, Z, Z, Z, Z, Z, Z, Y⟩ Z ⟨⟨Z, Z⟩, ⟨Blk.im_ok _ _ _, k7 Z⟩, ⟨Blk.im_ok _ _ _, k7 Z⟩, Y⟩ (.f (.a Z Z (S.add Z Z Z (.e Z Z (.nil (d5 ?_)))))))))))))))))
         obtain rfl := oi h
         refine b5 ⟨_, Z, ?_⟩
         exact Sub.cut ⟨Z, Z, Z, Z, Z, Z, Z, Z, Z, Y⟩ Z ⟨.one Z, .vec, Y⟩ Z
        ·refine AWP.exit (d6 ?_)
         obtain rfl := oi h
         refine d6 ⟨_, Z, Z, ?_⟩
         exact Sub.env ⟨Z, Z, Z, Z, Z, Z, Z, Z, Z, Y⟩
      ·intro e s hq
       obtain ⟨rfl, hs⟩ := hq
       refine ⟨_, hs, ?_⟩
       refine f9 (b5 ?_)
       obtain ⟨a97, ha97, a100, ha100, a101, ha101, h⟩ := b3 h
       refine AWP.drawEI [4, 5, 9] mixed Z Z Z ?_
       refine g8.consN Z Z (fun E => AOps.a Z Z (.nil ⟨Z, Z⟩)) Z (.consN Z Z (fun E => AOps.a Z Z (.nil ⟨Z, Z⟩)) Z (.consN Z Z (fun E => AOps.a Z Z (.nil ⟨Z, Z⟩)) Z (.consN Z Z (fun E => W.build Z Z Z Z (.nil ⟨Z, Z⟩)) Z ?_)))
       apply g8.consE; exact Z; exact Z; intro E
       refine S.lit (f := e9) (l := [(⟨a48, op18⟩ : d7)]) (ess := [[row 1 intI a48, int op18]]) Z Z Z Z Z Z Z ⟨⟨.inl Z, .inl Z, Y⟩, Y⟩ Z Z Z (.nil ⟨Z, Z⟩)
       exact Z
       exact Z
       apply g8.consE; exact Z; exact Z; intro E
       refine S.append (f := e9) ha97 Z Z Z Z Z Z (.own Z Z) Z Z Z Z (.nil ⟨Z, Z⟩)
       exact Z
       exact Z
       refine g8.consN Z Z (fun E => AOps.a Z Z (.nil ⟨Z, Z⟩)) Z (.consN Z Z (fun E => AOps.a Z Z (.nil ⟨Z, Z⟩)) Z (.consN Z Z (fun E => S.subFrom ha100 Z Z Z (.nil ⟨Z, Z⟩)) Z ?_))
       apply g8.consE; exact Z; exact Z; intro E
       refine S.append (f := e9) ha101 Z Z Z Z Z Z .row Z Z Z Z (.nil ⟨Z, Z⟩)
       exact Z
       exact Z
       refine g8.consN Z Z (fun E => AOps.e Z Z (.nil ⟨Z, Z⟩)) Z ?_
       refine g8.done Z ?_ ?_
       ·refine e8.cons Z Z ?_ ?_
        refine b8.go Z Z (fun E => AOps.a Z Z (AOps.nil ⟨Z, Z⟩)) ?_
        refine b8.go Z Z (fun E => AOps.a Z Z (AOps.nil ⟨Z, Z⟩)) ?_
        refine b8.skip Z (b8.skip Z (b8.nil))
        refine e8.cons Z Z ?_ ?_
        refine b8.go Z Z (fun E => AOps.a Z Z (AOps.nil ⟨Z, Z⟩)) ?_
        refine b8.skip Z (b8.skip Z (b8.skip Z (b8.nil)))
        refine e8.cons Z Z ?_ ?_
        refine b8.go Z Z (fun E => AOps.a Z Z (AOps.nil ⟨Z, Z⟩)) ?_
        refine b8.skip Z (b8.skip Z (b8.skip Z (b8.nil)))
        refine e8.cons Z Z ?_ ?_
        refine b8.go Z Z (fun E => W.build Z Z Z Z (AOps.nil ⟨Z, Z⟩)) ?_
        refine b8.skip Z (b8.skip Z (b8.skip Z (b8.nil)))
        refine e8.skip Z (e8.skip Z ?_)
        refine e8.cons Z Z ?_ ?_
        refine b8.go Z Z (fun E => AOps.a Z Z (AOps.nil ⟨Z, Z⟩)) ?_
        refine b8.go Z Z (fun E => AOps.a Z Z (AOps.nil ⟨Z, Z⟩)) ?_
        refine b8.go Z Z (fun E => AOps.a Z Z (AOps.nil ⟨Z, Z⟩)) ?_
        refine b8.skip Z (b8.nil)
        refine e8.cons Z Z ?_ ?_
        refine b8.go Z Z (fun E => AOps.a Z Z (AOps.nil ⟨Z, Z⟩)) ?_
        refine b8.go Z Z (fun E => AOps.a Z Z (AOps.nil ⟨Z, Z⟩)) ?_
        refine b8.go Z Z (fun E => AOps.a Z Z (AOps.nil ⟨Z, Z⟩)) ?_
        refine b8.skip Z (b8.nil)
        refine e8.cons Z Z ?_ ?_
        refine b8.go Z Z (fun E => S.subFrom ha100 Z Z Z (AOps.nil ⟨Z, Z⟩)) ?_
        refine b8.go Z Z (fun E => S.subFrom ha100 Z Z Z (AOps.nil ⟨Z, Z⟩)) ?_
        refine b8.go Z Z (fun E => S.subFrom ha100 Z Z Z (AOps.nil ⟨Z, Z⟩)) ?_
        refine b8.skip Z (b8.nil)
        refine e8.skip Z ?_
        refine e8.cons Z Z ?_ ?_
        refine b8.skip Z (b8.skip Z (b8.skip Z ?_))
        refine b8.go Z Z (fun E => AOps.e Z Z (AOps.nil ⟨Z, Z⟩)) ?_
        exact b8.nil
        exact e8.nil
       dsimp only [i9]
       refine d5 ?_
       obtain rfl := oi h
       refine b5 ⟨_, Z, ?_⟩
       exact (Sub.move (env' := [(1, .c (row 1 d4 all)), (2, .c (row 1 intI value)), (3, .c (int kind)), (4, .c (.ptr 0 0 0)), (9, .c (.own 1 0 a101.length))]) (σ' := [.one (.cells 4 [(tO ov)]), .one (vec 2 e9 a101), .one (vec 2 e9 [(⟨a48, op18⟩ : d7)]), .dead]) 1 4 Z Z Z ⟨Z, Z, Z, Z, Z, Y⟩ Z ⟨⟨Z, Z⟩, ⟨Blk.im_ok _ _ _, k7 Z⟩, ⟨Blk.im_ok _ _ _, k7 Z⟩, trivial, Y⟩).trans (Sub.cut ⟨Z, Z, Z, Z, Z, Y⟩ Z ⟨.one Z, .vec, Y⟩ Z)
 ·intro e s hq
  obtain ⟨rfl, hs⟩ := hq
  refine ⟨_, Sub.refl _ _, ?_⟩
  refine g7 ?_
  obtain rfl := oi h
  exact hs
theorem ab0 {ov : b9} {r : Bool} (h : E8 ov = some r) : d9 Tryz.prog 3 [.agg (tO ov)] (.c (bool r)) := by
 unfold d9
 refine FnOk.enter (rs := [.t 2]) Tryz.func3 Z Tryz.ntmps3 Tryz.results3 Z ⟨trivial, Y⟩ (by kernel_rfl) Z ?_
 unfold E8 at h
 refine AWP.d (.f (W.box Z Z Z Z Z Z (.e Z Z (.nil (b5 (.d ?_))))))
 obtain ⟨a12, ha12, h⟩ := b7 h
 refine AWP.f (W.loadAgg Z Z Z Z Z Z Z (.k Z Z Z Z (ac1 ha12) Z (.a Z Z (.w Z Z Z (.w Z Z Z (.w Z Z Z (W.alloc Z Z Z Z (.e Z Z (.e Z Z (W.storeAgg Z Z Z Z Z Z Z (.nil (b5 (.d ?_)))))))))))))
 obtain ⟨a17, ha17, h⟩ := b7 h
 refine AWP.f (W.loadAgg Z Z Z Z Z Z Z (.k Z Z Z Z (ak3 ha17) Z (W.alloc Z Z Z Z (W.storeAgg Z Z Z Z Z Z Z (.nil (b5 (.d (.d (.f (W.fieldAddr Z Z Z Z (.m Z Z Z Z Z Z (.neq Z Z Z (.nil (b5 (.iteN Z h (fun hc2 h => ?_) (fun hc2 h => ?_))))))))))))))))
 ·obtain ⟨t3, hx4, h⟩ := b7 h
  refine AWP.seqJ (⟨[(2, .c (bool t3))], []⟩) ?_ ?_
  ·rcases bft ((decide (a12.2.2.code = a17.code)) && (decide (a12.2.2.index = a17.index))) with hb5 | hb5
   ·replace hx4 := B8 hb5 hx4
    rcases bft (!a12.2.1) with hb6 | hb6
    ·replace hx4 := B8 hb6 hx4
     rcases bft (decide ((a12.1.length : Int) = 0)) with hb7 | hb7
     ·replace hx4 := B4 hb7 hx4
      obtain ⟨a34, ha34, hx4⟩ := b7 hx4
      refine AWP.f (W.loadAgg Z Z Z Z Z Z Z (W.loadAgg Z Z Z Z Z Z Z (.eqlP Z Z Z Z Z Z Z (.a Z Z (.g Z Z Z hb5 (.a Z Z (.g Z Z Z hb5 (.v Z Z (.o Z hb5 Z Z (.a Z Z (.g Z Z Z hb6 (.a Z Z ?_))))))))))))
      refine AOps.g Z Z Z hb6 ?_; refine S.len Z Z (fun hl30 => ?_)
      refine AOps.g Z Z Z hb6 (.u Z Z Z (.o Z hb6 Z Z (.a Z Z (.g Z Z Z hb7 (.k Z Z Z Z (R7 ha34) Z (.o Z hb7 Z Z (.e Z Z (.nil ?_))))))))
      obtain rfl := oi hx4
      refine b5 (Sub.cut ⟨Z, Y⟩ Z trivial Z)
     ·replace hx4 := B5 hb7 hx4
      refine AWP.f (W.loadAgg Z Z Z Z Z Z Z (W.loadAgg Z Z Z Z Z Z Z (.eqlP Z Z Z Z Z Z Z (.a Z Z (.g Z Z Z hb5 (.a Z Z (.g Z Z Z hb5 (.v Z Z (.o Z hb5 Z Z (.a Z Z (.g Z Z Z hb6 (.a Z Z ?_))))))))))))
      refine AOps.g Z Z Z hb6 ?_; refine S.len Z Z (fun hl30 => ?_)
      refine AOps.g Z Z Z hb6 (.u Z Z Z (.o Z hb6 Z Z (.a Z Z (.i Z Z Z hb7 (.n Z hb7 Z Z (.e Z Z (.nil ?_)))))))
      obtain rfl := oi hx4
      refine b5 (Sub.cut ⟨Z, Y⟩ Z trivial Z)
    ·replace hx4 := B9 hb6 hx4
     refine AWP.f (W.loadAgg Z Z Z Z Z Z Z (W.loadAgg Z Z Z Z Z Z Z (.eqlP Z Z Z Z Z Z Z (.a Z Z (.g Z Z Z hb5 (.a Z Z (.g Z Z Z hb5 (.v Z Z (.o Z hb5 Z Z (.a Z Z (.i Z Z Z hb6 (.i Z Z Z hb6 (.i Z Z Z hb6 (.n Z hb6 Z Z (.a Z Z (.i Z Z Z Z (.n Z Z Z Z (.e Z Z (.nil ?_)))))))))))))))))))
     obtain rfl := oi hx4
     refine b5 (Sub.cut ⟨Z, Y⟩ Z trivial Z)
   ·replace hx4 := B9 hb5 hx4
    refine AWP.f (W.loadAgg Z Z Z Z Z Z Z (W.loadAgg Z Z Z Z Z Z Z (.eqlP Z Z Z Z Z Z Z (.a Z Z (.i Z Z Z hb5 (.i Z Z Z hb5 (.n Z hb5 Z Z (.a Z Z (.i Z Z Z Z (.i Z Z Z Z (.i Z Z Z Z (.n Z Z Z Z (.a Z Z (.i Z Z Z Z (.n Z Z Z Z (.e Z Z (.nil ?_)))))))))))))))))
    obtain rfl := oi hx4
    refine b5 (Sub.cut ⟨Z, Y⟩ Z trivial Z)
  ·refine AWP.ret (d8 ?_)
   obtain rfl := oi h
   exact Done.ret Z Z
 ·refine AWP.skip (b5 (.d ?_))
  obtain ⟨a38, ha38, h⟩ := b7 h
  refine AWP.f (W.loadAgg Z Z Z Z Z Z Z (.k Z Z Z Z (ref8_Reached_ok ha38) Z (.a Z Z (.w Z Z Z (.w Z Z Z (.e Z Z (.e Z Z (.nil (b5 (.d (.d (.f (.a Z Z (.v Z Z (.nil (b5 (.s Z h (fun hc8 h => ?_) (fun hc8 h => ?_))))))))))))))))))
  ·refine AWP.d ?_
   obtain ⟨a43, ha43, h⟩ := b7 h
   refine AWP.f (.k Z Z Z Z (R7 ha43) Z (.e Z Z (.nil (b5 (.ret (d8 ?_))))))
   obtain rfl := oi h
   exact Done.ret Z Z
  ·refine AWP.skip (b5 (.d ?_))
   obtain ⟨a46, ha46, h⟩ := b7 h
   refine AWP.f (W.loadAgg Z Z Z Z Z Z Z (.a Z Z (S.fresh Z Z Z Z (ref8_Ranks_ok ha46) Z Z (.e Z Z (.nil (b5 (.d (.d ?_))))))))
   obtain ⟨a51, ha51, a52, ha52, h⟩ := b2 h
   refine AWP.f (.a Z Z (.a Z Z (W.fieldAddr Z Z Z Z (.m Z Z Z Z Z Z (.k Z Z Z Z (x6 ha51) Z (S.idxO ha52 Z Z Z Z Z (S.loadO ha52 Z Z Z Z Z (.geq Z Z Z (.nil (b5 (.ite Z h (fun hc9 h => ?_) (fun hc9 h => ?_))))))))))))
   ·obtain ⟨t10, hx11, h⟩ := b7 h
    refine AWP.seqJ (⟨[(2, .c (bool t10))], []⟩) ?_ ?_
    ·rcases bft (decide (a12.2.2.code = 0)) with hb12 | hb12
     ·replace hx11 := B4 hb12 hx11
      rcases bft (!a12.2.1) with hb13 | hb13
      ·replace hx11 := B8 hb13 hx11
       rcases bft (decide ((a12.1.length : Int) = 0)) with hb14 | hb14
       ·replace hx11 := B4 hb14 hx11
        obtain ⟨a68, ha68, hx11⟩ := b7 hx11
        refine AWP.f (W.fieldAddr Z Z Z Z (.m Z Z Z Z Z Z (.u Z Z Z (.a Z Z (.g Z Z Z hb12 (.a Z Z (.g Z Z Z hb12 (.v Z Z (.o Z hb12 Z Z (.a Z Z (.g Z Z Z hb13 (.a Z Z ?_))))))))))))
        refine AOps.g Z Z Z hb13 ?_; refine S.len Z Z (fun hl64 => ?_)
        refine AOps.g Z Z Z hb13 (.u Z Z Z (.o Z hb13 Z Z (.a Z Z (.g Z Z Z hb14 (.k Z Z Z Z (R7 ha68) Z (.o Z hb14 Z Z (.e Z Z (.nil ?_))))))))
        obtain rfl := oi hx11
        refine b5 (Sub.cut ⟨Z, Y⟩ Z trivial Z)
       ·replace hx11 := B5 hb14 hx11
        refine AWP.f (W.fieldAddr Z Z Z Z (.m Z Z Z Z Z Z (.u Z Z Z (.a Z Z (.g Z Z Z hb12 (.a Z Z (.g Z Z Z hb12 (.v Z Z (.o Z hb12 Z Z (.a Z Z (.g Z Z Z hb13 (.a Z Z ?_))))))))))))
        refine AOps.g Z Z Z hb13 ?_; refine S.len Z Z (fun hl64 => ?_)
        refine AOps.g Z Z Z hb13 (.u Z Z Z (.o Z hb13 Z Z (.a Z Z (.i Z Z Z hb14 (.n Z hb14 Z Z (.e Z Z (.nil ?_)))))))
        obtain rfl := oi hx11
        refine b5 (Sub.cut ⟨Z, Y⟩ Z trivial Z)
      ·replace hx11 := B9 hb13 hx11
       refine AWP.f (W.fieldAddr Z Z Z Z (.m Z Z Z Z Z Z (.u Z Z Z (.a Z Z (.g Z Z Z hb12 (.a Z Z (.g Z Z Z hb12 (.v Z Z (.o Z hb12 Z Z (.a Z Z (.i Z Z Z hb13 (.i Z Z Z hb13 (.i Z Z Z hb13 (.n Z hb13 Z Z (.a Z Z (.i Z Z Z Z (.n Z Z Z Z (.e Z Z (.nil ?_)))))))))))))))))))
       obtain rfl := oi hx11
       refine b5 (Sub.cut ⟨Z, Y⟩ Z trivial Z)
     ·replace hx11 := B5 hb12 hx11
      refine AWP.f (W.fieldAddr Z Z Z Z (.m Z Z Z Z Z Z (.u Z Z Z (.a Z Z (.i Z Z Z hb12 (.i Z Z Z hb12 (.n Z hb12 Z Z (.a Z Z (.i Z Z Z Z (.i Z Z Z Z (.i Z Z Z Z (.n Z Z Z Z (.a Z Z (.i Z Z Z Z (.n Z Z Z Z (.e Z Z (.nil ?_)))))))))))))))))
      obtain rfl := oi hx11
      refine b5 (Sub.cut ⟨Z, Y⟩ Z trivial Z)
    ·refine AWP.ret (d8 ?_)
     obtain rfl := oi h
     exact Done.ret Z Z
   ·refine AWP.skip (b5 ?_)
    obtain ⟨t15, hx16, h⟩ := b7 h
    refine AWP.seqJ (⟨[(2, .c (bool t15))], []⟩) ?_ ?_
    ·rcases bft (decide (a12.2.2.code = 0)) with hb17 | hb17
     ·replace hx16 := B4 hb17 hx16
      rcases bft (a12.2.1) with hb18 | hb18
      ·replace hx16 := B8 hb18 hx16
       obtain ⟨a81, ha81, a82, ha82, hx16⟩ := b2 hx16
       rcases bft (a82) with hb19 | hb19
       ·replace hx16 := B8 hb19 hx16
        obtain ⟨a85, ha85, hx16⟩ := b7 hx16
        refine AWP.f (W.fieldAddr Z Z Z Z (.m Z Z Z Z Z Z (.u Z Z Z (.a Z Z (.g Z Z Z hb17 (.a Z Z (.o Z hb17 Z Z (.a Z Z (.g Z Z Z hb18 (.a Z Z (.g Z Z Z hb18 (W.loadAgg Z Z Z Z Z Z Z (.g Z Z Z hb18 (.a Z Z (.g Z Z Z hb18 (.a Z Z ?_))))))))))))))))
        refine AOps.g Z Z Z hb18 ?_; refine AOps.frzV (id := 3) (l := a46) (env2 := [(76, .c (bool a12.2.1)), (77, .c (row 2 e9 a12.1)), (78, .agg (tO ov)), (79, .c (row 1 d4 a38.1)), (80, .c (row 1 intI a46))]) (σ2 := [.one (.cells 4 [(tO ov)]), .one (.cells 2 [[int a12.2.2.code, int a12.2.2.index]]), .one (.cells 2 [[int a17.code, int a17.index]]), .dead]) Z Z (by exact ⟨⟨_, Z, .inl ⟨Z, Z⟩⟩, ⟨_, Z, .inl ⟨Z, Z⟩⟩, ⟨_, Z, ⟨.inl ⟨Z, Z⟩, .inl ⟨Z, Z⟩, .inl ⟨Z, Z⟩, .inl ⟨Z, Z⟩, Y⟩⟩, ⟨_, Z, .inl ⟨Z, Z⟩⟩, ⟨_, Z, .inr ⟨_, Z, Z, Z⟩⟩, Y⟩) Z (by exact ⟨⟨Z, .inl ⟨Z, Z⟩, .inl ⟨Z, Z⟩, .inl ⟨Z, Z⟩, .inl ⟨Z, Z⟩, Y⟩, ⟨Z, .inl ⟨Z, Z⟩, .inl ⟨Z, Z⟩, Y⟩, ⟨Z, .inl ⟨Z, Z⟩, .inl ⟨Z, Z⟩, Y⟩, trivial, Y⟩) ?_; refine AOps.k Z Z Z Z (ah9 ha81) Z ?_
        refine AOps.g Z Z Z hb18 (.k Z Z Z Z (W9 ha82) Z (.o Z hb18 Z Z (.a Z Z (.g Z Z Z hb19 (.k Z Z Z Z (R7 ha85) Z (.o Z hb19 Z Z (.e Z Z (.nil ?_))))))))
        obtain rfl := oi hx16
        refine b5 (Sub.cut ⟨Z, Y⟩ Z trivial Z)
       ·replace hx16 := B9 hb19 hx16
        refine AWP.f (W.fieldAddr Z Z Z Z (.m Z Z Z Z Z Z (.u Z Z Z (.a Z Z (.g Z Z Z hb17 (.a Z Z (.o Z hb17 Z Z (.a Z Z (.g Z Z Z hb18 (.a Z Z (.g Z Z Z hb18 (W.loadAgg Z Z Z Z Z Z Z (.g Z Z Z hb18 (.a Z Z (.g Z Z Z hb18 (.a Z Z ?_))))))))))))))))
        refine AOps.g Z Z Z hb18 ?_; refine AOps.frzV (id := 3) (l := a46) (env2 := [(76, .c (bool a12.2.1)), (77, .c (row 2 e9 a12.1)), (78, .agg (tO ov)), (79, .c (row 1 d4 a38.1)), (80, .c (row 1 intI a46))]) (σ2 := [.one (.cells 4 [(tO ov)]), .one (.cells 2 [[int a12.2.2.code, int a12.2.2.index]]), .one (.cells 2 [[int a17.code, int a17.index]]), .dead]) Z Z (by exact ⟨⟨_, Z, .inl ⟨Z, Z⟩⟩, ⟨_, Z, .inl ⟨Z, Z⟩⟩, ⟨_, Z, ⟨.inl ⟨Z, Z⟩, .inl ⟨Z, Z⟩, .inl ⟨Z, Z⟩, .inl ⟨Z, Z⟩, Y⟩⟩, ⟨_, Z, .inl ⟨Z, Z⟩⟩, ⟨_, Z, .inr ⟨_, Z, Z, Z⟩⟩, Y⟩) Z (by exact ⟨⟨Z, .inl ⟨Z, Z⟩, .inl ⟨Z, Z⟩, .inl ⟨Z, Z⟩, .inl ⟨Z, Z⟩, Y⟩, ⟨Z, .inl ⟨Z, Z⟩, .inl ⟨Z, Z⟩, Y⟩, ⟨Z, .inl ⟨Z, Z⟩, .inl ⟨Z, Z⟩, Y⟩, trivial, Y⟩) ?_; refine AOps.k Z Z Z Z (ah9 ha81) Z ?_
        refine AOps.g Z Z Z hb18 (.k Z Z Z Z (W9 ha82) Z (.o Z hb18 Z Z (.a Z Z (.i Z Z Z hb19 (.n Z hb19 Z Z (.e Z Z (.nil ?_)))))))
        obtain rfl := oi hx16
        refine b5 (Sub.cut ⟨Z, Y⟩ Z trivial Z)
      ·replace hx16 := B9 hb18 hx16
       refine AWP.f (W.fieldAddr Z Z Z Z (.m Z Z Z Z Z Z (.u Z Z Z (.a Z Z (.g Z Z Z hb17 (.a Z Z (.o Z hb17 Z Z (.a Z Z (.i Z Z Z hb18 (.i Z Z Z hb18 (.i Z Z Z hb18 (.i Z Z Z hb18 (.i Z Z Z hb18 (.i Z Z Z hb18 (.n Z hb18 Z Z (.a Z Z (.i Z Z Z Z (.n Z Z Z Z (.e Z Z (.nil ?_))))))))))))))))))))
       obtain rfl := oi hx16
       refine b5 (Sub.cut ⟨Z, Y⟩ Z trivial Z)
     ·replace hx16 := B5 hb17 hx16
      refine AWP.f (W.fieldAddr Z Z Z Z (.m Z Z Z Z Z Z (.u Z Z Z (.a Z Z (.i Z Z Z hb17 (.n Z hb17 Z Z (.a Z Z (.i Z Z Z Z (.i Z Z Z Z (.i Z Z Z Z (.i Z Z Z Z (.i Z Z Z Z (.i Z Z Z Z (.n Z Z Z Z (.a Z Z (.i Z Z Z Z (.n Z Z Z Z (.e Z Z (.nil ?_)))))))))))))))))))
      obtain rfl := oi hx16
      refine b5 (Sub.cut ⟨Z, Y⟩ Z trivial Z)
    ·refine AWP.ret ?_
     obtain rfl := oi h
     exact Done.ret Z Z
end Ab
end
section
namespace Ab
open Go Go.Proofs
set_option maxHeartbeats 4000000
set_option linter.all false
attribute [local irreducible] AWP AOps thn inB Done d9 m5 Sub
end Ab
end
section
namespace Ab
open Go
theorem Q1 {α : Type} {l : List α} {k : Nat} : ix l (k : Int) = l[k]? := by simp [ix]
theorem i5 {α : Type} {l : List α} {i : Int} (h0 : 0 ≤ i) (h1 : i < l.length) : ∃ a, ix l i = some a ∧ l[i.toNat]? = some a := by
 have h : i.toNat < l.length := by omega
 exact ⟨l[i.toNat], by simp [ix, h0, h], by simp [h]⟩
theorem j7 {α : Type} {l : List α} {i : Int} {a : α} (h : ix l i = some a) : 0 ≤ i ∧ i < l.length ∧ l[i.toNat]? = some a := by
 unfold ix at h
 split at h
 ·have := (List.getElem?_eq_some_iff.1 h).1
  exact ⟨by assumption, by omega, h⟩
 ·cases h
theorem s7 {n : Int} (h1 : -9223372036854775808 ≤ n) (h2 : n ≤ 9223372036854775807) : w64 n = n := w64_eq ⟨h1, h2⟩
theorem forN_inv {S : Type} {body : Int → S → Option S} (P : Int → S → Prop) : ∀ (k : Nat) (i : Int) (s : S), P i s →
  (∀ j s, i ≤ j → j < i + k → P j s → ∃ s', body j s = some s' ∧ P (j + 1) s') → ∃ s', forN body k i s = some s' ∧ P (i + k) s'
 | 0, i, s, h, _ => ⟨s, rfl, by simpa using h⟩
 | k + 1, i, s, h, hb => by
  obtain ⟨s1, h1, h2⟩ := hb i s (Int.le_refl _) (by omega) h
  obtain ⟨s2, h3, h4⟩ := forN_inv P k (i + 1) s1 h2 (fun j s g1 g2 => hb j s (by omega) (by omega))
  exact ⟨s2, by simp only [forN, h1]; exact h3, by rw [show i + ((k + 1 : Nat) : Int) = i + 1 + k by omega]; exact h4⟩
theorem o9 {S : Type} {body : Int → S → Option S} {n : Int} (P : Int → S → Prop) {s : S} (hn : 0 ≤ n) (h0 : P 0 s)
  (hb : ∀ j s, 0 ≤ j → j < n → P j s → ∃ s', body j s = some s' ∧ P (j + 1) s') : ∃ s', forR 0 n body s = some s' ∧ P n s' := by
 obtain ⟨s', h1, h2⟩ := forN_inv P (n - 0).toNat 0 s h0 (fun j s g1 g2 => hb j s g1 (by omega))
 exact ⟨s', h1, by rwa [show (0 : Int) + ((n - 0).toNat : Int) = n by omega] at h2⟩
theorem rngN_inv {S O : Type} {body : Int → S → Option (S ⊕ O)} (P : Int → S → Prop) (Q : O → Prop) : ∀ (k : Nat) (i : Int) (s : S), P i s →
  (∀ j s, i ≤ j → j < i + k → P j s → (∃ s', body j s = some (.inl s') ∧ P (j + 1) s') ∨ ∃ o, body j s = some (.inr o) ∧ Q o) →
  (∃ s', rngN body k i s = some (.inl s') ∧ P (i + k) s') ∨ ∃ o, rngN body k i s = some (.inr o) ∧ Q o
 | 0, i, s, h, _ => .inl ⟨s, rfl, by simpa using h⟩
 | k + 1, i, s, h, hb => by
  rcases hb i s (Int.le_refl _) (by omega) h with ⟨s1, h1, h2⟩ | ⟨o, h1, h2⟩
  ·rcases rngN_inv P Q k (i + 1) s1 h2 (fun j s g1 g2 => hb j s (by omega) (by omega)) with ⟨s2, h3, h4⟩ | ⟨o, h3, h4⟩
   ·exact .inl ⟨s2, by simp only [rngN, h1]; exact h3, by rw [show i + ((k + 1 : Nat) : Int) = i + 1 + k by omega]; exact h4⟩
   ·exact .inr ⟨o, by simp only [rngN, h1]; exact h3, h4⟩
  ·exact .inr ⟨o, by simp only [rngN, h1], h2⟩
theorem U7 {S O : Type} {body : Int → S → Option (S ⊕ O)} {n : Int} (P : Int → S → Prop) (Q : O → Prop) {s : S} (hn : 0 ≤ n) (h0 : P 0 s)
  (hb : ∀ j s, 0 ≤ j → j < n → P j s → (∃ s', body j s = some (.inl s') ∧ P (j + 1) s') ∨ ∃ o, body j s = some (.inr o) ∧ Q o) :
  (∃ s', rngX 0 n body s = some (.inl s') ∧ P n s') ∨ ∃ o, rngX 0 n body s = some (.inr o) ∧ Q o := by
 rcases rngN_inv P Q (n - 0).toNat 0 s h0 (fun j s g1 g2 => hb j s g1 (by omega)) with ⟨s', h1, h2⟩ | h
 ·exact .inl ⟨s', h1, by rwa [show (0 : Int) + ((n - 0).toNat : Int) = n by omega] at h2⟩
 ·exact .inr h
theorem rngX_all {O : Type} {body : Int → Unit → Option (Unit ⊕ O)} {n : Int} (hn : 0 ≤ n) (hb : ∀ j, 0 ≤ j → j < n → body j () = some (.inl ())) : rngX 0 n body () = some (.inl ()) := by
 rcases U7 (body := body) (fun _ _ => True) (fun _ => False) (s := ()) hn trivial (fun j s g1 g2 _ => .inl ⟨(), hb j g1 g2, trivial⟩) with ⟨s', h, _⟩ | ⟨o, _, h⟩
 ·exact h
 ·exact h.elim
theorem LoopN_inv {S O : Type} {body : S → Option (S ⊕ O)} (P : S → Prop) (Q : O → Prop) (μ : S → Nat) (hb : ∀ s, P s → (∃ s', body s = some (.inl s') ∧ P s' ∧ μ s' < μ s) ∨ ∃ o, body s = some (.inr o) ∧ Q o) :
  ∀ (k : Nat) (s : S), μ s < k → P s → ∃ o, C8 body k s = some o ∧ Q o
 | 0, s, h, _ => by omega
 | k + 1, s, h, hs => by
  rcases hb s hs with ⟨s', h1, h2, h3⟩ | ⟨o, h1, h2⟩
  ·obtain ⟨o, g1, g2⟩ := LoopN_inv P Q μ hb k s' (by omega) h2
   exact ⟨o, by simp only [C8, h1]; exact g1, g2⟩
  ·exact ⟨o, by simp only [C8, h1], h2⟩
theorem C4 {S O : Type} {body : S → Option (S ⊕ O)} (P : S → Prop) (Q : O → Prop) (μ : S → Nat) {s : S} (hs : P s)
  (hb : ∀ s, P s → (∃ s', body s = some (.inl s') ∧ P s' ∧ μ s' < μ s) ∨ ∃ o, body s = some (.inr o) ∧ Q o) : ∃ o, Loop body s = some o ∧ Q o := by
 obtain ⟨o, h1, h2⟩ := LoopN_inv P Q μ hb (μ s + 1) s (by omega) hs
 exact ⟨o, N3.2 ⟨_, h1⟩, h2⟩
/-! ### Two loops that do the same -/
theorem rngN_eq {S O : Type} {b1 b2 : Int → S → Option (S ⊕ O)} (P : Int → S → Prop) : ∀ (k : Nat) (i : Int) (s : S), P i s →
  (∀ j s, i ≤ j → j < i + k → P j s → b1 j s = b2 j s ∧ b1 j s ≠ none ∧ ∀ s', b1 j s = some (.inl s') → P (j + 1) s') →
  rngN b1 k i s = rngN b2 k i s ∧ rngN b1 k i s ≠ none ∧ ∀ s', rngN b1 k i s = some (.inl s') → P (i + k) s'
 | 0, i, s, h, _ => ⟨rfl, by simp [rngN], fun s' hs => by simp only [rngN, Option.some.injEq, Sum.inl.injEq] at hs; subst hs; simpa using h⟩
 | k + 1, i, s, h, hb => by
  obtain ⟨h1, h2, h3⟩ := hb i s (Int.le_refl _) (by omega) h
  simp only [rngN]
  rw [← h1]
  cases hc : b1 i s with
  | none => exact absurd hc h2
  | some x =>
   cases x with
   | inr o => exact ⟨rfl, by simp, fun s' hs => by simp at hs⟩
   | inl s1 =>
    dsimp only
    have := rngN_eq (b1 := b1) (b2 := b2) P k (i + 1) s1 (h3 s1 hc) (fun j s g1 g2 => hb j s (by omega) (by omega))
    rwa [show i + 1 + (k : Int) = i + ((k + 1 : Nat) : Int) by omega] at this
theorem rngX_eq {S O : Type} {b1 b2 : Int → S → Option (S ⊕ O)} {n : Int} (P : Int → S → Prop) {s : S} (hn : 0 ≤ n) (h0 : P 0 s)
  (hb : ∀ j s, 0 ≤ j → j < n → P j s → b1 j s = b2 j s ∧ b1 j s ≠ none ∧ ∀ s', b1 j s = some (.inl s') → P (j + 1) s') :
  rngX 0 n b1 s = rngX 0 n b2 s ∧ rngX 0 n b1 s ≠ none ∧ ∀ s', rngX 0 n b1 s = some (.inl s') → P n s' := by
 have := rngN_eq P (n - 0).toNat 0 s h0 (fun j s g1 g2 => hb j s g1 (by omega))
 rwa [show (0 : Int) + ((n - 0).toNat : Int) = n by omega] at this
end Ab
end
section
namespace Ab
open Go
noncomputable def dec (p : Prop) : Bool := @decide p (Classical.propDecidable p)
@[simp] theorem l7 {p : Prop} : dec p = true ↔ p := by simp [dec]
@[simp] theorem dec_false {p : Prop} : dec p = false ↔ ¬ p := by simp [dec]
@[simp] theorem u3 {p : Prop} : (!dec p) = dec (¬ p) := by by_cases h : p <;> simp [dec, h]
theorem N1 {p : Prop} [Decidable p] : decide p = dec p := by by_cases h : p <;> simp [dec, h]
theorem m7 {p : Prop} (h : p) : dec p = true := l7.2 h
theorem w7 {p : Prop} (h : ¬ p) : dec p = false := dec_false.2 h
theorem B2 {p q : Prop} (h : p ↔ q) : dec p = dec q := by rw [propext h]
theorem dec_and {p q : Prop} : (dec p && dec q) = dec (p ∧ q) := by by_cases h : p <;> by_cases g : q <;> simp [dec, h, g]
theorem ifP {α : Type} {p : Prop} {a b : α} (h : p) : (if dec p = true then a else b) = a := if_pos (m7 h)
theorem ifN {α : Type} {p : Prop} {a b : α} (h : ¬ p) : (if dec p = true then a else b) = b := if_neg fun g => h (l7.1 g)
theorem ifNN {α : Type} {p : Prop} {a b : α} (h : p) : (if dec (¬ p) = true then a else b) = b := ifN (not_not_intro h)
theorem i8 {α : Type} {l : List α} {i : Int} {a : α} (h : ix l i = some a) : a ∈ l := List.mem_of_getElem? (j7 h).2.2
theorem k9 {α : Type} {l : List α} {a : α} (h : a ∈ l) : ∃ i : Int, 0 ≤ i ∧ i < l.length ∧ ix l i = some a := by
 obtain ⟨k, hk⟩ := List.getElem?_of_mem h
 exact ⟨k, by omega, by have := (List.getElem?_eq_some_iff.1 hk).1; omega, by rw [Q1, hk]⟩
theorem ix_put {α : Type} {l : List α} {i j : Int} {x : α} (h0 : 0 ≤ i) (h1 : i < l.length) (hj : 0 ≤ j) : ix (l.set i.toNat x) j = if j = i then some x else ix l j := by
 simp only [ix, hj, if_true, List.getElem?_set]
 by_cases h : j = i
 ·subst h; rw [if_pos rfl, if_pos rfl, if_pos (by omega)]
 ·rw [if_neg h, if_neg (by omega)]
theorem y8 {O : Type} {body : Int → Unit → Option (Unit ⊕ O)} {n : Int} (g : Int → Option O) (hn : 0 ≤ n)
  (hb : ∀ j, 0 ≤ j → j < n → (∀ i, 0 ≤ i → i < j → g i = none) → body j () = some (match g j with | none => .inl () | some o => .inr o)) :
  (rngX 0 n body () = some (.inl ()) ∧ ∀ j, 0 ≤ j → j < n → g j = none) ∨ ∃ j o, 0 ≤ j ∧ j < n ∧ g j = some o ∧ (∀ i, 0 ≤ i → i < j → g i = none) ∧ rngX 0 n body () = some (.inr o) := by
 rcases U7 (body := body) (n := n) (fun j _ => ∀ i, 0 ≤ i → i < j → g i = none) (fun o => ∃ j, 0 ≤ j ∧ j < n ∧ g j = some o ∧ ∀ i, 0 ≤ i → i < j → g i = none) (s := ()) hn (fun i h1 h2 => by omega) (fun j s h0 h1 hP => by
  have := hb j h0 h1 hP
  cases hg : g j with
  | none => rw [hg] at this; exact .inl ⟨(), this, fun i h2 h3 => by
    rcases Int.lt_or_eq_of_le (Int.le_of_lt_add_one h3) with h | h
    ·exact hP i h2 h
    ·rw [h, hg]⟩
  | some o => rw [hg] at this; exact .inr ⟨o, this, j, h0, h1, hg, hP⟩) with ⟨s', h1, h2⟩ | ⟨o, h1, j, h2, h3, h4, h5⟩
 ·exact .inl ⟨h1, h2⟩
 ·exact .inr ⟨j, o, h2, h3, h4, h5, h1⟩
theorem rng_list {α O : Type} {l : List α} {body : Int → Unit → Option (Unit ⊕ O)} (q : α → Prop) (b : O)
  (hb : ∀ j a, ix l j = some a → (q a ∧ body j () = some (.inl ())) ∨ (¬ q a ∧ body j () = some (.inr b))) :
  rngX 0 (l.length : Int) body () = some (if dec (∀ a ∈ l, q a) = true then .inl () else .inr b) := by
 rcases y8 (body := body) (n := (l.length : Int)) (fun j => match ix l j with | some a => if dec (q a) = true then none else some b | none => none) (by omega) (fun j h0 h1 _ => by
  obtain ⟨a, h2, _⟩ := i5 h0 h1
  rw [h2]
  rcases hb j a h2 with ⟨h3, h4⟩ | ⟨h3, h4⟩
  ·rw [h4]; simp [h3]
  ·rw [h4]; simp [h3]) with ⟨h1, h2⟩ | ⟨j, o, h0, h1, h2, _, h4⟩
 ·rw [h1, if_pos]
  rw [l7]
  intro a ha
  obtain ⟨i, g1, g2, g3⟩ := k9 ha
  have := h2 i g1 g2
  rw [g3] at this
  simpa using this
 ·rw [h4]
  obtain ⟨a, g1, _⟩ := i5 h0 h1
  rw [g1] at h2
  simp only [l7] at h2
  split at h2
  ·cases h2
  ·rename_i hq
   cases h2
   rw [if_neg]
   rw [l7]
   exact fun h => hq (m7 (h a (i8 g1)))
abbrev Inc (l : List Int) : Prop := l.Pairwise (· < ·)
theorem inc_of_adj : ∀ {l : List Int}, (∀ (k : Nat) a b, l[k]? = some a → l[k + 1]? = some b → a < b) → Inc l
 | [], _ => .nil
 | [_], _ => by simp
 | a :: b :: l, h => by
  have ih : Inc (b :: l) := inc_of_adj fun k x y h1 h2 => h (k + 1) x y (by simpa using h1) (by simpa using h2)
  have hab : a < b := h 0 a b rfl rfl
  refine List.pairwise_cons.2 ⟨fun c hc => ?_, ih⟩
  rcases List.mem_cons.1 hc with rfl | hc
  ·exact hab
  ·exact Int.lt_trans hab ((List.pairwise_cons.1 ih).1 c hc)
theorem Inc.get {l : List Int} (h : Inc l) {i j : Nat} {a b : Int} (hi : l[i]? = some a) (hj : l[j]? = some b) (hij : i < j) : a < b := by
 obtain ⟨h1, rfl⟩ := List.getElem?_eq_some_iff.1 hi
 obtain ⟨h2, rfl⟩ := List.getElem?_eq_some_iff.1 hj
 exact List.pairwise_iff_getElem.1 h i j h1 h2 hij
theorem Inc.ext : ∀ {l m : List Int}, Inc l → Inc m → (∀ x, x ∈ l ↔ x ∈ m) → l = m
 | [], [], _, _, _ => rfl
 | [], b :: m, _, _, h => absurd ((h b).2 (by simp)) (by simp)
 | a :: l, [], _, _, h => absurd ((h a).1 (by simp)) (by simp)
 | a :: l, b :: m, hl, hm, h => by
  obtain ⟨l1, l2⟩ := List.pairwise_cons.1 hl
  obtain ⟨m1, m2⟩ := List.pairwise_cons.1 hm
  have hab : a = b := by
   rcases List.mem_cons.1 ((h a).1 (by simp)) with e | e
   ·exact e
   ·rcases List.mem_cons.1 ((h b).2 (by simp)) with e' | e'
    ·exact e'.symm
    ·have := l1 b e'; have := m1 a e; omega
  subst hab
  rw [Inc.ext l2 m2 fun x => ⟨fun hx => ?_, fun hx => ?_⟩]
  ·rcases List.mem_cons.1 ((h x).1 (by simp [hx])) with e | e
   ·have := l1 x hx; omega
   ·exact e
  ·rcases List.mem_cons.1 ((h x).2 (by simp [hx])) with e | e
   ·have := m1 x hx; omega
   ·exact e
theorem Inc.filter {l : List Int} (h : Inc l) (p : Int → Bool) : Inc (l.filter p) := List.Pairwise.filter p h
def nums (lo : Int) : Nat → List Int
 | 0 => []
 | k + 1 => lo :: nums (lo + 1) k
theorem ag7 {x : Int} : ∀ {k : Nat} {lo : Int}, x ∈ nums lo k ↔ lo ≤ x ∧ x < lo + k
 | 0, lo => by simp [nums]
 | k + 1, lo => by
  rw [nums, List.mem_cons, ag7 (k := k)]
  omega
theorem inc_nums : ∀ (k : Nat) (lo : Int), Inc (nums lo k)
 | 0, _ => .nil
 | k + 1, lo => List.pairwise_cons.2 ⟨fun x hx => by have := ag7.1 hx; omega, inc_nums k (lo + 1)⟩
theorem len_nums : ∀ (k : Nat) (lo : Int), (nums lo k).length = k
 | 0, _ => rfl
 | k + 1, lo => by simp [nums, len_nums k]
noncomputable def L4 (p : Int → Prop) (n : Int) : List Int := (nums 0 n.toNat).filter fun x => dec (p x)
theorem V3 {p : Int → Prop} {n x : Int} : x ∈ L4 p n ↔ 0 ≤ x ∧ x < n ∧ p x := by
 rw [L4, List.mem_filter, ag7, l7]
 constructor
 ·rintro ⟨⟨h1, h2⟩, h3⟩; exact ⟨h1, by omega, h3⟩
 ·rintro ⟨h1, h2, h3⟩; exact ⟨⟨h1, by omega⟩, h3⟩
theorem ad9 (p : Int → Prop) (n : Int) : Inc (L4 p n) := (inc_nums _ _).filter _
theorem setOf_congr {p q : Int → Prop} {n : Int} (h : ∀ x, 0 ≤ x → x < n → (p x ↔ q x)) : L4 p n = L4 q n := by
 refine List.filter_congr fun x hx => B2 ?_
 have := ag7.1 hx
 exact h x (by omega) (by omega)
def SetN (l : List Int) (n : Int) : Prop := Inc l ∧ ∀ x ∈ l, 0 ≤ x ∧ x < n
theorem setN_setOf (p : Int → Prop) (n : Int) : SetN (L4 p n) n := ⟨ad9 p n, fun x hx => by have := V3.1 hx; exact ⟨this.1, this.2.1⟩⟩
theorem SetN.eq {l : List Int} {n : Int} (h : SetN l n) : l = L4 (· ∈ l) n :=
 h.1.ext (ad9 _ _) fun x => ⟨fun hx => V3.2 ⟨(h.2 x hx).1, (h.2 x hx).2, hx⟩, fun hx => (V3.1 hx).2.2⟩
theorem SetN.eq_of {l : List Int} {n : Int} (h : SetN l n) {p : Int → Prop} (hp : ∀ x, 0 ≤ x → x < n → (x ∈ l ↔ p x)) : l = L4 p n :=
 h.eq.trans (setOf_congr hp)
theorem SetN.len {l : List Int} {n : Int} (h : SetN l n) : l.length ≤ n.toNat := by
 rw [h.eq, L4]
 exact Nat.le_trans (List.length_filter_le _ _) (Nat.le_of_eq (len_nums _ _))
theorem M7 (n : Int) : SetN [] n := ⟨.nil, by simp⟩
theorem forR_filter {α : Type} {l : List α} {b : Nat} {body : Int → List α → Option (List α)} (q : α → Prop)
  (hb : ∀ j a c, ix l j = some a → (q a → body j c = app b c [a]) ∧ (¬ q a → body j c = some c)) (c0 : List α) (hl : (c0.length + l.length) * b ≤ 140737488355328) :
  forR 0 (l.length : Int) body c0 = some (c0 ++ l.filter fun a => dec (q a)) := by
 obtain ⟨s', h1, h2⟩ := o9 (body := body) (n := (l.length : Int)) (s := c0) (fun j c => c = c0 ++ (l.take j.toNat).filter fun a => dec (q a)) (by omega) (by simp) (fun j c h0 h1 hP => by
  obtain ⟨a, g1, g2⟩ := i5 h0 h1
  have e : (j + 1).toNat = j.toNat + 1 := by omega
  have ht : l.take (j + 1).toNat = l.take j.toNat ++ [a] := by rw [e, List.take_add_one, g2]; rfl
  by_cases hq : q a
  ·have happ : app b c [a] = some (c ++ [a]) := by
    rw [app, if_pos]
    have h3 : ((l.take j.toNat).filter fun a => dec (q a)).length ≤ (l.take j.toNat).length := List.length_filter_le _ _
    rw [List.length_take] at h3
    have h5 : c.length + 1 ≤ c0.length + l.length := by rw [hP, List.length_append]; omega
    refine Nat.le_trans (Nat.mul_le_mul_right b ?_) hl
    simpa using h5
   refine ⟨c ++ [a], by rw [(hb j a c g1).1 hq, happ], ?_⟩
   rw [ht, List.filter_append, hP]
   simp [hq]
  ·refine ⟨c, (hb j a c g1).2 hq, ?_⟩
   rw [ht, List.filter_append, hP]
   simp [hq])
 rw [h1, h2]
 simp
theorem forR_setOf {b : Nat} {n : Int} {body : Int → List Int → Option (List Int)} (q : Int → Prop) (hn : 0 ≤ n) (hl : n.toNat * b ≤ 140737488355328)
  (hb : ∀ j c, 0 ≤ j → j < n → (q j → body j c = app b c [j]) ∧ (¬ q j → body j c = some c)) : forR 0 n body [] = some (L4 q n) := by
 obtain ⟨s', h1, h2⟩ := o9 (body := body) (n := n) (s := []) (fun j c => c = L4 q j) hn (by simp [L4, nums]) (fun j c h0 h1 hP => by
  have hs : L4 q (j + 1) = L4 q j ++ if dec (q j) = true then [j] else [] := by
   refine (ad9 q (j + 1)).ext ?_ fun x => ?_
   ·refine List.pairwise_append.2 ⟨ad9 _ _, by split <;> simp, fun a ha b hb => ?_⟩
    have := V3.1 ha
    split at hb
    ·simp at hb; omega
    ·cases hb
   ·rw [List.mem_append, V3, V3]
    by_cases hq : q j
    ·rw [if_pos (m7 hq)]
     simp only [List.mem_singleton]
     refine ⟨fun h => ?_, fun h => ?_⟩
     ·by_cases e : x = j
      ·exact .inr e
      ·exact .inl ⟨h.1, by omega, h.2.2⟩
     ·rcases h with h | rfl
      ·exact ⟨h.1, by omega, h.2.2⟩
      ·exact ⟨h0, by omega, hq⟩
    ·rw [if_neg (by simpa using hq)]
     simp only [List.not_mem_nil, or_false]
     refine ⟨fun h => ⟨h.1, ?_, h.2.2⟩, fun h => ⟨h.1, by omega, h.2.2⟩⟩
     rcases Int.lt_or_eq_of_le (Int.le_of_lt_add_one h.2.1) with e | e
     ·exact e
     ·rw [e] at h; exact absurd h.2.2 hq
  by_cases hq : q j
  ·refine ⟨c ++ [j], ?_, by rw [hs, hP, if_pos (m7 hq)]⟩
   rw [(hb j c h0 h1).1 hq, app, if_pos]
   have h3 : c.length ≤ j.toNat := by rw [hP]; exact (setN_setOf q j).len
   refine Nat.le_trans (Nat.mul_le_mul_right b ?_) hl
   simp; omega
  ·refine ⟨c, (hb j c h0 h1).2 hq, ?_⟩
   rw [hs, hP, if_neg (by simpa using hq), List.append_nil])
 rw [h1, h2]
end Ab
end
section
namespace Ab
open Go
theorem has_eq (l : List Int) (n : Int) : H9 l n = some (dec (n ∈ l)) := by
 unfold H9
 rw [rng_list (l := l) (fun a => a ≠ n) true (fun j a h => by
  unfold af0
  rw [h]
  by_cases e : a = n <;> simp [e])]
 by_cases h : n ∈ l
 ·rw [if_neg (by simp only [l7]; exact fun g => g n h rfl)]
  simp [h]
 ·rw [if_pos (by simp only [l7]; exact fun a ha e => h (e ▸ ha))]
  simp [h]
theorem subset_eq (part l : List Int) : N8 part l = some (dec (∀ x ∈ part, x ∈ l)) := by
 unfold N8
 rw [rng_list (l := part) (fun a => a ∈ l) false (fun j a h => by
  unfold Y2
  rw [h]
  by_cases e : a ∈ l <;> simp [e, has_eq])]
 by_cases h : ∀ x ∈ part, x ∈ l
 ·rw [if_pos (m7 h), m7 h]; rfl
 ·rw [if_neg (by rw [w7 h]; simp), w7 h]; rfl
theorem disjoint_eq (a b : List Int) : N4 a b = some (dec (∀ x ∈ a, x ∉ b)) := by
 unfold N4
 rw [rng_list (l := a) (fun x => x ∉ b) false (fun j x h => by
  unfold U9
  rw [h]
  by_cases e : x ∈ b <;> simp [e, has_eq])]
 by_cases h : ∀ x ∈ a, x ∉ b
 ·rw [if_pos (m7 h), m7 h]; rfl
 ·rw [if_neg (by rw [w7 h]; simp), w7 h]; rfl
theorem in_eq (n lo hi : Int) : O4 n lo hi = some (dec (lo ≤ n ∧ n ≤ hi)) := by
 unfold O4; rw [N1, N1, dec_and]
theorem at_eq (c i : Int) : J0 c i = some ⟨c, i⟩ := rfl
def stepOk (l : List Int) (n j : Int) : Prop := ∀ a, ix l j = some a → (0 ≤ a ∧ a < n) ∧ ∀ b, 0 < j → ix l (j - 1) = some b → b < a
theorem ab5 {l : List Int} {n : Int} : (∀ j : Int, 0 ≤ j → j < l.length → stepOk l n j) ↔ SetN l n := by
 constructor
 ·intro h
  refine ⟨inc_of_adj fun k a b h1 h2 => ?_, fun x hx => ?_⟩
  ·have hk := (List.getElem?_eq_some_iff.1 h2).1
   have := (h ((k + 1 : Nat) : Int) (by omega) (by omega) b (by rw [Q1]; exact h2)).2 a (by omega)
   rw [show ((k + 1 : Nat) : Int) - 1 = (k : Nat) by omega] at this
   exact this (by rw [Q1]; exact h1)
  ·obtain ⟨i, h1, h2, h3⟩ := k9 hx
   exact (h i h1 h2 x h3).1
 ·intro h j h0 h1 a ha
  refine ⟨h.2 a (i8 ha), fun b hj hb => ?_⟩
  obtain ⟨_, _, ga⟩ := j7 ha
  obtain ⟨_, _, gb⟩ := j7 hb
  exact h.1.get gb ga (by omega)
theorem ag6 (l : List Int) (n : Int) : A0 l n = some (dec (SetN l n)) := by
 unfold A0
 rcases y8 (body := P4 l n) (n := (l.length : Int)) (fun j => if dec (stepOk l n j) = true then none else some false) (by omega) (fun j h0 h1 _ => by
  obtain ⟨a, ha, _⟩ := i5 (l := l) h0 h1
  unfold P4
  rw [ha]
  simp only [ob]
  by_cases c1 : a < 0
  ·rw [if_pos c1, if_neg]
   ·rfl
   ·rw [l7]; intro h; have := (h a ha).1; omega
  ·rw [if_neg c1]
   by_cases c2 : n ≤ a
   ·rw [if_pos c2, if_neg]
    ·rfl
    ·rw [l7]; intro h; have := (h a ha).1; omega
   ·rw [if_neg c2]
    by_cases c3 : 0 < j
    ·obtain ⟨b, hb, _⟩ := i5 (l := l) (i := j - 1) (by omega) (by omega)
     rw [if_pos c3, hb]
     simp only [ob]
     by_cases c4 : a ≤ b
     ·rw [if_pos (by simpa using c4), if_neg]
      rw [l7]; intro h; have := (h a ha).2 b c3 hb; omega
     ·rw [if_neg (by simpa using c4), if_pos]
      rw [l7]; intro x hx
      rw [ha] at hx; cases hx
      exact ⟨by omega, fun y _ hy => by rw [hb] at hy; cases hy; omega⟩
    ·rw [if_neg c3]
     simp only [ob]
     rw [if_neg (by simp), if_pos]
     rw [l7]; intro x hx
     rw [ha] at hx; cases hx
     exact ⟨by omega, fun y hy => absurd hy c3⟩) with ⟨h1, h2⟩ | ⟨j, o, h0, h1, h2, _, h4⟩
 ·rw [h1, m7]
  ·rfl
  ·exact ab5.1 fun j g1 g2 => by have := h2 j g1 g2; simpa using this
 ·rw [h4]
  split at h2
  ·cases h2
  ·rename_i hs
   cases h2
   rw [w7]
   ·rfl
   ·exact fun h => hs (m7 (ab5.2 h j h0 h1))
theorem ae5 (l : List Int) {n : Int} (hn : -9223372036854775808 < n) (hn' : n ≤ 9223372036854775807) : E9 l n = some (dec (SetN l n)) := by
 unfold E9
 rcases y8 (body := T7 l n) (n := (l.length : Int)) (fun j => if dec (stepOk l n j) = true then none else some false) (by omega) (fun j h0 h1 _ => by
  obtain ⟨a, ha, _⟩ := i5 (l := l) h0 h1
  unfold T7
  rw [ha]
  simp only [ob, in_eq, s7 (n := n - 1) (by omega) (by omega), u3]
  by_cases c1 : 0 ≤ a ∧ a ≤ n - 1
  ·rw [if_neg (by simpa using c1)]
   by_cases c3 : 0 < j
   ·obtain ⟨b, hb, _⟩ := i5 (l := l) (i := j - 1) (by omega) (by omega)
    rw [if_pos c3, hb]
    simp only [ob]
    by_cases c4 : a ≤ b
    ·rw [if_pos (by simpa using c4), if_neg]
     rw [l7]; intro h; have := (h a ha).2 b c3 hb; omega
    ·rw [if_neg (by simpa using c4), if_pos]
     rw [l7]; intro x hx
     rw [ha] at hx; cases hx
     exact ⟨by omega, fun y _ hy => by rw [hb] at hy; cases hy; omega⟩
   ·rw [if_neg c3]
    simp only [ob]
    rw [if_neg (by simp), if_pos]
    rw [l7]; intro x hx
    rw [ha] at hx; cases hx
    exact ⟨by omega, fun y hy => absurd hy c3⟩
  ·rw [if_pos (by simpa using c1), if_neg]
   ·rfl
   ·rw [l7]; intro h; have := (h a ha).1; omega) with ⟨h1, h2⟩ | ⟨j, o, h0, h1, h2, _, h4⟩
 ·rw [h1, m7]
  ·rfl
  ·exact ab5.1 fun j g1 g2 => by have := h2 j g1 g2; simpa using this
 ·rw [h4]
  split at h2
  ·cases h2
  ·rename_i hs
   cases h2
   rw [w7]
   ·rfl
   ·exact fun h => hs (m7 (ab5.2 h j h0 h1))
theorem containsLoop {s : List Int} (hs : Inc s) (hl : s.length ≤ 1000000) (x : Int) {i : Int} (h0 : 0 ≤ i) (h1 : i ≤ s.length) (hlt : ∀ k a, 0 ≤ k → k < i → ix s k = some a → a < x) :
  ∃ i', Loop (F3 s x) i = some i' ∧ i ≤ i' ∧ i' ≤ s.length ∧ (∀ k a, 0 ≤ k → k < i' → ix s k = some a → a < x) ∧ (∀ a, ix s i' = some a → x ≤ a) := by
 obtain ⟨o, h2, h3⟩ := C4 (body := F3 s x) (fun j => i ≤ j ∧ j ≤ s.length ∧ ∀ k a, 0 ≤ k → k < j → ix s k = some a → a < x) (fun i' => i ≤ i' ∧ i' ≤ s.length ∧ (∀ k a, 0 ≤ k → k < i' → ix s k = some a → a < x) ∧ (∀ a, ix s i' = some a → x ≤ a)) (fun j => (s.length - j).toNat) (s := i) ⟨Int.le_refl _, h1, hlt⟩ (fun j ⟨g1, g2, g3⟩ => by
  unfold F3
  by_cases c : j < s.length
  ·obtain ⟨a, ha, _⟩ := i5 (l := s) (i := j) (by omega) c
   rw [if_pos c, ha]
   simp only [ob, decide_eq_true_eq]
   by_cases c2 : a < x
   ·rw [if_pos c2]
    rw [s7 (by omega) (by omega)]
    refine .inl ⟨j + 1, rfl, ⟨by omega, by omega, fun k b k0 k1 hb => ?_⟩, by omega⟩
    by_cases e : k = j
    ·subst e; rw [ha] at hb; cases hb; exact c2
    ·exact g3 k b k0 (by omega) hb
   ·rw [if_neg c2]
    exact .inr ⟨j, rfl, g1, g2, g3, fun b hb => by rw [ha] at hb; cases hb; omega⟩
  ·rw [if_neg c]
   exact .inr ⟨j, rfl, g1, g2, g3, fun b hb => by have := (j7 hb).2.1; omega⟩)
 exact ⟨o, h2, h3⟩
theorem L3 {s part : List Int} (hs : Inc s) (hp : Inc part) (hl : s.length ≤ 1000000) : p8 s part = some (dec (∀ x ∈ part, x ∈ s)) := by
 unfold p8
 rcases U7 (body := K7 s part) (n := (part.length : Int)) (fun j i => (0 ≤ i ∧ i ≤ s.length ∧ ∀ k a, 0 ≤ k → k < i → ix s k = some a → ∀ m x, j ≤ m → ix part m = some x → a < x) ∧ ∀ m x, 0 ≤ m → m < j → ix part m = some x → x ∈ s) (fun o => o = false ∧ ¬ ∀ x ∈ part, x ∈ s) (s := 0) (by omega) ⟨⟨by omega, by omega, fun k a h1 h2 => by omega⟩, fun m x h1 h2 => by omega⟩ (fun j i h0 h1 ⟨⟨g1, g2, g3⟩, g4⟩ => by
  obtain ⟨x, hx, gx⟩ := i5 (l := part) h0 h1
  unfold K7
  obtain ⟨i', e1, e2, e3, e4, e5⟩ := containsLoop hs hl x g1 g2 (fun k a k0 k1 ha => g3 k a k0 k1 ha j x (Int.le_refl _) hx)
  rw [hx]
  simp only [ob, e1]
  have nin : (∀ a, ix s i' = some a → x < a) → x ∉ s := fun hgt hin => by
   obtain ⟨k, k0, k1, hk⟩ := k9 hin
   rcases Int.lt_trichotomy k i' with c | c | c
   ·have := e4 k x k0 c hk; omega
   ·subst c; have := hgt x hk; omega
   ·obtain ⟨b, hb, gb⟩ := i5 (l := s) (i := i') (by omega) (by omega)
    obtain ⟨_, _, gk⟩ := j7 hk
    have := hs.get gb gk (by omega)
    have := e5 b hb
    omega
  by_cases c : i' = s.length
  ·rw [if_pos c]
   refine .inr ⟨false, rfl, rfl, fun h => ?_⟩
   exact nin (fun a ha => by have := (j7 ha).2.1; omega) (h x (i8 hx))
  ·rw [if_neg c]
   obtain ⟨b, hb, gb⟩ := i5 (l := s) (i := i') (by omega) (by omega)
   rw [hb]
   simp only [ob]
   have hxb := e5 b hb
   by_cases c2 : b = x
   ·subst c2
    rw [if_neg (by simp)]
    refine .inl ⟨i', rfl, ⟨by omega, e3, fun k a k0 k1 ha m y hm hy => ?_⟩, fun m y m0 m1 hy => ?_⟩
    ·obtain ⟨_, _, gy⟩ := j7 hy
     have := hp.get gx gy (by omega)
     have := e4 k a k0 k1 ha
     omega
    ·by_cases e : m = j
     ·subst e; rw [hx] at hy; cases hy; exact i8 hb
     ·exact g4 m y m0 (by omega) hy
   ·rw [if_pos (by simpa using c2)]
    refine .inr ⟨false, rfl, rfl, fun h => ?_⟩
    exact nin (fun a ha => by rw [hb] at ha; cases ha; omega) (h x (i8 hx))) with ⟨s', h1, _, h2⟩ | ⟨o, h1, rfl, h2⟩
 ·rw [h1, m7]
  ·rfl
  ·intro x hx
   obtain ⟨m, m0, m1, hm⟩ := k9 hx
   exact h2 m x m0 m1 hm
 ·rw [h1, w7 h2]; rfl
end Ab
end
section
namespace Ab
open Go
theorem half_eq {i j : Int} (h0 : 0 ≤ i) (h1 : i ≤ j) (h2 : j ≤ 1000000) : w64 (shrW .u64 ((IntKind.u64).wrap (w64 (i + j))) 1) = (i + j) / 2 := by
 rw [s7 (n := i + j) (by omega) (by omega), IntKind.wrap_u64, Int.emod_eq_of_lt (by omega) (by omega)]
 have : shrW .u64 (i + j) 1 = (i + j) / 2 := by
  simp only [shrW, IntKind.bits]
  rw [show min (1 : Int).toNat 64 = 1 by rfl, Int.fdiv_eq_ediv_of_nonneg _ (by decide)]
  rfl
 rw [this]
 exact s7 (by omega) (by omega)
theorem less_eq (a b : Int) : P6 a b = some (decide (a < b)) := by simp [P6, D3]
theorem bsearch_eq {xs : List Int} (hs : Inc xs) (hl : xs.length ≤ 500000) (t : Int) : ∃ i, n7 xs t = some (i, dec (t ∈ xs)) ∧ 0 ≤ i ∧ i ≤ xs.length ∧ (∀ k a, 0 ≤ k → k < i → ix xs k = some a → a < t) ∧ (∀ k a, i ≤ k → ix xs k = some a → t ≤ a) := by
 unfold n7
 obtain ⟨i, h1, h2, h3, h4, h5⟩ := C4 (body := w5 xs t) (fun p => (0 ≤ p.1 ∧ p.1 ≤ p.2 ∧ p.2 ≤ xs.length) ∧ (∀ k a, 0 ≤ k → k < p.1 → ix xs k = some a → a < t) ∧ (∀ k a, p.2 ≤ k → ix xs k = some a → t ≤ a))
  (fun i => 0 ≤ i ∧ i ≤ xs.length ∧ (∀ k a, 0 ≤ k → k < i → ix xs k = some a → a < t) ∧ (∀ k a, i ≤ k → ix xs k = some a → t ≤ a)) (fun p => (p.2 - p.1).toNat) (s := (0, (xs.length : Int)))
  ⟨⟨by simp, by simp, by simp⟩, fun k a h1 h2 => by simp at h2; omega, fun k a h1 h2 => by have := (j7 h2).2.1; simp at h1; omega⟩ (fun ⟨i, j⟩ ⟨⟨g1, g2, g3⟩, g4, g5⟩ => by
  dsimp only at g1 g2 g3 g4 g5 ⊢
  unfold w5
  dsimp only
  by_cases c : i < j
  ·rw [if_pos c, half_eq g1 g2 (by omega)]
   obtain ⟨a, ha, ga⟩ := i5 (l := xs) (i := (i + j) / 2) (by omega) (by omega)
   rw [ha]
   simp only [ob, less_eq, decide_eq_true_eq]
   by_cases c2 : a < t
   ·rw [if_pos c2, s7 (by omega) (by omega)]
    refine .inl ⟨_, rfl, ⟨⟨by dsimp only; omega, by dsimp only; omega, g3⟩, fun k b k0 k1 hb => ?_, g5⟩, by dsimp only; omega⟩
    dsimp only at k1
    obtain ⟨_, _, gb⟩ := j7 hb
    by_cases e : k = (i + j) / 2
    ·subst e; rw [ha] at hb; cases hb; exact c2
    ·have := hs.get gb ga (by omega); omega
   ·rw [if_neg c2]
    refine .inl ⟨_, rfl, ⟨⟨g1, by dsimp only; omega, by dsimp only; omega⟩, g4, fun k b k0 hb => ?_⟩, by dsimp only; omega⟩
    dsimp only at k0
    obtain ⟨_, _, gb⟩ := j7 hb
    by_cases e : k = (i + j) / 2
    ·subst e; rw [ha] at hb; cases hb; omega
    ·have := hs.get ga gb (by omega); omega
  ·rw [if_neg c]
   have : i = j := by omega
   subst this
   exact .inr ⟨i, rfl, g1, g3, g4, g5⟩)
 rw [h1]
 simp only [ob]
 refine ⟨i, ?_, h2, h3, h4, h5⟩
 have nin : (∀ a, ix xs i = some a → a ≠ t) → t ∉ xs := fun hne hin => by
  obtain ⟨k, k0, k1, hk⟩ := k9 hin
  rcases Int.lt_trichotomy k i with c | c | c
  ·have := h4 k t k0 c hk; omega
  ·subst c; exact hne t hk rfl
  ·obtain ⟨b, hb, gb⟩ := i5 (l := xs) (i := i) (by omega) (by omega)
   obtain ⟨_, _, gk⟩ := j7 hk
   have := hs.get gb gk (by omega)
   have := h5 i b (Int.le_refl _) hb
   omega
 by_cases c : i < xs.length
 ·obtain ⟨a, ha, ga⟩ := i5 (l := xs) (i := i) (by omega) c
  rw [if_pos c, ha]
  simp only [ob]
  by_cases c2 : a = t
  ·subst c2
   rw [if_pos rfl, m7 (i8 ha)]
   rfl
  ·rw [if_neg c2]
   simp only [H8, decide_true, Bool.not_true, Bool.false_eq_true, if_false, ob]
   rw [w7 (nin fun b hb => by rw [ha] at hb; cases hb; exact c2)]
 ·rw [if_neg c]
  simp only [ob]
  rw [w7 (nin fun b hb => by have := (j7 hb).2.1; omega)]
theorem bsearch2 {xs : List Int} (hs : Inc xs) (hl : xs.length ≤ 500000) (t : Int) : ∃ i, n7 xs t = some (i, dec (t ∈ xs)) :=
 let ⟨i, h, _⟩ := bsearch_eq hs hl t
 ⟨i, h⟩
theorem containsFunc_eq {l : List Int} {f : Int → Option Bool} (p : Int → Prop) (hf : ∀ x ∈ l, f x = some (dec (p x))) : s8 l f = some (dec (∃ x ∈ l, p x)) := by
 unfold s8 C0
 rcases y8 (body := y9 l f) (n := (l.length : Int)) (fun j => if dec (∀ a, ix l j = some a → ¬ p a) = true then none else some j) (by omega) (fun j h0 h1 _ => by
  obtain ⟨a, ha, _⟩ := i5 (l := l) h0 h1
  unfold y9
  rw [ha]
  simp only [ob, hf a (i8 ha)]
  by_cases c : p a
  ·rw [if_pos (m7 c), if_neg (by rw [l7]; exact fun h => h a rfl c)]
  ·rw [if_neg (by rw [w7 c]; simp), if_pos (m7 fun b hb => by cases hb; exact c)]) with ⟨h1, h2⟩ | ⟨j, o, h0, h1, h2, _, h4⟩
 ·rw [h1]
  simp only [ob]
  rw [w7]
  ·rfl
  ·rintro ⟨x, hx, hp⟩
   obtain ⟨i, g1, g2, g3⟩ := k9 hx
   have := h2 i g1 g2
   split at this
   ·rename_i h; exact l7.1 h x g3 hp
   ·cases this
 ·rw [h4]
  split at h2
  ·cases h2
  ·rename_i h
   cases h2
   simp only [ob]
   rw [m7]
   ·simp [h0]
   ·simp only [l7] at h
    obtain ⟨a, g1, _⟩ := i5 (l := l) h0 h1
    refine ⟨a, i8 g1, ?_⟩
    rcases Classical.em (p a) with c | c
    ·exact c
    ·exact absurd (fun b hb => by rw [g1] at hb; cases hb; exact c) h
theorem meets_eq {a b : List Int} (hb : Inc b) (hl : b.length ≤ 500000) : Q6 a b = some (dec (∃ x ∈ a, x ∈ b)) := by
 unfold Q6
 rw [containsFunc_eq (fun x => x ∈ b) (fun x _ => by
  unfold R3
  obtain ⟨i, h⟩ := bsearch2 hb hl x
  rw [h]; rfl)]
 rfl
/-! ### Sorted, and equal neighbours made one -/
theorem compact_spec {l : List Int} (hs : l.Pairwise (· ≤ ·)) : Inc (U5 l) ∧ ∀ x, x ∈ U5 l ↔ x ∈ l := by
 have key : ∀ m, m ≤ l.length → Inc (Go.Lib.compactUpTo l.toArray m) ∧ (∀ x, x ∈ Go.Lib.compactUpTo l.toArray m ↔ x ∈ l.take m) := by
  intro m
  induction m with
  | zero => intro _; simp [Go.Lib.compactUpTo]
  | succ m ih =>
   intro hm
   obtain ⟨h1, h2⟩ := ih (by omega)
   have hlt : m < l.length := by omega
   have hd : l.toArray[m]! = l[m] := by simp [hlt]
   have ht : l.take (m + 1) = l.take m ++ [l[m]] := by rw [List.take_add_one]; simp [hlt]
   rw [Go.Lib.compactUpTo_succ, ht]
   by_cases hk : Go.Lib.keeps l.toArray m = true
   ·rw [if_pos hk, hd]
    refine ⟨List.pairwise_append.2 ⟨h1, by simp, fun a ha b hb => ?_⟩, fun x => by rw [List.mem_append, List.mem_append, h2]⟩
    simp only [List.mem_singleton] at hb
    subst hb
    have ha' := (h2 a).1 ha
    obtain ⟨i, hi, rfl⟩ := List.mem_iff_getElem.1 ha'
    rw [List.length_take] at hi
    rw [List.getElem_take]
    simp only [Go.Lib.keeps, decide_eq_true_eq] at hk
    rcases hk with hk | hk
    ·omega
    ·have hm1 : l.toArray[m - 1]! = l[m - 1] := by simp [show m - 1 < l.length by omega]
     rw [hd, hm1] at hk
     have e1 : l[m - 1] ≤ l[m] := List.pairwise_iff_getElem.1 hs (m - 1) m (by omega) hlt (by omega)
     have e2 : l[i] ≤ l[m - 1] := by
      rcases Nat.lt_or_ge i (m - 1) with c | c
      ·exact List.pairwise_iff_getElem.1 hs i (m - 1) (by omega) (by omega) c
      ·have : i = m - 1 := by omega
       subst this; exact Int.le_refl _
     omega
   ·rw [if_neg hk, List.append_nil]
    refine ⟨h1, fun x => ?_⟩
    rw [h2, List.mem_append]
    refine ⟨.inl, fun h => ?_⟩
    rcases h with h | h
    ·exact h
    ·simp only [List.mem_singleton] at h
     subst h
     have hm0 : m ≠ 0 := fun e => hk (by simp [Go.Lib.keeps, e])
     have hm1 : l.toArray[m - 1]! = l[m - 1] := by simp [show m - 1 < l.length by omega]
     have he : l[m] = l[m - 1] := by
      simp only [Go.Lib.keeps, decide_eq_true_eq, not_or] at hk
      have h3 : l.toArray[m]! = l.toArray[m - 1]! := Classical.not_not.1 (fun h => hk.2 h)
      rw [hd, hm1] at h3; exact h3
     rw [he, List.mem_take_iff_getElem]
     exact ⟨m - 1, by omega, rfl⟩
 obtain ⟨h1, h2⟩ := key l.length (Nat.le_refl _)
 refine ⟨?_, fun x => ?_⟩
 ·simpa [U5, Go.Lib.compact] using h1
 ·have := h2 x
  rw [List.take_length] at this
  simpa [U5, Go.Lib.compact] using this
theorem srt_spec (l : List Int) : (srt l).Pairwise (· ≤ ·) ∧ ∀ x, x ∈ srt l ↔ x ∈ l := by
 refine ⟨?_, fun x => by simp [srt]⟩
 have := List.pairwise_mergeSort (le := fun x y : Int => decide (x ≤ y)) (fun a b c h1 h2 => by simp at h1 h2 ⊢; omega) (fun a b => by simp; omega) l
 refine this.imp fun h => by simpa using h
theorem sortL_eq {l : List Int} (h : l.length < 4611686018427387904) : sortL l = some (srt l) := by rw [sortL, if_pos h]
theorem update_inc {s add del : List Int} (hd : Inc del) (hl : del.length ≤ 500000) (h1 : s.length ≤ 500000) (h2 : add.length ≤ 500000) :
  ∃ r, G0 s add del = some r ∧ Inc r ∧ ∀ x, x ∈ r ↔ (x ∈ s ∧ x ∉ del) ∨ x ∈ add := by
 unfold G0
 rw [forR_filter (l := s) (b := 8) (fun a => a ∉ del) (fun j a c h => by
  obtain ⟨i, hi⟩ := bsearch2 hd hl a
  unfold V1
  rw [h]
  simp only [ob, hi, u3]
  refine ⟨fun hq => ?_, fun hq => ?_⟩
  ·rw [if_pos (m7 hq)]
   cases app 8 c [a] <;> rfl
  ·rw [if_neg (by simpa using hq)]; rfl) [] (by simp; omega)]
 simp only [ob, List.nil_append]
 have hle : (s.filter fun a => dec (a ∉ del)).length ≤ s.length := List.length_filter_le _ _
 rw [show app 8 (s.filter fun a => dec (a ∉ del)) add = some ((s.filter fun a => dec (a ∉ del)) ++ add) by rw [app, if_pos]; omega]
 simp only [ob]
 rw [sortL_eq (by rw [List.length_append]; omega)]
 simp only [ob]
 obtain ⟨e1, e2⟩ := srt_spec ((s.filter fun a => dec (a ∉ del)) ++ add)
 obtain ⟨e3, e4⟩ := compact_spec e1
 refine ⟨_, rfl, e3, fun x => ?_⟩
 rw [e4, e2, List.mem_append, List.mem_filter, l7]
theorem update_eq {s add del : List Int} {n : Int} (hn : n ≤ 1000) (hd : Inc del) (hl : del.length ≤ 500000) (hs : SetN s n) (ha : SetN add n) :
  G0 s add del = some (L4 (fun x => (x ∈ s ∧ x ∉ del) ∨ x ∈ add) n) := by
 have h1 := hs.len; have h2 := ha.len
 obtain ⟨r, e1, e2, e3⟩ := update_inc (s := s) (add := add) hd hl (by omega) (by omega)
 rw [e1, SetN.eq_of (n := n) ⟨e2, fun x hx => ?_⟩ (fun x _ _ => e3 x)]
 rcases (e3 x).1 hx with h | h
 ·exact hs.2 x h.1
 ·exact ha.2 x h
end Ab
end
section
namespace Ab
open Go
theorem fault_no {f : k6} (h : f.code ≠ 0) : (!((decide (f.code = 0)) && (decide (f.index = 0)))) = true := by simp [h]
theorem ac3 {s : List Int} (h : s.length ≤ 1000000) : u4 s = some s := by
 rw [u4, app, if_pos (by simp; omega)]; rfl
end Ab
end
section
namespace Ab
open Go
theorem setN1 (a : Int) {n : Int} (h0 : 0 ≤ a) (h1 : a < n) : SetN [a] n := ⟨by simp, by simp [h0, h1]⟩
theorem subL_drop {α : Type} {l : List α} {i : Int} (h0 : 0 ≤ i) (h1 : i ≤ l.length) : subL l i (l.length : Int) = some (l.drop i.toNat) := by
 rw [subL, if_pos (by omega)]
 rw [show ((l.length : Int)).toNat = l.length by omega, List.take_length]
theorem subL_take {α : Type} {l : List α} {i : Int} (h0 : 0 ≤ i) (h1 : i ≤ l.length) : subL l 0 i = some (l.take i.toNat) := by
 rw [subL, if_pos (by omega)]; rfl
end Ab
end
section
namespace Ab
open Go
def llt : List Int → List Int → Prop
 | [], [] => False
 | [], _ :: _ => True
 | _ :: _, [] => False
 | a :: l, b :: m => a < b ∨ a = b ∧ llt l m
theorem E6 : ∀ l : List Int, ¬ llt l l
 | [] => id
 | a :: l => fun h => by
  rcases h with h | ⟨_, h⟩
  ·omega
  ·exact E6 l h
theorem B0 : ∀ {a b c : List Int}, llt a b → llt b c → llt a c
 | [], [], _, h, _ => h.elim
 | [], _ :: _, [], _, h => h.elim
 | [], _ :: _, _ :: _, _, _ => trivial
 | _ :: _, [], _, h, _ => h.elim
 | _ :: _, _ :: _, [], _, h => h.elim
 | x :: a, y :: b, z :: c, h, g => by
  rcases h with h | ⟨rfl, h⟩ <;> rcases g with g | ⟨rfl, g⟩
  ·exact .inl (by omega)
  ·exact .inl h
  ·exact .inl g
  ·exact .inr ⟨rfl, B0 h g⟩
theorem M5 : ∀ a b : List Int, llt a b ∨ a = b ∨ llt b a
 | [], [] => .inr (.inl rfl)
 | [], _ :: _ => .inl trivial
 | _ :: _, [] => .inr (.inr trivial)
 | x :: a, y :: b => by
  rcases Int.lt_trichotomy x y with h | rfl | h
  ·exact .inl (.inl h)
  ·rcases M5 a b with h | rfl | h
   ·exact .inl (.inr ⟨rfl, h⟩)
   ·exact .inr (.inl rfl)
   ·exact .inr (.inr (.inr ⟨rfl, h⟩))
  ·exact .inr (.inr (.inl h))
theorem llt_asymm {a b : List Int} (h : llt a b) (g : llt b a) : False := E6 a (B0 h g)
noncomputable def cmpL (a b : List Int) : Int := if dec (llt a b) = true then -1 else if dec (a = b) = true then 0 else 1
theorem M1 {a b : List Int} : cmpL a b < 0 ↔ llt a b := by
 unfold cmpL
 by_cases h : llt a b
 ·rw [ifP h]; simp [h]
 ·rw [ifN h]
  split <;> simp [h]
theorem cmpL_eq {a b : List Int} : cmpL a b = 0 ↔ a = b := by
 unfold cmpL
 by_cases h : llt a b
 ·rw [ifP h]
  constructor
  ·intro e; omega
  ·rintro rfl; exact absurd h (E6 _)
 ·rw [ifN h]
  by_cases g : a = b
  ·rw [ifP g]; simp [g]
  ·rw [ifN g]; simp [g]
theorem cmpL_ge {a b : List Int} : 0 ≤ cmpL a b ↔ ¬ llt a b := by rw [← M1]; omega
theorem cmpInt_eq (x y : Int) : J8 x y = some (if x < y then -1 else if y < x then 1 else 0) := by
 unfold J8 D3
 simp only [decide_true, Bool.not_true, ob, Bool.false_eq_true, if_false]
 split
 ·rfl
 ·split <;> rfl
theorem ah5 : ∀ {a b : List Int} (k : Nat), k ≤ a.length → k ≤ b.length → a.take k = b.take k → (llt a b ↔ llt (a.drop k) (b.drop k))
 | _, _, 0, _, _, _ => by simp
 | [], _, k + 1, h, _, _ => by simp at h
 | _ :: _, [], k + 1, _, h, _ => by simp at h
 | x :: a, y :: b, k + 1, h1, h2, h3 => by
  simp only [List.take_succ_cons, List.cons.injEq] at h3
  obtain ⟨rfl, h3⟩ := h3
  simp only [List.drop_succ_cons]
  rw [← ah5 k (by simpa using h1) (by simpa using h2) h3]
  simp [llt]
theorem X2 (a b : List Int) : slices_Compare_int_int a b = some (cmpL a b) := by
 unfold slices_Compare_int_int
 rcases U7 (body := B3 a b) (n := (a.length : Int)) (s := ()) (fun j _ => j ≤ b.length ∧ a.take j.toNat = b.take j.toNat) (fun o => o = cmpL a b) (by omega) ⟨by omega, by simp⟩ (fun j _ j0 j1 ⟨k1, k2⟩ => by
  obtain ⟨x, hx, gx⟩ := i5 (l := a) j0 j1
  have hxl := (List.getElem?_eq_some_iff.1 gx).2
  unfold B3
  rw [hx]
  simp only [ob]
  have hd := ah5 (a := a) (b := b) j.toNat (by omega) (by omega) k2
  have da : a.drop j.toNat = x :: a.drop (j.toNat + 1) := by rw [← hxl]; exact List.drop_eq_getElem_cons (by omega)
  by_cases c : (b.length : Int) ≤ j
  ·rw [if_pos c]
   refine .inr ⟨_, rfl, ?_⟩
   have db : b.drop j.toNat = [] := List.drop_of_length_le (by omega)
   rw [da, db] at hd
   unfold cmpL
   rw [ifN (fun h => (hd.1 h).elim), ifN]
   rintro rfl; omega
  ·rw [if_neg c]
   obtain ⟨y, hy, gy⟩ := i5 (l := b) (i := j) j0 (by omega)
   have hyl := (List.getElem?_eq_some_iff.1 gy).2
   have db : b.drop j.toNat = y :: b.drop (j.toNat + 1) := by rw [← hyl]; exact List.drop_eq_getElem_cons (by omega)
   rw [hy]
   simp only [ob, cmpInt_eq]
   rw [da, db] at hd
   have hne : x ≠ y → a ≠ b := fun h e => by subst e; rw [hx] at hy; cases hy; exact h rfl
   rcases Int.lt_trichotomy x y with h | rfl | h
   ·rw [if_pos h, if_neg (by decide)]
    refine .inr ⟨_, rfl, ?_⟩
    unfold cmpL
    rw [ifP (hd.2 (.inl h))]
   ·simp only [Int.lt_irrefl, if_false, if_true]
    refine .inl ⟨(), trivial, by omega, ?_⟩
    rw [show (j + 1).toNat = j.toNat + 1 by omega, List.take_add_one, List.take_add_one, gx, gy, k2]
   ·rw [if_neg (show ¬ x < y by omega), if_pos h, if_neg (by decide)]
    refine .inr ⟨_, rfl, ?_⟩
    unfold cmpL
    rw [ifN, ifN (hne (by omega))]
    intro g
    rcases hd.1 g with g | ⟨g, _⟩ <;> omega) with ⟨_, r1, r2, r3⟩ | ⟨o, r1, rfl⟩
 ·rw [r1]
  simp only [ob]
  have hd := ah5 (a := a) (b := b) a.length (Nat.le_refl _) (by omega) (by simpa using r3)
  have da : a.drop a.length = [] := by simp
  rw [da] at hd
  have e3 : a = b.take a.length := by simpa using r3
  by_cases c : (a.length : Int) < b.length
  ·rw [if_pos c]
   have : b.drop a.length ≠ [] := by simp; omega
   unfold cmpL
   rw [ifP]
   rw [hd]
   cases h : b.drop a.length with
   | nil => exact absurd h this
   | cons x l => trivial
  ·rw [if_neg c]
   have : a = b := by rw [e3, List.take_of_length_le (by omega)]
   rw [cmpL_eq.2 this]
 ·rw [r1]; rfl
theorem cmp_ok : CmpOk slices_Compare_int_int cmpL := by
 refine ⟨X2, ⟨fun x => ?_, fun x y z h1 h2 => ?_, fun x y z h1 h2 => ?_⟩, fun a b h1 h2 => ?_⟩
 ·simp only [Go.Proofs.ltOf, decide_eq_false_iff_not, M1]
  exact E6 x
 ·simp only [Go.Proofs.ltOf, decide_eq_true_eq, M1] at h1 h2 ⊢
  exact B0 h1 h2
 ·simp only [Go.Proofs.ltOf, decide_eq_false_iff_not, M1] at h1 h2 ⊢
  intro h
  rcases M5 x y with g | rfl | g
  ·exact h1 g
  ·exact h2 h
  ·exact h2 (B0 g h)
 ·rw [M1] at h1 h2
  rcases M5 a b with g | g | g
  ·exact absurd g h1
  ·exact g
  ·exact absurd g h2
/-! ### Lists compared -/
theorem listEq {α : Type} {a b : List α} {body : Int → Unit → Option (Unit ⊕ Bool)} (hl : a.length = b.length) (hb : ∀ j x y, ix a j = some x → ix b j = some y → (x = y ∧ body j () = some (.inl ())) ∨ (x ≠ y ∧ body j () = some (.inr false))) :
  (Option.bind (rngX 0 (a.length : Int) body ()) fun | .inl _ => some true | .inr x => some x) = some (dec (a = b)) := by
 rcases y8 (body := body) (n := (a.length : Int)) (fun j => if dec (ix a j = ix b j) = true then none else some false) (by omega) (fun j h0 h1 _ => by
  obtain ⟨x, hx, _⟩ := i5 (l := a) h0 h1
  obtain ⟨y, hy, _⟩ := i5 (l := b) (i := j) h0 (by omega)
  rcases hb j x y hx hy with ⟨e, h⟩ | ⟨e, h⟩
  ·rw [h, ifP (by rw [hx, hy, e])]
  ·rw [h, ifN (by rw [hx, hy]; simpa using e)]) with ⟨h1, h2⟩ | ⟨j, o, h0, h1, h2, _, h4⟩
 ·rw [h1, m7]
  ·rfl
  ·refine List.ext_getElem? fun k => ?_
   by_cases hk : k < a.length
   ·have := h2 k (by omega) (by omega)
    split at this
    ·rename_i e
     have := l7.1 e
     rwa [Q1, Q1] at this
    ·cases this
   ·rw [List.getElem?_eq_none (by omega), List.getElem?_eq_none (by omega)]
 ·rw [h4]
  split at h2
  ·cases h2
  ·rename_i e
   cases h2
   rw [w7 (fun h => e (m7 (by rw [h])))]; rfl
theorem ints_eq (a b : List Int) : H1 a b = some (dec (a = b)) := by
 unfold H1
 by_cases hl : (a.length : Int) = b.length
 ·rw [if_pos hl]
  refine listEq (by omega) fun j x y hx hy => ?_
  unfold ac6
  simp only [hx, hy, ob]
  by_cases e : x = y
  ·rw [if_pos e]; exact .inl ⟨e, rfl⟩
  ·rw [if_neg e]; exact .inr ⟨e, rfl⟩
 ·rw [if_neg hl, w7 (fun h => hl (by rw [h]))]
theorem equal_eq (a b : List Int) : u5 a b = some (dec (a = b)) := by
 unfold u5
 by_cases hl : (a.length : Int) = b.length
 ·rw [if_pos hl]
  refine listEq (by omega) fun j x y hx hy => ?_
  unfold I8
  simp only [hx, hy, ob]
  by_cases e : x = y
  ·rw [if_pos e]; exact .inl ⟨e, rfl⟩
  ·rw [if_neg e]; exact .inr ⟨e, rfl⟩
 ·rw [if_neg hl, w7 (fun h => hl (by rw [h]))]
theorem ag1 (l : LL) (s : List Int) : ∃ r, y5 l s = some r ∧ ((r = -1 ∧ s ∉ l) ∨ (0 ≤ r ∧ r < l.length ∧ ix l r = some s ∧ ∀ j, 0 ≤ j → j < r → ix l j ≠ some s)) := by
 unfold y5
 rcases y8 (body := U1 l s) (n := (l.length : Int)) (fun j => if dec (ix l j = some s) = true then some j else none) (by omega) (fun j h0 h1 _ => by
  obtain ⟨x, hx, _⟩ := i5 (l := l) h0 h1
  unfold U1
  simp only [hx, ob, ints_eq]
  by_cases e : x = s
  ·rw [ifP e, ifP (by rw [e])]
  ·rw [ifN e, ifN (by simpa using e)]) with ⟨h1, h2⟩ | ⟨j, o, h0, h1, h2, h3, h4⟩
 ·rw [h1]
  refine ⟨-1, rfl, .inl ⟨rfl, fun hs => ?_⟩⟩
  obtain ⟨i, i0, i1, hi⟩ := k9 hs
  have := h2 i i0 i1
  rw [ifP hi] at this
  cases this
 ·rw [h4]
  split at h2
  ·rename_i e
   cases h2
   refine ⟨_, rfl, .inr ⟨h0, h1, l7.1 e, fun i i0 i1 => ?_⟩⟩
   have := h3 i i0 i1
   split at this
   ·cases this
   ·rename_i e
    exact fun h => e (m7 h)
  ·cases h2
/-! ### Ordered lists -/
abbrev Ord (l : LL) : Prop := l.Pairwise llt
theorem Ord.ext : ∀ {l m : LL}, Ord l → Ord m → (∀ x, x ∈ l ↔ x ∈ m) → l = m
 | [], [], _, _, _ => rfl
 | [], b :: m, _, _, h => absurd ((h b).2 (by simp)) (by simp)
 | a :: l, [], _, _, h => absurd ((h a).1 (by simp)) (by simp)
 | a :: l, b :: m, hl, hm, h => by
  obtain ⟨l1, l2⟩ := List.pairwise_cons.1 hl
  obtain ⟨m1, m2⟩ := List.pairwise_cons.1 hm
  have hab : a = b := by
   rcases List.mem_cons.1 ((h a).1 (by simp)) with e | e
   ·exact e
   ·rcases List.mem_cons.1 ((h b).2 (by simp)) with e' | e'
    ·exact e'.symm
    ·exact (llt_asymm (l1 b e') (m1 a e)).elim
  subst hab
  rw [Ord.ext l2 m2 fun x => ⟨fun hx => ?_, fun hx => ?_⟩]
  ·rcases List.mem_cons.1 ((h x).1 (by simp [hx])) with e | e
   ·subst e; exact absurd (l1 x hx) (E6 x)
   ·exact e
  ·rcases List.mem_cons.1 ((h x).2 (by simp [hx])) with e | e
   ·subst e; exact absurd (m1 x hx) (E6 x)
   ·exact e
theorem Ord.get {l : LL} (h : Ord l) {i j : Int} {a b : List Int} (hi : ix l i = some a) (hj : ix l j = some b) (hij : i < j) : llt a b := by
 obtain ⟨i0, i1, hi⟩ := j7 hi
 obtain ⟨j0, j1, hj⟩ := j7 hj
 obtain ⟨h1, rfl⟩ := List.getElem?_eq_some_iff.1 hi
 obtain ⟨h2, rfl⟩ := List.getElem?_eq_some_iff.1 hj
 exact List.pairwise_iff_getElem.1 h _ _ h1 h2 (by omega)
theorem Ord.inj {l : LL} (h : Ord l) {i j : Int} {a : List Int} (hi : ix l i = some a) (hj : ix l j = some a) : i = j := by
 rcases Int.lt_trichotomy i j with e | e | e
 ·exact absurd (h.get hi hj e) (E6 a)
 ·exact e
 ·exact absurd (h.get hj hi e) (E6 a)
def ddN (l : LL) : Nat → LL
 | 0 => []
 | m + 1 => ddN l m ++ if decide (m = 0 ∨ l[m]? ≠ l[m - 1]?) = true then l[m]?.toList else []
theorem ddN_spec {l : LL} (hs : l.Pairwise fun a b => ¬ llt b a) : ∀ m, m ≤ l.length → Ord (ddN l m) ∧ ∀ x, x ∈ ddN l m ↔ x ∈ l.take m := by
 intro m
 induction m with
 | zero => intro _; simp [ddN]
 | succ m ih =>
  intro hm
  obtain ⟨h1, h2⟩ := ih (by omega)
  have hlt : m < l.length := by omega
  have ht : l.take (m + 1) = l.take m ++ [l[m]] := by rw [List.take_add_one]; simp [hlt]
  rw [ddN, ht]
  by_cases hk : m = 0 ∨ l[m]? ≠ l[m - 1]?
  ·rw [if_pos (by simpa using hk)]
   simp only [List.getElem?_eq_getElem hlt, Option.toList_some]
   refine ⟨List.pairwise_append.2 ⟨h1, by simp, fun a ha b hb => ?_⟩, fun x => by rw [List.mem_append, List.mem_append, h2]⟩
   simp only [List.mem_singleton] at hb
   subst hb
   have ha' := (h2 a).1 ha
   obtain ⟨i, hi, rfl⟩ := List.mem_iff_getElem.1 ha'
   rw [List.length_take] at hi
   rw [List.getElem_take]
   rcases hk with hk | hk
   ·omega
   ·have hm1 : m - 1 < l.length := by omega
    rw [List.getElem?_eq_getElem hlt, List.getElem?_eq_getElem hm1] at hk
    have e1 : ¬ llt l[m] l[m - 1] := List.pairwise_iff_getElem.1 hs (m - 1) m hm1 hlt (by omega)
    have e2 : llt l[m - 1] l[m] := by
     rcases M5 l[m - 1] l[m] with h | h | h
     ·exact h
     ·exact absurd (by rw [h]) hk
     ·exact absurd h e1
    by_cases hi2 : i = m - 1
    ·subst hi2; exact e2
    ·have e3 : ¬ llt l[m - 1] l[i] := List.pairwise_iff_getElem.1 hs i (m - 1) (by omega) hm1 (by omega)
     rcases M5 l[i] l[m] with h | h | h
     ·exact h
     ·rw [h] at e3; exact absurd e2 e3
     ·exact absurd (B0 e2 h) e3
  ·rw [if_neg (by simpa using hk), List.append_nil]
   refine ⟨h1, fun x => ?_⟩
   rw [h2, List.mem_append]
   refine ⟨.inl, fun h => ?_⟩
   rcases h with h | h
   ·exact h
   ·simp only [List.mem_singleton] at h
    subst h
    have hm0 : m ≠ 0 := fun e => hk (.inl e)
    have he : l[m]? = l[m - 1]? := Classical.not_not.1 fun e => hk (.inr e)
    rw [List.getElem?_eq_getElem hlt, List.getElem?_eq_getElem (show m - 1 < l.length by omega)] at he
    rw [Option.some.inj he, List.mem_take_iff_getElem]
    exact ⟨m - 1, by omega, rfl⟩
theorem ddN_len (l : LL) : ∀ m, (ddN l m).length ≤ m
 | 0 => by simp [ddN]
 | m + 1 => by
  have := ddN_len l m
  rw [ddN, List.length_append]
  split
  ·have : (l[m]?.toList).length ≤ 1 := by cases l[m]? <;> simp
   omega
  ·simp; omega
theorem ddN_all {l : LL} : ∀ m, m ≤ l.length → (∀ i, 0 < i → i < m → l[i]? ≠ l[i - 1]?) → ddN l m = l.take m
 | 0, _, _ => by simp [ddN]
 | m + 1, hm, h => by
  rw [ddN, ddN_all m (by omega) fun i h0 h1 => h i h0 (by omega), if_pos, List.take_add_one]
  rw [decide_eq_true_eq]
  by_cases e : m = 0
  ·exact .inl e
  ·exact .inr (h m (by omega) (by omega))
theorem compactF_eq {l : LL} (hl : l.length ≤ 1000000) : r7 l = some (ddN l l.length) := by
 unfold r7
 by_cases c0 : (l.length : Int) < 2
 ·rw [if_pos c0, ddN_all l.length (Nat.le_refl _) fun i h0 h1 => by omega, List.take_length]
 ·rw [if_neg c0]
  have key := rngN_inv (body := n5 l) (fun j _ => ∀ i : Nat, 0 < i → (i : Int) < j → l[i]? ≠ l[i - 1]?) (fun o => o = ddN l l.length) ((l.length : Int) - 1).toNat 1 () (fun i h0 h1 => by omega) (fun j _ j0 j1 hP => by
   obtain ⟨a, ha, ga⟩ := i5 (l := l) (i := j) (by omega) (by omega)
   obtain ⟨b, hb, gb⟩ := i5 (l := l) (i := j - 1) (by omega) (by omega)
   unfold n5
   simp only [ha, hb, ob, equal_eq]
   have ej : (j - 1).toNat = j.toNat - 1 := by omega
   rw [ej] at gb
   by_cases c : a = b
   ·rw [ifP c]
    subst c
    right
    rw [show cutV (l.length : Int) j (l.length : Int) = some () by rw [cutV, if_pos (by omega)]]
    simp only [ob]
    obtain ⟨⟨cs, kv⟩, r1, r2, r3, r4, r5, r6⟩ := forN_inv (body := o8 l j) (fun k2 p => p.1.length = l.length ∧ j ≤ p.2 ∧ p.2 ≤ j + k2 - 1 ∧ p.1.take p.2.toNat = ddN l (j + k2).toNat ∧ ∀ i : Nat, j + k2 - 1 ≤ i → p.1[i]? = l[i]?) ((l.length : Int) - j - 1).toNat 1 (l, j) ⟨rfl, by simp, by dsimp only; omega, by
      dsimp only
      rw [show (j + 1).toNat = j.toNat + 1 by omega, ddN, if_neg, List.append_nil, ddN_all j.toNat (by omega) fun i h0 h1 => hP i h0 (by omega)]
      rw [decide_eq_true_eq]
      rintro (h | h)
      ·omega
      ·exact h (ga.trans gb.symm), fun i _ => rfl⟩ (fun k2 ⟨cs, kv⟩ k0 k1 ⟨g1, g2, g3, g4, g5⟩ => by
      dsimp only at g1 g2 g3 g4 g5 ⊢
      obtain ⟨x, hx, gx⟩ := i5 (l := l) (i := j + k2) (by omega) (by omega)
      obtain ⟨y, hy, gy⟩ := i5 (l := l) (i := j + k2 - 1) (by omega) (by omega)
      have iv : ∀ i : Int, 0 ≤ i → i < (l.length : Int) - j → ixV cs (0 + j) ((l.length : Int) - j) i = ix cs (j + i) := fun i h0 h1 => by
       rw [ixV, if_pos (by omega), Int.zero_add]
      have same : ∀ i : Int, j + k2 - 1 ≤ i → ix cs i = ix l i := fun i hi => by
       have := g5 i.toNat (by omega)
       simp only [ix]
       rw [this]
      unfold o8
      dsimp only
      rw [iv k2 (by omega) (by omega), iv (k2 - 1) (by omega) (by omega), show j + (k2 - 1) = j + k2 - 1 by omega, same _ (by omega), same _ (by omega), hx, hy]
      simp only [ob, equal_eq, u3]
      have ek : (j + (k2 + 1)).toNat = (j + k2).toNat + 1 := by omega
      have ek1 : (j + k2 - 1).toNat = (j + k2).toNat - 1 := by omega
      rw [ek1] at gy
      by_cases cx : x = y
      ·rw [ifNN cx]
       refine ⟨_, rfl, g1, g2, by omega, ?_, fun i hi => g5 i (by omega)⟩
       dsimp only
       rw [ek, ddN, if_neg, List.append_nil]
       ·exact g4
       ·rw [decide_eq_true_eq]
        rintro (h | h)
        ·omega
        ·exact h (by rw [gx, gy, cx])
      ·rw [ifP cx]
       obtain ⟨z, hz, gz⟩ := i5 (l := cs) (i := kv) (by omega) (by omega)
       simp only [hz, ob]
       rw [s7 (by omega) (by omega)]
       refine ⟨_, rfl, by rw [List.length_set]; exact g1, by omega, by omega, ?_, fun i hi => ?_⟩
       ·dsimp only
        rw [ek, ddN, if_pos, gx, show (kv + 1).toNat = kv.toNat + 1 by omega, List.take_add_one, List.getElem?_set, if_pos rfl, if_pos (by omega), List.take_set_of_le (Nat.le_refl _), g4]
        rw [decide_eq_true_eq]
        exact .inr (by rw [gx, gy]; simpa using cx)
       ·dsimp only
        rw [List.getElem?_set, if_neg (by omega)]
        exact g5 i (by omega))
    have ef : forR 1 ((l.length : Int) - j) (o8 l j) (l, j) = some (cs, kv) := r1
    dsimp only at r2 r3 r4 r5 r6
    rw [ef]
    simp only [ob]
    have hcl : (clrL cs (0 + kv) ((cs.length : Int) - kv) []).length = cs.length := by simp [clrL]; omega
    rw [show cutV (cs.length : Int) kv (cs.length : Int) = some () by rw [cutV, if_pos (by omega)]]
    simp only [ob, hcl]
    rw [show cutV (cs.length : Int) 0 kv = some () by rw [cutV, if_pos (by omega)]]
    refine ⟨_, rfl, ?_⟩
    have e1 : w8 (clrL cs (0 + kv) ((cs.length : Int) - kv) []) 0 kv = cs.take kv.toNat := by
     simp only [w8, clrL, Int.zero_add, Int.toNat_zero, List.drop_zero]
     rw [List.append_assoc, List.take_append_of_le_length (by simp; omega), List.take_take, Nat.min_self]
    rw [e1, r5]
    congr 1
    omega
   ·rw [ifN c]
    left
    refine ⟨(), rfl, fun i h0 h1 => ?_⟩
    by_cases e : (i : Int) = j
    ·have : i = j.toNat := by omega
     subst this
     rw [ga, gb]
     simpa using c
    ·exact hP i h0 (by omega))
  rcases key with ⟨_, h1, h2⟩ | ⟨o, h1, rfl⟩
  ·have : rngX 1 (l.length : Int) (n5 l) () = some (.inl ()) := h1
   rw [this]
   simp only [ob]
   rw [ddN_all l.length (Nat.le_refl _) fun i h0 h1 => h2 i h0 (by omega), List.take_length]
  ·have : rngX 1 (l.length : Int) (n5 l) () = some (.inr (ddN l l.length)) := h1
   rw [this]; rfl
theorem ae3 {l : LL} (hl : l.length ≤ 1000000) : ∃ r, C1 l = some r ∧ Ord r ∧ (∀ x, x ∈ r ↔ x ∈ l) ∧ r.length ≤ l.length := by
 unfold C1
 rw [sortFL_eq (by omega) cmp_ok]
 simp only [ob]
 have hlen : (l.mergeSort fun x y => decide (¬ cmpL y x < 0)).length = l.length := by simp
 rw [compactF_eq (by rw [hlen]; exact hl)]
 have hs : (l.mergeSort fun x y => decide (¬ cmpL y x < 0)).Pairwise fun a b => ¬ llt b a := by
  have := List.pairwise_mergeSort (le := fun x y : List Int => decide (¬ cmpL y x < 0)) (fun a b c h1 h2 => by
   simp only [decide_eq_true_eq, M1] at h1 h2 ⊢
   intro h
   rcases M5 b a with g | g | g
   ·exact h1 g
   ·subst g; exact h2 h
   ·exact h2 (B0 h g)) (fun a b => by
   simp only [Bool.or_eq_true, decide_eq_true_eq, M1]
   by_cases h : llt b a
   ·exact .inr fun g => llt_asymm h g
   ·exact .inl h) l
  exact this.imp fun h => by simpa [M1] using h
 obtain ⟨h1, h2⟩ := ddN_spec hs _ (Nat.le_refl _)
 refine ⟨_, rfl, h1, fun x => ?_, ?_⟩
 ·rw [h2, List.take_length]; simp
 ·have := ddN_len (l.mergeSort fun x y => decide (¬ cmpL y x < 0)) (l.mergeSort fun x y => decide (¬ cmpL y x < 0)).length
  rw [hlen] at this
  rw [hlen]; exact this
end Ab
end
section
namespace Ab
open Go
theorem forN_congr {S : Type} {b1 b2 : Int → S → Option S} : ∀ (k : Nat) (i : Int) (s : S), (∀ j s, i ≤ j → j < i + k → b1 j s = b2 j s) → forN b1 k i s = forN b2 k i s
 | 0, _, _, _ => rfl
 | k + 1, i, s, h => by
  simp only [forN]
  rw [h i s (by omega) (by omega)]
  cases b2 i s with
  | none => rfl
  | some s' => exact forN_congr k (i + 1) s' fun j s g1 g2 => h j s (by omega) (by omega)
theorem forR_congr {S : Type} {b1 b2 : Int → S → Option S} {lo n : Int} {s : S} (h : ∀ j s, lo ≤ j → j < n → b1 j s = b2 j s) : forR lo n b1 s = forR lo n b2 s :=
 forN_congr _ _ _ fun j s g1 g2 => h j s g1 (by omega)
/-! ### Binary search by a key -/
def bsl {A B : Type} (xv : List A) (target : B) (cmp : A → B → Option Int) : (Int × Int) → Option ((Int × Int) ⊕ Int) := fun (iv4, j5) => if iv4 < j5 then Option.bind (ix xv (w64 (shrW .u64 ((IntKind.u64).wrap (w64 (iv4 + j5))) 1))) fun a27 => Option.bind (cmp a27 target) fun a30 => if a30 < 0 then some (.inl (w64 ((w64 (shrW .u64 ((IntKind.u64).wrap (w64 (iv4 + j5))) 1)) + 1), j5)) else some (.inl (iv4, w64 (shrW .u64 ((IntKind.u64).wrap (w64 (iv4 + j5))) 1))) else some (.inr iv4)
noncomputable def bsf {A B : Type} (xv : List A) (target : B) (cmp : A → B → Option Int) : Option (Int × Bool) := Option.bind (Loop (bsl xv target cmp) (0, (xv.length : Int))) fun iv6 => Option.bind (if iv6 < (xv.length : Int) then Option.bind (ix xv iv6) fun a43 => Option.bind (cmp a43 target) fun a46 => some (decide (a46 = 0)) else some false) fun t9 => some (iv6, t9)
theorem W4 {A : Type} {key : A → List Int} {xs : List A} (h : Ord (xs.map key)) {i j : Int} {a b : A} (hi : ix xs i = some a) (hj : ix xs j = some b) (hij : i < j) : llt (key a) (key b) := by
 obtain ⟨i0, i1, hi⟩ := j7 hi
 obtain ⟨j0, j1, hj⟩ := j7 hj
 refine h.get (i := i) (j := j) ?_ ?_ hij
 ·rw [ix, if_pos i0, List.getElem?_map, hi]; rfl
 ·rw [ix, if_pos j0, List.getElem?_map, hj]; rfl
theorem bsf_full {A : Type} {key : A → List Int} {xs : List A} {t : List Int} {cmp : A → List Int → Option Int} (hs : Ord (xs.map key)) (hl : xs.length ≤ 500000) (hc : ∀ a, cmp a t = some (cmpL (key a) t)) :
  ∃ i, bsf xs t cmp = some (i, dec (∃ a ∈ xs, key a = t)) ∧ 0 ≤ i ∧ (∀ k a, ix xs k = some a → key a = t → k = i) ∧ i ≤ xs.length ∧ (∀ k a, 0 ≤ k → k < i → ix xs k = some a → llt (key a) t) ∧ (∀ k a, i ≤ k → ix xs k = some a → ¬ llt (key a) t) := by
 unfold bsf
 obtain ⟨i, h1, h2, h3, h4, h5⟩ := C4 (body := bsl xs t cmp) (fun p => (0 ≤ p.1 ∧ p.1 ≤ p.2 ∧ p.2 ≤ xs.length) ∧ (∀ k a, 0 ≤ k → k < p.1 → ix xs k = some a → llt (key a) t) ∧ (∀ k a, p.2 ≤ k → ix xs k = some a → ¬ llt (key a) t))
  (fun i => 0 ≤ i ∧ i ≤ xs.length ∧ (∀ k a, 0 ≤ k → k < i → ix xs k = some a → llt (key a) t) ∧ (∀ k a, i ≤ k → ix xs k = some a → ¬ llt (key a) t)) (fun p => (p.2 - p.1).toNat) (s := (0, (xs.length : Int)))
  ⟨⟨by simp, by simp, by simp⟩, fun k a h1 h2 => by simp at h2; omega, fun k a h1 h2 => by have := (j7 h2).2.1; simp at h1; omega⟩ (fun ⟨i, j⟩ ⟨⟨g1, g2, g3⟩, g4, g5⟩ => by
  dsimp only at g1 g2 g3 g4 g5 ⊢
  unfold bsl
  dsimp only
  by_cases c : i < j
  ·rw [if_pos c, half_eq g1 g2 (by omega)]
   obtain ⟨a, ha, ga⟩ := i5 (l := xs) (i := (i + j) / 2) (by omega) (by omega)
   rw [ha]
   simp only [ob, hc, M1]
   by_cases c2 : llt (key a) t
   ·rw [if_pos (M1.2 c2), s7 (by omega) (by omega)]
    refine .inl ⟨_, rfl, ⟨⟨by dsimp only; omega, by dsimp only; omega, g3⟩, fun k b k0 k1 hb => ?_, g5⟩, by dsimp only; omega⟩
    dsimp only at k1
    by_cases e : k = (i + j) / 2
    ·subst e; rw [ha] at hb; cases hb; exact c2
    ·exact B0 (W4 hs hb ha (by omega)) c2
   ·rw [if_neg (fun h => c2 (M1.1 h))]
    refine .inl ⟨_, rfl, ⟨⟨g1, by dsimp only; omega, by dsimp only; omega⟩, g4, fun k b k0 hb => ?_⟩, by dsimp only; omega⟩
    dsimp only at k0
    by_cases e : k = (i + j) / 2
    ·subst e; rw [ha] at hb; cases hb; exact c2
    ·exact fun h => c2 (B0 (W4 hs ha hb (by omega)) h)
  ·rw [if_neg c]
   have : i = j := by omega
   subst this
   exact .inr ⟨i, rfl, g1, g3, g4, g5⟩)
 rw [h1]
 simp only [ob]
 have uniq : ∀ k a, ix xs k = some a → key a = t → k = i := fun k a hk he => by
  rcases Int.lt_trichotomy k i with c | c | c
  ·have := h4 k a (j7 hk).1 c hk; rw [he] at this; exact absurd this (E6 t)
  ·exact c
  ·obtain ⟨b, hb, gb⟩ := i5 (l := xs) (i := i) h2 (by have := (j7 hk).2.1; omega)
   have := W4 hs hb hk c
   rw [he] at this
   exact absurd this (h5 i b (Int.le_refl _) hb)
 refine ⟨i, ?_, h2, uniq, h3, h4, h5⟩
 by_cases c : i < xs.length
 ·obtain ⟨a, ha, ga⟩ := i5 (l := xs) (i := i) (by omega) c
  rw [if_pos c, ha]
  simp only [ob, hc]
  by_cases c2 : key a = t
  ·rw [decide_eq_true (cmpL_eq.2 c2), m7 ⟨a, i8 ha, c2⟩]
  ·rw [decide_eq_false (fun h => c2 (cmpL_eq.1 h)), w7]
   rintro ⟨b, hb, e⟩
   obtain ⟨k, k0, k1, hk⟩ := k9 hb
   have := uniq k b hk e
   subst this
   rw [hk] at ha; cases ha; exact c2 e
 ·rw [if_neg c]
  simp only [ob]
  rw [w7]
  rintro ⟨b, hb, e⟩
  obtain ⟨k, k0, k1, hk⟩ := k9 hb
  have := uniq k b hk e
  omega
theorem bsf_eq {A : Type} {key : A → List Int} {xs : List A} {t : List Int} {cmp : A → List Int → Option Int} (hs : Ord (xs.map key)) (hl : xs.length ≤ 500000) (hc : ∀ a, cmp a t = some (cmpL (key a) t)) :
  ∃ i, bsf xs t cmp = some (i, dec (∃ a ∈ xs, key a = t)) ∧ 0 ≤ i ∧ ∀ k a, ix xs k = some a → key a = t → k = i := by
 obtain ⟨i, h1, h2, h3, _⟩ := bsf_full hs hl hc
 exact ⟨i, h1, h2, h3⟩
theorem bsets_eq {xs : LL} {t : List Int} (hs : Ord xs) (hl : xs.length ≤ 500000) : ∃ i, l6 xs t slices_Compare_int_int = some (i, dec (t ∈ xs)) ∧ 0 ≤ i ∧ ∀ k, ix xs k = some t → k = i := by
 obtain ⟨i, h1, h2, h3⟩ := bsf_eq (key := fun a => a) (xs := xs) (t := t) (cmp := slices_Compare_int_int) (by simpa using hs) hl (fun a => X2 a t)
 refine ⟨i, ?_, h2, fun k hk => h3 k t hk rfl⟩
 have : l6 xs t slices_Compare_int_int = bsf xs t slices_Compare_int_int := rfl
 rw [this, h1]
 simp
/-! ### The order that the specification tells -/
theorem before_eq {a b : List Int} (ha : a.length ≤ 1000000) : H2 a b = some (dec (llt a b)) := by
 unfold H2
 obtain ⟨o, h1, h2⟩ := C4 (body := S3 a b) (fun k => 0 ≤ k ∧ k ≤ a.length ∧ k ≤ b.length ∧ a.take k.toNat = b.take k.toNat) (fun o => (match o with | .inl _ => some (decide ((a.length : Int) < (b.length : Int))) | .inr x => some x) = some (dec (llt a b))) (fun k => (a.length - k).toNat) (s := 0) ⟨by omega, by omega, by omega, by simp⟩ (fun k ⟨g0, g1, g2, g3⟩ => by
  have hd := ah5 (a := a) (b := b) k.toNat (by omega) (by omega) g3
  unfold S3
  by_cases c : k < a.length ∧ k < b.length
  ·rw [if_pos (by simpa using c)]
   obtain ⟨x, hx, gx⟩ := i5 (l := a) g0 c.1
   obtain ⟨y, hy, gy⟩ := i5 (l := b) g0 c.2
   have da : a.drop k.toNat = x :: a.drop (k.toNat + 1) := by
    obtain ⟨hlt, rfl⟩ := List.getElem?_eq_some_iff.1 gx
    exact List.drop_eq_getElem_cons hlt
   have db : b.drop k.toNat = y :: b.drop (k.toNat + 1) := by
    obtain ⟨hlt, rfl⟩ := List.getElem?_eq_some_iff.1 gy
    exact List.drop_eq_getElem_cons hlt
   rw [da, db] at hd
   simp only [hx, hy, ob]
   by_cases e : x = y
   ·subst e
    rw [if_pos rfl, s7 (by omega) (by omega)]
    refine .inl ⟨k + 1, rfl, ⟨by omega, by omega, by omega, ?_⟩, by omega⟩
    rw [show (k + 1).toNat = k.toNat + 1 by omega, List.take_add_one, List.take_add_one, gx, gy, g3]
   ·rw [if_neg e]
    refine .inr ⟨_, rfl, ?_⟩
    dsimp only
    rw [N1]
    refine congrArg some (B2 ?_)
    rw [hd]
    exact ⟨fun h => .inl h, fun h => h.resolve_right fun g => e g.1⟩
  ·rw [if_neg (by simpa using c)]
   refine .inr ⟨_, rfl, ?_⟩
   dsimp only
   rw [N1]
   refine congrArg some (B2 ?_)
   rw [hd]
   by_cases ca : k < a.length
   ·have db : b.drop k.toNat = [] := List.drop_of_length_le (by omega)
    rw [db]
    constructor
    ·intro h; omega
    ·intro h; cases h' : a.drop k.toNat with
     | nil => rw [h'] at h; exact h.elim
     | cons z l => rw [h'] at h; exact h.elim
   ·have da : a.drop k.toNat = [] := List.drop_of_length_le (by omega)
    rw [da]
    constructor
    ·intro h
     cases h' : b.drop k.toNat with
     | nil => have := List.drop_eq_nil_iff.1 h'; omega
     | cons z l => trivial
    ·intro h
     cases h' : b.drop k.toNat with
     | nil => rw [h'] at h; exact h.elim
     | cons z l =>
      have : ¬ b.length ≤ k.toNat := fun g => by rw [List.drop_of_length_le g] at h'; cases h'
      omega)
 rw [h1]
 simp only [ob]
 exact h2
theorem ord_append {l m : LL} (hl : Ord l) (hm : Ord m) (h : ∀ a ∈ l, ∀ b ∈ m, llt a b) : Ord (l ++ m) := List.pairwise_append.2 ⟨hl, hm, h⟩
theorem insert_eq {l : LL} (h : Ord l) (hl : l.length ≤ 1000000) (hw : ∀ x ∈ l, x.length ≤ 1000000) (s : List Int) : ∃ r, K9 l s = some r ∧ Ord r ∧ (∀ x, x ∈ r ↔ x = s ∨ x ∈ l) ∧ r.length ≤ l.length + 1 := by
 unfold K9
 obtain ⟨k, h1, k0, k1, k2, k3⟩ := C4 (body := R8 l s) (fun k => 0 ≤ k ∧ k ≤ l.length ∧ ∀ i a, i < k → ix l i = some a → llt a s) (fun k => 0 ≤ k ∧ k ≤ l.length ∧ (∀ i a, i < k → ix l i = some a → llt a s) ∧ ∀ a, ix l k = some a → ¬ llt a s) (fun k => (l.length - k).toNat) (s := 0) ⟨by omega, by omega, fun i a hi ha => by have := (j7 ha).1; omega⟩ (fun k ⟨g0, g1, g2⟩ => by
  unfold R8
  by_cases c : k < l.length
  ·obtain ⟨a, ha, ga⟩ := i5 (l := l) g0 c
   rw [if_pos c, ha]
   simp only [ob, before_eq (hw a (i8 ha))]
   by_cases c2 : llt a s
   ·rw [ifP c2, s7 (by omega) (by omega)]
    refine .inl ⟨_, rfl, ⟨by omega, by omega, fun i b hi hb => ?_⟩, by omega⟩
    by_cases e : i = k
    ·subst e; rw [ha] at hb; cases hb; exact c2
    ·exact g2 i b (by omega) hb
   ·rw [ifN c2]
    exact .inr ⟨k, rfl, g0, g1, g2, fun b hb => by rw [ha] at hb; cases hb; exact c2⟩
  ·rw [if_neg c]
   exact .inr ⟨k, rfl, g0, g1, g2, fun b hb => by have := (j7 hb).2.1; omega⟩)
 rw [h1]
 simp only [ob]
 have step : (Option.bind (if k < (l.length : Int) then Option.bind (ix l k) fun a27 => Option.bind (H1 a27 s) fun a30 => some a30 else some false) fun t9 => if t9 = true then some l else Option.bind (subL l 0 k) fun a36 => Option.bind (app 24 ([] : LL) a36) fun a37 => Option.bind (app 24 a37 [s]) fun a40 => Option.bind (subL l k (l.length : Int)) fun a43 => Option.bind (app 24 a40 a43) fun a44 => some a44) = if dec (ix l k = some s) = true then some l else some (l.take k.toNat ++ [s] ++ l.drop k.toNat) := by
  have e : (if k < (l.length : Int) then Option.bind (ix l k) fun a27 => Option.bind (H1 a27 s) fun a30 => some a30 else some false) = some (dec (ix l k = some s)) := by
   by_cases c : k < l.length
   ·obtain ⟨a, ha, ga⟩ := i5 (l := l) k0 c
    rw [if_pos c, ha]
    simp only [ob, ints_eq]
    exact congrArg some (B2 (by simp))
   ·rw [if_neg c, w7]
    intro h; have := (j7 h).2.1; omega
  rw [e]
  simp only [ob]
  by_cases c : ix l k = some s
  ·rw [ifP c, ifP c]
  ·rw [ifN c, ifN c, subL_take k0 (by omega), subL_drop k0 (by omega)]
   simp only [ob]
   rw [app, if_pos (by simp; omega)]
   simp only [ob, List.nil_append]
   rw [app, if_pos (by simp; omega)]
   simp only [ob]
   rw [app, if_pos (by simp; omega)]
   rfl
 rw [step]
 by_cases c : ix l k = some s
 ·rw [ifP c]
  exact ⟨l, rfl, h, fun x => ⟨.inr, fun g => g.elim (fun e => e ▸ i8 c) id⟩, by omega⟩
 ·rw [ifN c]
  refine ⟨_, rfl, ?_, fun x => ?_, by simp; omega⟩
  ·have ht : Ord (l.take k.toNat) := h.sublist (List.take_sublist _ _)
   have hd : Ord (l.drop k.toNat) := h.sublist (List.drop_sublist _ _)
   have b1 : ∀ a ∈ l.take k.toNat, llt a s := fun a ha => by
    obtain ⟨i, hi, e⟩ := List.mem_take_iff_getElem.1 ha
    exact k2 (i : Int) a (by omega) (by rw [Q1, ← e]; exact List.getElem?_eq_getElem _)
   have b2 : ∀ a ∈ l.drop k.toNat, llt s a := fun a ha => by
    obtain ⟨i, hi, e⟩ := List.mem_drop_iff_getElem.1 ha
    have hlk : k < l.length := by omega
    obtain ⟨z, hz, gz⟩ := i5 (l := l) k0 hlk
    have nz := k3 z hz
    have nz2 : llt s z := by
     rcases M5 z s with g | g | g
     ·exact absurd g nz
     ·exact absurd (g ▸ hz) c
     ·exact g
    by_cases i0 : i = 0
    ·subst i0
     obtain ⟨q1, q2⟩ := List.getElem?_eq_some_iff.1 gz
     have : a = z := by rw [← e, ← q2]; simp
     rw [this]; exact nz2
    ·refine B0 nz2 (h.get hz (j := k + i) ?_ (by omega))
     rw [show k + (i : Int) = ((k.toNat + i : Nat) : Int) by omega, Q1, ← e]
     exact List.getElem?_eq_getElem _
   refine ord_append (ord_append ht (by simp) fun a ha b hb => ?_) hd fun a ha b hb => ?_
   ·simp only [List.mem_singleton] at hb; subst hb; exact b1 a ha
   ·rcases List.mem_append.1 ha with ha | ha
    ·exact B0 (b1 a ha) (b2 b hb)
    ·simp only [List.mem_singleton] at ha; subst ha; exact b2 b hb
  ·rw [List.mem_append, List.mem_append, List.mem_singleton]
   have := List.take_append_drop k.toNat l
   constructor
   ·rintro ((g | g) | g)
    ·exact .inr (List.mem_of_mem_take g)
    ·exact .inl g
    ·exact .inr (List.mem_of_mem_drop g)
   ·rintro (g | g)
    ·exact .inl (.inr g)
    ·rw [← this] at g
     rcases List.mem_append.1 g with g | g
     ·exact .inl (.inl g)
     ·exact .inr g
end Ab
end
section
namespace Ab
open Go
def O8 (x : l4) (n : Int) : Prop := SetN x.add n ∧ SetN x.del n ∧ ∀ a ∈ x.add, a ∉ x.del
def xWt (x : l4) : Prop := 1 ≤ x.weight ∧ x.weight ≤ 6
noncomputable def O7 (n : Int) (x : l4) : Int := if dec (O8 x n) = true then if dec (xWt x) = true then 0 else 3 else 5
noncomputable def G1 (n : Int) : List l4 → Int
 | [] => 0
 | x :: l => if O7 n x = 0 then G1 n l else O7 n x
theorem xCode_zero {n : Int} {x : l4} : O7 n x = 0 ↔ O8 x n ∧ xWt x := by
 unfold O7
 by_cases c1 : O8 x n
 ·rw [ifP c1]
  by_cases c2 : xWt x
  ·rw [ifP c2]; exact ⟨fun _ => ⟨c1, c2⟩, fun _ => rfl⟩
  ·rw [ifN c2]; exact ⟨fun h => by omega, fun h => absurd h.2 c2⟩
 ·rw [ifN c1]; exact ⟨fun h => by omega, fun h => absurd h.1 c1⟩
theorem ae8 {n : Int} : ∀ {l : List l4}, G1 n l = 0 ↔ ∀ x ∈ l, O8 x n ∧ xWt x
 | [] => by simp [G1]
 | x :: l => by
  rw [G1]
  by_cases c : O7 n x = 0
  ·rw [if_pos c, ae8]; simp [xCode_zero.1 c]
  ·rw [if_neg c]
   exact ⟨fun h => absurd h c, fun h => absurd (xCode_zero.2 (h x (by simp))) c⟩
structure OOk (o : i6) (n : Int) : Prop where
 pre : SetN o.pre n
 c0 : 0 ≤ o.cost
 c1 : o.cost ≤ 100
 l0 : 1 ≤ o.outcomes.length
 l1 : o.outcomes.length ≤ 4
 xs : ∀ x ∈ o.outcomes, O8 x n ∧ xWt x
noncomputable def R9 (o : i6) (n : Int) : Int := if dec (SetN o.pre n) = true then if dec (0 ≤ o.cost ∧ o.cost ≤ 100) = true then if dec (1 ≤ (o.outcomes.length : Int) ∧ (o.outcomes.length : Int) ≤ 4) = true then 0 else 9 else 3 else 5
noncomputable def N0 (o : i6) (n : Int) : Int := if R9 o n = 0 then G1 n o.outcomes else R9 o n
theorem ag5 {o : i6} {n : Int} : R9 o n = 0 ↔ SetN o.pre n ∧ (0 ≤ o.cost ∧ o.cost ≤ 100) ∧ (1 ≤ (o.outcomes.length : Int) ∧ (o.outcomes.length : Int) ≤ 4) := by
 unfold R9
 by_cases c1 : SetN o.pre n
 ·rw [ifP c1]
  by_cases c2 : 0 ≤ o.cost ∧ o.cost ≤ 100
  ·rw [ifP c2]
   by_cases c3 : 1 ≤ (o.outcomes.length : Int) ∧ (o.outcomes.length : Int) ≤ 4
   ·rw [ifP c3]; exact ⟨fun _ => ⟨c1, c2, c3⟩, fun _ => rfl⟩
   ·rw [ifN c3]; exact ⟨fun h => by omega, fun h => absurd h.2.2 c3⟩
  ·rw [ifN c2]; exact ⟨fun h => by omega, fun h => absurd h.2.1 c2⟩
 ·rw [ifN c1]; exact ⟨fun h => by omega, fun h => absurd h.1 c1⟩
theorem oCode_of {o : i6} {n : Int} (h : OOk o n) : N0 o n = 0 := by
 have := h.l0; have := h.l1
 rw [N0, if_pos (ag5.2 ⟨h.pre, ⟨h.c0, h.c1⟩, by omega, by omega⟩), ae8]
 exact h.xs
theorem oCode_ok {o : i6} {n : Int} (h : N0 o n = 0) : OOk o n := by
 unfold N0 at h
 by_cases c : R9 o n = 0
 ·rw [if_pos c] at h
  obtain ⟨g1, g2, g3⟩ := ag5.1 c
  exact ⟨g1, g2.1, g2.2, by omega, by omega, ae8.1 h⟩
 ·rw [if_neg c] at h; exact absurd h c
theorem oc1 {o : i6} {n : Int} (h0 : 0 ≤ n) (h1 : n ≤ 24) {j : Int} {x : l4} (hx : ix o.outcomes j = some x) : C5 o n j () = some (if O7 n x = 0 then .inl () else .inr (O7 n x)) := by
 unfold C5
 rw [hx]
 simp only [ob, ag6, u3]
 by_cases g1 : SetN x.add n
 ·rw [ifNN g1]
  by_cases g2 : SetN x.del n
  ·have := g2.len
   rw [ifNN g2, meets_eq g2.1 (by omega)]
   simp only [ob]
   by_cases g3 : ∀ a ∈ x.add, a ∉ x.del
   ·have g : O8 x n := ⟨g1, g2, g3⟩
    rw [ifN (fun ⟨a, ha, hb⟩ => g3 a ha hb)]
    unfold O7
    rw [ifP g]
    by_cases g4 : xWt x
    ·have g5 := g4
     unfold xWt at g5
     rw [ifP g4, if_neg (by simp; omega)]; rfl
    ·have g5 := g4
     unfold xWt at g5
     rw [ifN g4, if_pos (by simp; omega)]; rfl
   ·have g : ¬ O8 x n := fun h => g3 h.2.2
    rw [ifP (by
     rw [Classical.not_forall] at g3
     obtain ⟨a, ha⟩ := g3
     exact ⟨a, Classical.not_imp.1 ha |>.1, Classical.not_not.1 (Classical.not_imp.1 ha).2⟩)]
    unfold O7
    rw [ifN g]; rfl
  ·have g : ¬ O8 x n := fun h => g2 h.2.1
   rw [ifP g2]
   unfold O7
   rw [ifN g]; rfl
 ·have g : ¬ O8 x n := fun h => g1 h.1
  rw [ifP g1]
  unfold O7
  rw [ifN g]; rfl
theorem operatorCode_eq {o : i6} {n : Int} (h0 : 0 ≤ n) (h1 : n ≤ 24) : G2 o n = some (N0 o n) := by
 unfold G2
 simp only [ag6, ob, u3]
 unfold N0 R9
 by_cases c1 : SetN o.pre n
 ·rw [ifNN c1, ifP c1]
  by_cases c2 : 0 ≤ o.cost ∧ o.cost ≤ 100
  ·rw [if_neg (show ¬ ((decide (o.cost < 0)) || (decide (100 < o.cost))) = true by rw [Bool.or_eq_true, decide_eq_true_eq, decide_eq_true_eq]; omega), ifP c2]
   by_cases c3 : 1 ≤ (o.outcomes.length : Int) ∧ (o.outcomes.length : Int) ≤ 4
   ·rw [if_neg (show ¬ ((decide ((o.outcomes.length : Int) = 0)) || (decide (4 < (o.outcomes.length : Int)))) = true by rw [Bool.or_eq_true, decide_eq_true_eq, decide_eq_true_eq]; omega), ifP c3, if_pos rfl]
    rcases U7 (body := C5 o n) (n := (o.outcomes.length : Int)) (fun j _ => G1 n o.outcomes = G1 n (o.outcomes.drop j.toNat)) (fun c => c = G1 n o.outcomes) (s := ()) (by omega) (by simp) (fun j _ j0 j1 hP => by
     obtain ⟨x, hx, gx⟩ := i5 (l := o.outcomes) j0 j1
     have hd : o.outcomes.drop j.toNat = x :: o.outcomes.drop (j.toNat + 1) := by
      obtain ⟨hlt, rfl⟩ := List.getElem?_eq_some_iff.1 gx
      exact List.drop_eq_getElem_cons hlt
     rw [oc1 h0 h1 hx]
     rw [hd, G1] at hP
     by_cases e : O7 n x = 0
     ·rw [if_pos e] at hP ⊢
      exact .inl ⟨(), rfl, by rw [hP, show (j + 1).toNat = j.toNat + 1 by omega]⟩
     ·rw [if_neg e] at hP ⊢
      exact .inr ⟨_, rfl, hP.symm⟩) with ⟨_, r1, r2⟩ | ⟨c, r1, rfl⟩
    ·rw [r1, r2]; simp [G1]
    ·rw [r1]; rfl
   ·rw [if_pos (show ((decide ((o.outcomes.length : Int) = 0)) || (decide (4 < (o.outcomes.length : Int)))) = true by rw [Bool.or_eq_true, decide_eq_true_eq, decide_eq_true_eq]; omega), ifN c3]; rfl
  ·rw [if_pos (show ((decide (o.cost < 0)) || (decide (100 < o.cost))) = true by rw [Bool.or_eq_true, decide_eq_true_eq, decide_eq_true_eq]; omega), ifN c2]; rfl
 ·rw [ifP c1, ifN c1]; rfl
theorem of2 {t : b9} {o : i6} (h0 : 0 ≤ t.facts) (h1 : t.facts ≤ 24) (hl : o.outcomes.length ≤ 1000000) (c : Int) : Loop (v7 t o) (c, 0) = some (if c = 0 then G1 t.facts o.outcomes else c) := by
 obtain ⟨r, r1, r2⟩ := C4 (body := v7 t o) (fun p => 0 ≤ p.2 ∧ p.2 ≤ o.outcomes.length ∧ (if c = 0 then G1 t.facts o.outcomes else c) = if p.1 = 0 then G1 t.facts (o.outcomes.drop p.2.toNat) else p.1) (fun r => r = if c = 0 then G1 t.facts o.outcomes else c) (fun p => (o.outcomes.length - p.2).toNat) (s := (c, 0)) ⟨by simp, by simp, by simp⟩ (fun ⟨e, j⟩ ⟨g0, g1, g2⟩ => by
  dsimp only at g0 g1 g2 ⊢
  unfold v7
  dsimp only
  by_cases cj : j < o.outcomes.length ∧ e = 0
  ·rw [if_pos (by simpa using cj)]
   obtain ⟨x, hx, gx⟩ := i5 (l := o.outcomes) g0 cj.1
   have hd : o.outcomes.drop j.toNat = x :: o.outcomes.drop (j.toNat + 1) := by
    obtain ⟨hlt, rfl⟩ := List.getElem?_eq_some_iff.1 gx
    exact List.drop_eq_getElem_cons hlt
   rw [cj.2, if_pos rfl, hd, G1] at g2
   rw [hx]
   simp only [ob, ae5 (n := t.facts) _ (show -9223372036854775808 < t.facts by omega) (show t.facts ≤ 9223372036854775807 by omega), disjoint_eq, in_eq, u3, cj.2]
   have hp : (if dec (¬ SetN x.add t.facts) = true then some true else if dec (¬ SetN x.del t.facts) = true then some true else some (dec (¬ ∀ a ∈ x.add, a ∉ x.del))) = some (dec (¬ O8 x t.facts)) := by
    unfold O8
    by_cases k1 : SetN x.add t.facts
    ·rw [ifNN k1]
     by_cases k2 : SetN x.del t.facts
     ·rw [ifNN k2]
      exact congrArg some (B2 ⟨fun h k => h k.2.2, fun h k => h ⟨k1, k2, k⟩⟩)
     ·rw [ifP k2, m7 (fun k => k2 k.2.1)]
    ·rw [ifP k1, m7 (fun k => k1 k.1)]
   rw [hp]
   simp only [ob]
   rw [s7 (by omega) (by omega)]
   have fin : (if dec (¬ O8 x t.facts) = true then some (5 : Int) else if dec (¬ (1 ≤ x.weight ∧ x.weight ≤ 6)) = true then some 3 else some 0) = some (O7 t.facts x) := by
    unfold O7
    by_cases k1 : O8 x t.facts
    ·rw [ifNN k1, ifP k1]
     by_cases k2 : xWt x
     ·rw [ifNN (p := 1 ≤ x.weight ∧ x.weight ≤ 6) k2, ifP k2]
     ·rw [ifP (p := ¬ (1 ≤ x.weight ∧ x.weight ≤ 6)) k2, ifN k2]
    ·rw [ifP k1, ifN k1]
   rw [fin]
   simp only [ob]
   refine .inl ⟨_, rfl, ⟨by dsimp only; omega, by dsimp only; omega, ?_⟩, by dsimp only; omega⟩
   dsimp only
   rw [g2, show (j + 1).toNat = j.toNat + 1 by omega]
  ·rw [if_neg (by simpa using cj)]
   refine .inr ⟨e, rfl, ?_⟩
   rw [g2]
   by_cases ce : e = 0
   ·rw [if_pos ce, List.drop_of_length_le (by omega), G1, ce]
   ·rw [if_neg ce])
 rw [r1, r2]
structure j6 (t : b9) : Prop where
 n0 : 0 ≤ t.facts
 n1 : t.facts ≤ 24
 init : SetN t.init t.facts
 goal : SetN t.goal t.facts
 ops : t.operators.length ≤ 40
 op : ∀ o ∈ t.operators, OOk o t.facts
theorem ac8 (t : b9) : ∃ f, D2 t = some f ∧ H3 t = some f ∧ ((f = ⟨0, 0⟩ ∧ j6 t) ∨ (f.code ≠ 0 ∧ ¬ j6 t)) := by
 unfold D2 H3
 simp only [in_eq, at_eq, ob, u3]
 by_cases c1 : 0 ≤ t.facts ∧ t.facts ≤ 24
 ·rw [if_neg (by simp; omega), ifNN c1]
  simp only [ag6, ae5 (n := t.facts) _ (show -9223372036854775808 < t.facts by omega) (show t.facts ≤ 9223372036854775807 by omega), ob, u3]
  by_cases c2 : SetN t.init t.facts
  ·rw [ifNN c2, ifNN c2]
   by_cases c3 : SetN t.goal t.facts
   ·rw [ifNN c3, ifNN c3]
    by_cases c4 : 40 < (t.operators.length : Int)
    ·rw [if_pos c4, if_pos c4]
     exact ⟨_, rfl, rfl, .inr ⟨by simp, fun h => by have := h.ops; omega⟩⟩
    ·rw [if_neg c4, if_neg c4]
     have hb : ∀ j : Int, 0 ≤ j → j < t.operators.length → ∃ o, ix t.operators j = some o ∧ H7 t j () = some (if N0 o t.facts = 0 then .inl () else .inr ⟨N0 o t.facts, j⟩) ∧ D0 t j () = some (if N0 o t.facts = 0 then .inl () else .inr ⟨N0 o t.facts, j⟩) := fun j h0 h1 => by
      obtain ⟨o, ho, _⟩ := i5 (l := t.operators) h0 h1
      refine ⟨o, ho, ?_, ?_⟩
      ·unfold H7
       rw [ho]
       simp only [ob, operatorCode_eq c1.1 c1.2]
       by_cases e : N0 o t.facts = 0
       ·rw [if_pos e, if_pos e]
       ·rw [if_neg e, if_neg e]
      ·unfold D0
       rw [ho]
       simp only [ob, ae5 (n := t.facts) _ (show -9223372036854775808 < t.facts by omega) (show t.facts ≤ 9223372036854775807 by omega), in_eq, at_eq, u3]
       have hp : (if dec (¬ SetN o.pre t.facts) = true then some (5 : Int) else if dec (¬ (0 ≤ o.cost ∧ o.cost ≤ 100)) = true then some 3 else if dec (¬ (1 ≤ (o.outcomes.length : Int) ∧ (o.outcomes.length : Int) ≤ 4)) = true then some 9 else some 0) = some (R9 o t.facts) := by
        unfold R9
        by_cases g1 : SetN o.pre t.facts
        ·rw [ifNN g1, ifP g1]
         by_cases g2 : 0 ≤ o.cost ∧ o.cost ≤ 100
         ·rw [ifNN g2, ifP g2]
          by_cases g3 : 1 ≤ (o.outcomes.length : Int) ∧ (o.outcomes.length : Int) ≤ 4
          ·rw [ifNN g3, ifP g3]
          ·rw [ifP g3, ifN g3]
         ·rw [ifP g2, ifN g2]
        ·rw [ifP g1, ifN g1]
       rw [hp]
       simp only [ob]
       by_cases eh : R9 o t.facts = 0
       ·have := ag5.1 eh
        rw [of2 c1.1 c1.2 (by omega), if_pos eh]
        simp only [ob, N0, eh, if_true]
        split <;> rfl
       ·have nl : Loop (v7 t o) (R9 o t.facts, 0) = some (R9 o t.facts) := by
         rw [F5]
         have : v7 t o (R9 o t.facts, 0) = some (.inr (R9 o t.facts)) := by
          unfold v7
          dsimp only
          rw [if_neg (by simp [eh])]
         rw [this]
        rw [nl]
        simp only [ob, N0, if_neg eh]
     have heq : rngX 0 (t.operators.length : Int) (H7 t) () = rngX 0 (t.operators.length : Int) (D0 t) () :=
      (rngX_eq (fun _ _ => True) (by omega) trivial (fun j s h0 h1 _ => by
       obtain ⟨o, _, e1, e2⟩ := hb j h0 h1
       exact ⟨by rw [e1, e2], by rw [e1]; simp, fun _ _ => trivial⟩)).1
     rcases y8 (body := D0 t) (n := (t.operators.length : Int)) (fun j => match ix t.operators j with | some o => if N0 o t.facts = 0 then none else some (⟨N0 o t.facts, j⟩ : k6) | none => none) (by omega) (fun j h0 h1 _ => by
      obtain ⟨o, e0, _, e2⟩ := hb j h0 h1
      rw [e2, e0]
      dsimp only
      split <;> rfl) with ⟨h1, h2⟩ | ⟨j, f, h0, h1, h2, _, h4⟩
     ·rw [heq, h1]
      refine ⟨⟨0, 0⟩, rfl, rfl, .inl ⟨rfl, c1.1, c1.2, c2, c3, by omega, fun o ho => ?_⟩⟩
      obtain ⟨j, g0, g1, g2⟩ := k9 ho
      have := h2 j g0 g1
      rw [g2] at this
      dsimp only at this
      split at this
      ·rename_i e; exact oCode_ok e
      ·cases this
     ·rw [heq, h4]
      obtain ⟨o, e0, _, _⟩ := hb j h0 h1
      rw [e0] at h2
      dsimp only at h2
      split at h2
      ·cases h2
      ·rename_i e
       cases h2
       exact ⟨_, rfl, rfl, .inr ⟨e, fun h => e (oCode_of (h.op o (i8 e0)))⟩⟩
   ·rw [ifP c3, ifP c3]
    exact ⟨_, rfl, rfl, .inr ⟨by simp, fun h => c3 h.goal⟩⟩
  ·rw [ifP c2, ifP c2]
   exact ⟨_, rfl, rfl, .inr ⟨by simp, fun h => c2 h.init⟩⟩
 ·rw [if_pos (by simp; omega), if_pos (m7 c1)]
  exact ⟨_, rfl, rfl, .inr ⟨by simp, fun h => c1 ⟨h.n0, h.n1⟩⟩⟩
end Ab
end
section
namespace Ab
open Go
def noOO : i6 := ⟨[], [], 0⟩
def ooAt (t : b9) (op : Int) : i6 := (t.operators[op.toNat]?).getD noOO
theorem ix_oo {t : b9} {op : Int} (h0 : 0 ≤ op) (h1 : op < t.operators.length) : ix t.operators op = some (ooAt t op) := by
 obtain ⟨a, h2, h3⟩ := i5 h0 h1
 rw [h2, ooAt, h3]; rfl
def oCan (t : b9) (s : List Int) (op : Int) : Prop := ∀ x ∈ (ooAt t op).pre, x ∈ s
noncomputable def efc (n : Int) (s : List Int) (x : l4) : List Int := L4 (fun p => p ∈ x.add ∨ p ∈ s ∧ p ∉ x.del) n
theorem ah6 (n : Int) (s : List Int) (x : l4) : SetN (efc n s x) n := setN_setOf _ _
theorem j6.at {t : b9} (h : j6 t) {op : Int} (h0 : 0 ≤ op) (h1 : op < t.operators.length) : OOk (ooAt t op) t.facts := h.op _ (i8 (ix_oo h0 h1))
theorem oCan_eq {t : b9} (ht : j6 t) {op : Int} (h0 : 0 ≤ op) (h1 : op < t.operators.length) {s : List Int} (hs : SetN s t.facts) : P9 t s op = some (dec (oCan t s op)) := by
 have := ht.n1; have := hs.len
 unfold P9
 rw [ix_oo h0 h1]
 simp only [ob]
 rw [L3 hs.1 (ht.at h0 h1).pre.1 (by omega)]
 rfl
theorem Y7 {t : b9} {op : Int} (h0 : 0 ≤ op) (h1 : op < t.operators.length) (s : List Int) : C9 t s op = some (dec (oCan t s op)) := by
 unfold C9
 rw [ix_oo h0 h1]
 simp only [ob, subset_eq]
 rfl
theorem effect_eq {t : b9} (ht : j6 t) (s : List Int) (x : l4) : O5 t s x = some (efc t.facts s x) := by
 have := ht.n1
 unfold O5
 rw [if_pos (by omega)]
 rw [forR_setOf (b := 8) (fun p => p ∈ x.add ∨ p ∈ s ∧ p ∉ x.del) ht.n0 (by omega) (fun j c g0 g1 => by
  unfold X6
  simp only [ob, has_eq, u3]
  have e : (if dec (j ∈ x.add) = true then some true else if dec (j ∈ s) = true then some (dec (j ∉ x.del)) else some false) = some (dec (j ∈ x.add ∨ j ∈ s ∧ j ∉ x.del)) := by
   by_cases c1 : j ∈ x.add
   ·rw [if_pos (m7 c1), m7 (.inl c1)]
   ·rw [if_neg (fun h => c1 (l7.1 h))]
    by_cases c2 : j ∈ s
    ·rw [if_pos (m7 c2)]
     exact congrArg some (B2 ⟨fun h => .inr ⟨c2, h⟩, fun h => (h.resolve_left c1).2⟩)
    ·rw [if_neg (fun h => c2 (l7.1 h)), w7 (fun h => c2 (h.resolve_left c1).1)]
  rw [e]
  simp only [ob]
  refine ⟨fun hq => ?_, fun hq => ?_⟩
  ·rw [if_pos (m7 hq)]
   cases app 8 c [j] <;> rfl
  ·rw [if_neg (fun h => hq (l7.1 h))]; rfl)]
 rfl
theorem oUpdate_eq {n : Int} (hn : n ≤ 24) {s : List Int} (hs : SetN s n) {x : l4} (hx : O8 x n) : G0 s x.add x.del = some (efc n s x) := by
 have := hx.2.1.len
 rw [update_eq (n := n) (by omega) hx.2.1.1 (by omega) hs hx.1]
 exact congrArg some (setOf_congr fun _ _ _ => Or.comm)
/-! ### Policies -/
theorem ord_of_adj : ∀ {l : LL}, (∀ (k : Nat) a b, l[k]? = some a → l[k + 1]? = some b → llt a b) → Ord l
 | [], _ => .nil
 | [_], _ => by simp
 | a :: b :: l, h => by
  have ih : Ord (b :: l) := ord_of_adj fun k x y h1 h2 => h (k + 1) x y (by simpa using h1) (by simpa using h2)
  have hab : llt a b := h 0 a b rfl rfl
  refine List.pairwise_cons.2 ⟨fun c hc => ?_, ih⟩
  rcases List.mem_cons.1 hc with rfl | hc
  ·exact hab
  ·exact B0 hab ((List.pairwise_cons.1 ih).1 c hc)
structure C3 (t : b9) (p : List d7) : Prop where
 len : p.length ≤ 200
 ord : Ord (p.map d7.state)
 set : ∀ c ∈ p, SetN c.state t.facts
 op : ∀ c ∈ p, 0 ≤ c.operator ∧ c.operator < t.operators.length
 can : ∀ c ∈ p, oCan t c.state c.operator
def pSet (t : b9) (p : List d7) (j : Int) (c : d7) : Prop := SetN c.state t.facts ∧ ∀ b, 0 < j → ix p (j - 1) = some b → llt b.state c.state
noncomputable def I5 (t : b9) (p : List d7) (j : Int) (c : d7) : Int := if dec (pSet t p j c) = true then if dec (0 ≤ c.operator ∧ c.operator < t.operators.length) = true then if dec (oCan t c.state c.operator) = true then 0 else 11 else 3 else 5
theorem pCode_zero {t : b9} {p : List d7} {j : Int} {c : d7} : I5 t p j c = 0 → pSet t p j c ∧ (0 ≤ c.operator ∧ c.operator < t.operators.length) ∧ oCan t c.state c.operator := by
 unfold I5
 by_cases c1 : pSet t p j c
 ·rw [ifP c1]
  by_cases c2 : 0 ≤ c.operator ∧ c.operator < t.operators.length
  ·rw [ifP c2]
   by_cases c3 : oCan t c.state c.operator
   ·rw [ifP c3]; exact fun _ => ⟨c1, c2, c3⟩
   ·rw [ifN c3]; exact fun h => by omega
  ·rw [ifN c2]; exact fun h => by omega
 ·rw [ifN c1]; exact fun h => by omega
theorem pCode_of {t : b9} {p : List d7} (hp : C3 t p) {j : Int} {c : d7} (hc : ix p j = some c) : I5 t p j c = 0 := by
 have hm := i8 hc
 unfold I5
 rw [ifP ⟨hp.set c hm, fun b _ hb => W4 hp.ord hb hc (by omega)⟩, ifP (hp.op c hm), ifP (hp.can c hm)]
theorem pol1 {t : b9} (ht : j6 t) {p : List d7} {j : Int} {c : d7} (hl : p.length ≤ 200) (hc : ix p j = some c) : z8 t p j () = some (if I5 t p j c = 0 then .inl () else .inr ⟨I5 t p j c, -9 - j⟩) := by
 obtain ⟨j0, j1, _⟩ := j7 hc
 have hn := ht.n1
 unfold z8
 rw [hc]
 simp only [ob, ag6, u3]
 have key : (if dec (¬ SetN c.state t.facts) = true then some true else if 0 < j then Option.bind (ix p (j - 1)) fun a40 => Option.bind (slices_Compare_int_int a40.state c.state) fun a45 => some (decide (0 ≤ a45)) else some false) = some (dec (¬ pSet t p j c)) := by
  by_cases g1 : SetN c.state t.facts
  ·rw [ifNN g1]
   by_cases g2 : 0 < j
   ·rw [if_pos g2]
    obtain ⟨b, hb, _⟩ := i5 (l := p) (i := j - 1) (by omega) (by omega)
    rw [hb]
    simp only [ob, X2, N1]
    refine congrArg some (B2 ?_)
    rw [cmpL_ge]
    exact ⟨fun h g => h (g.2 b g2 hb), fun h g => h ⟨g1, fun b' _ hb' => by rw [hb] at hb'; cases hb'; exact g⟩⟩
   ·rw [if_neg g2, w7]
    exact fun h => h ⟨g1, fun _ g => absurd g g2⟩
  ·rw [ifP g1, m7 (fun h => g1 h.1)]
 rw [key]
 simp only [ob]
 rw [s7 (by omega) (by omega)]
 unfold I5
 by_cases g1 : pSet t p j c
 ·rw [ifNN g1, ifP g1]
  by_cases g2 : 0 ≤ c.operator ∧ c.operator < t.operators.length
  ·rw [if_neg (show ¬ ((decide (c.operator < 0)) || (decide ((t.operators.length : Int) ≤ c.operator))) = true by rw [Bool.or_eq_true, decide_eq_true_eq, decide_eq_true_eq]; omega), ifP g2, oCan_eq ht g2.1 g2.2 g1.1]
   simp only [ob, u3]
   by_cases g3 : oCan t c.state c.operator
   ·rw [ifNN g3, ifP g3]; rfl
   ·rw [ifP g3, ifN g3]; rfl
  ·rw [if_pos (show ((decide (c.operator < 0)) || (decide ((t.operators.length : Int) ≤ c.operator))) = true by rw [Bool.or_eq_true, decide_eq_true_eq, decide_eq_true_eq]; omega), ifN g2]; rfl
 ·rw [ifP g1, ifN g1]; rfl
theorem pol2 {t : b9} (ht : j6 t) {p : List d7} {j : Int} {c : d7} (hl : p.length ≤ 200) (hw : 0 < j → ∀ b, ix p (j - 1) = some b → b.state.length ≤ 1000000) (hc : ix p j = some c) : D9 t p j () = some (if I5 t p j c = 0 then .inl () else .inr ⟨I5 t p j c, -9 - j⟩) := by
 obtain ⟨j0, j1, _⟩ := j7 hc
 have hn := ht.n1; have hn0 := ht.n0; have ho := ht.ops
 unfold D9
 rw [hc]
 simp only [ob, ae5 (n := t.facts) _ (show -9223372036854775808 < t.facts by omega) (show t.facts ≤ 9223372036854775807 by omega), in_eq, at_eq, u3]
 have key : (if dec (¬ SetN c.state t.facts) = true then some true else if 0 < j then Option.bind (ix p (j - 1)) fun a39 => Option.bind (H2 a39.state c.state) fun a47 => some (!a47) else some false) = some (dec (¬ pSet t p j c)) := by
  by_cases g1 : SetN c.state t.facts
  ·rw [ifNN g1]
   by_cases g2 : 0 < j
   ·rw [if_pos g2]
    obtain ⟨b, hb, _⟩ := i5 (l := p) (i := j - 1) (by omega) (by omega)
    rw [hb]
    simp only [ob, before_eq (hw g2 b hb), u3]
    refine congrArg some (B2 ?_)
    exact ⟨fun h g => h (g.2 b g2 hb), fun h g => h ⟨g1, fun b' _ hb' => by rw [hb] at hb'; cases hb'; exact g⟩⟩
   ·rw [if_neg g2, w7]
    exact fun h => h ⟨g1, fun _ g => absurd g g2⟩
  ·rw [ifP g1, m7 (fun h => g1 h.1)]
 rw [key]
 simp only [ob]
 rw [s7 (n := -9 - j) (by omega) (by omega), s7 (n := (t.operators.length : Int) - 1) (by omega) (by omega)]
 unfold I5
 by_cases g1 : pSet t p j c
 ·rw [ifNN g1, ifP g1]
  by_cases g2 : 0 ≤ c.operator ∧ c.operator < t.operators.length
  ·rw [ifN (show ¬ ¬ (0 ≤ c.operator ∧ c.operator ≤ (t.operators.length : Int) - 1) by omega), ifP g2, Y7 g2.1 g2.2]
   simp only [ob, u3]
   by_cases g3 : oCan t c.state c.operator
   ·rw [ifNN g3, ifP g3]; rfl
   ·rw [ifP g3, ifN g3]; rfl
  ·rw [ifP (show ¬ (0 ≤ c.operator ∧ c.operator ≤ (t.operators.length : Int) - 1) by omega), ifN g2]; rfl
 ·rw [ifP g1, ifN g1]; rfl
theorem policy_eq (t : b9) (p : List d7) : ∃ f, E0 t p = some f ∧ ad1 t p = some f ∧ ((f = ⟨0, 0⟩ ∧ j6 t ∧ C3 t p) ∨ (f.code ≠ 0 ∧ ¬ (j6 t ∧ C3 t p))) := by
 obtain ⟨f, h1, h2, h3⟩ := ac8 t
 unfold E0 ad1
 rw [h1, h2]
 simp only [ob]
 rcases h3 with ⟨rfl, ht⟩ | ⟨hc, hnt⟩
 ·rw [if_neg (by simp), if_pos rfl]
  by_cases c1 : 200 < (p.length : Int)
  ·rw [if_pos c1, if_pos c1, at_eq]
   exact ⟨_, rfl, rfl, .inr ⟨by simp, fun h => by have := h.2.len; omega⟩⟩
  ·rw [if_neg c1, if_neg c1]
   have hn := ht.n1
   have hset : ∀ j : Int, (∀ i, 0 ≤ i → i < j → (match ix p i with | some c => if I5 t p i c = 0 then none else some (⟨I5 t p i c, -9 - i⟩ : k6) | none => none) = none) → 0 < j → ∀ b, ix p (j - 1) = some b → b.state.length ≤ 1000000 := fun j hj j0 b hb => by
    have := hj (j - 1) (by omega) (by omega)
    rw [hb] at this
    dsimp only at this
    split at this
    ·rename_i e
     have := (pCode_zero e).1.1.len
     omega
    ·cases this
   rcases y8 (body := z8 t p) (n := (p.length : Int)) (fun j => match ix p j with | some c => if I5 t p j c = 0 then none else some (⟨I5 t p j c, -9 - j⟩ : k6) | none => none) (by omega) (fun j h0 h1 _ => by
    obtain ⟨c, e0, _⟩ := i5 (l := p) h0 h1
    rw [pol1 ht (by omega) e0, e0]
    dsimp only
    split <;> rfl) with ⟨a1, a2⟩ | ⟨j, f, a0, a1, a2, a3, a4⟩
   ·rcases y8 (body := D9 t p) (n := (p.length : Int)) (fun j => match ix p j with | some c => if I5 t p j c = 0 then none else some (⟨I5 t p j c, -9 - j⟩ : k6) | none => none) (by omega) (fun j h0 h1 hj => by
     obtain ⟨c, e0, _⟩ := i5 (l := p) h0 h1
     rw [pol2 ht (by omega) (hset j hj) e0, e0]
     dsimp only
     split <;> rfl) with ⟨b1, b2⟩ | ⟨j', f', b0, b1, b2, b3, b4⟩
    ·rw [a1, b1]
     have all : ∀ j c, ix p j = some c → pSet t p j c ∧ (0 ≤ c.operator ∧ c.operator < t.operators.length) ∧ oCan t c.state c.operator := fun j c hc => by
      have := a2 j (j7 hc).1 (j7 hc).2.1
      rw [hc] at this
      dsimp only at this
      split at this
      ·rename_i e; exact pCode_zero e
      ·cases this
     have all' : ∀ c ∈ p, SetN c.state t.facts ∧ (0 ≤ c.operator ∧ c.operator < t.operators.length) ∧ oCan t c.state c.operator := fun c hc => by
      obtain ⟨j, _, _, hj⟩ := k9 hc
      obtain ⟨g1, g2, g3⟩ := all j c hj
      exact ⟨g1.1, g2, g3⟩
     refine ⟨_, rfl, rfl, .inl ⟨rfl, ht, by omega, ord_of_adj fun k a b ha hb => ?_, fun c hc => (all' c hc).1, fun c hc => (all' c hc).2.1, fun c hc => (all' c hc).2.2⟩⟩
     rw [List.getElem?_map] at ha hb
     cases ha' : p[k]? with
     | none => rw [ha'] at ha; cases ha
     | some a' =>
      cases hb' : p[k + 1]? with
      | none => rw [hb'] at hb; cases hb
      | some b' =>
       rw [ha'] at ha; rw [hb'] at hb; cases ha; cases hb
       refine (all ((k + 1 : Nat) : Int) b' (by rw [Q1, hb'])).1.2 a' (by omega) ?_
       rw [show ((k + 1 : Nat) : Int) - 1 = (k : Nat) by omega, Q1, ha']
    ·rw [a2 j' b0 b1] at b2; cases b2
   ·rcases y8 (body := D9 t p) (n := (p.length : Int)) (fun j => match ix p j with | some c => if I5 t p j c = 0 then none else some (⟨I5 t p j c, -9 - j⟩ : k6) | none => none) (by omega) (fun j h0 h1 hj => by
     obtain ⟨c, e0, _⟩ := i5 (l := p) h0 h1
     rw [pol2 ht (by omega) (hset j hj) e0, e0]
     dsimp only
     split <;> rfl) with ⟨b1, b2⟩ | ⟨j', f', b0, b1, b2, b3, b4⟩
    ·rw [b2 j a0 a1] at a2; cases a2
    ·have ej : j = j' := by
      rcases Int.lt_trichotomy j j' with h | h | h
      ·rw [b3 j a0 h] at a2; cases a2
      ·exact h
      ·rw [a3 j' b0 h] at b2; cases b2
     subst ej
     rw [a2] at b2
     cases b2
     rw [a4, b4]
     refine ⟨_, rfl, rfl, .inr ?_⟩
     obtain ⟨c, e0, _⟩ := i5 (l := p) a0 a1
     rw [e0] at a2
     dsimp only at a2
     split at a2
     ·cases a2
     ·rename_i e; cases a2; exact ⟨e, fun h => e (pCode_of h.2 e0)⟩
 ·rw [if_pos (fault_no hc), if_neg hc]
  exact ⟨f, rfl, rfl, .inr ⟨hc, fun h => hnt h.1⟩⟩
/-! ### What a policy chooses -/
theorem X0 (p : List d7) (s : List Int) : ∃ r, F1 p s = some r ∧ ((r = -1 ∧ ∀ c ∈ p, c.state ≠ s) ∨ ∃ c, c ∈ p ∧ c.state = s ∧ r = c.operator) := by
 unfold F1
 rcases y8 (body := R2 p s) (n := (p.length : Int)) (fun j => match ix p j with | some c => if dec (c.state = s) = true then some c.operator else none | none => none) (by omega) (fun j h0 h1 _ => by
  obtain ⟨x, hx, _⟩ := i5 (l := p) h0 h1
  unfold R2
  simp only [hx, ob, ints_eq]
  by_cases e : x.state = s
  ·rw [ifP e, ifP e]
  ·rw [ifN e, ifN e]) with ⟨h1, h2⟩ | ⟨j, o, h0, h1, h2, h3, h4⟩
 ·rw [h1]
  refine ⟨-1, rfl, .inl ⟨rfl, fun c hc he => ?_⟩⟩
  obtain ⟨i, i0, i1, hi⟩ := k9 hc
  have := h2 i i0 i1
  rw [hi] at this
  dsimp only at this
  rw [ifP he] at this
  cases this
 ·rw [h4]
  obtain ⟨c, hc, _⟩ := i5 (l := p) h0 h1
  rw [hc] at h2
  dsimp only at h2
  split at h2
  ·rename_i e
   cases h2
   exact ⟨_, rfl, .inr ⟨c, i8 hc, l7.1 e, rfl⟩⟩
  ·cases h2
theorem chosen_eq {t : b9} {p : List d7} (hp : C3 t p) (s : List Int) : ∃ r, E7 p s = some r ∧ F1 p s = some r ∧ (r = -1 ∨ (0 ≤ r ∧ r < t.operators.length ∧ oCan t s r)) := by
 obtain ⟨r, h1, h2⟩ := X0 p s
 refine ⟨r, ?_, h1, ?_⟩
 ·unfold E7
  obtain ⟨i, g1, g2, g3⟩ := bsf_eq (key := d7.state) (xs := p) (t := s) (cmp := open_Chosen_1) hp.ord (by have := hp.len; omega) (fun a => by unfold open_Chosen_1; rw [X2]; rfl)
  have : i7 p s open_Chosen_1 = bsf p s open_Chosen_1 := rfl
  rw [this, g1]
  simp only [ob, u3]
  rcases h2 with ⟨rfl, h⟩ | ⟨c, hc, he, rfl⟩
  ·rw [ifP]
   rintro ⟨a, ha, e⟩; exact h a ha e
  ·rw [ifNN ⟨c, hc, he⟩]
   obtain ⟨k, _, _, hk⟩ := k9 hc
   have := g3 k c hk he
   subst this
   rw [hk]; rfl
 ·rcases h2 with ⟨rfl, h⟩ | ⟨c, hc, he, rfl⟩
  ·exact .inl rfl
  ·have := hp.op c hc
   exact .inr ⟨this.1, this.2, he ▸ hp.can c hc⟩
end Ab
end
section
namespace Ab
open Go
theorem ix_map {α β : Type} {f : α → β} {l : List α} {i : Int} : ix (l.map f) i = (ix l i).map f := by
 simp only [ix]
 split
 ·rw [List.getElem?_map]
 ·rfl
theorem Ord.one {l m : LL} (hl : Ord l) (hm : Ord m) {p : List Int → Prop} (h1 : ∀ y, y ∈ l ↔ p y) (h2 : ∀ y, y ∈ m ↔ p y) : l = m := Ord.ext hl hm fun y => (h1 y).trans (h2 y).symm
theorem cloneLL_eq {s : LL} (h : s.length ≤ 1000000) : A9 s = some s := by
 rw [A9, app, if_pos (by simp; omega)]; rfl
theorem results1 {t : b9} {o : i6} (ho : OOk o t.facts) (hn : t.facts ≤ 24) {s : List Int} (hs : SetN s t.facts) : forR 0 (o.outcomes.length : Int) (K1 s o) [] = some (o.outcomes.map (efc t.facts s)) := by
 have hl := ho.l1
 obtain ⟨c, h1, h2⟩ := o9 (body := K1 s o) (n := (o.outcomes.length : Int)) (s := []) (fun j c => c = (o.outcomes.take j.toNat).map (efc t.facts s)) (by omega) (by simp) (fun j c j0 j1 hP => by
  obtain ⟨x, hx, gx⟩ := i5 (l := o.outcomes) j0 j1
  unfold K1
  rw [hx]
  simp only [ob]
  rw [oUpdate_eq hn hs (ho.xs x (i8 hx)).1]
  simp only [ob]
  have hlen : c.length ≤ 4 := by rw [hP, List.length_map, List.length_take]; omega
  rw [app, if_pos (by simp; omega)]
  refine ⟨_, rfl, ?_⟩
  rw [show (j + 1).toNat = j.toNat + 1 by omega, List.take_add_one, gx, hP, List.map_append]; rfl)
 rw [h1, h2]
 simp
theorem E5 {t : b9} (ht : j6 t) {op : Int} (h0 : 0 ≤ op) (h1 : op < t.operators.length) {s : List Int} (hs : SetN s t.facts) : ∃ st w, z7 t s op = some (st, w) ∧ Ord st ∧ (∀ y, y ∈ st ↔ ∃ x ∈ (ooAt t op).outcomes, efc t.facts s x = y) ∧ st.length ≤ 4 ∧ w.length = st.length ∧ forR 0 ((ooAt t op).outcomes.length : Int) (F9 ((ooAt t op).outcomes.map (efc t.facts s)) st (ooAt t op)) (List.replicate st.length 0) = some w := by
 have ho := ht.at h0 h1
 have hl := ho.l1
 unfold z7
 rw [ix_oo h0 h1]
 simp only [ob]
 rw [results1 ho ht.n1 hs]
 simp only [ob]
 rw [cloneLL_eq (by simp; omega)]
 simp only [ob]
 obtain ⟨st, n1, n2, n3, n4⟩ := ae3 (l := (ooAt t op).outcomes.map (efc t.facts s)) (by simp; omega)
 have n4' : st.length ≤ 4 := by rw [List.length_map] at n4; omega
 have hm : mkL 8 (st.length : Int) (0 : Int) = some (List.replicate st.length 0) := by
  rw [mkL, if_pos (by omega)]; simp
 obtain ⟨w, w1, w2⟩ := o9 (body := F9 ((ooAt t op).outcomes.map (efc t.facts s)) st (ooAt t op)) (n := ((ooAt t op).outcomes.length : Int)) (s := List.replicate st.length 0) (fun j c => c.length = st.length) (by omega) (by simp) (fun j c j0 j1 hP => by
  obtain ⟨x, hx, gx⟩ := i5 (l := (ooAt t op).outcomes) j0 j1
  have hmem : efc t.facts s x ∈ st := (n3 _).2 (List.mem_map.2 ⟨x, i8 hx, rfl⟩)
  obtain ⟨i, e1, e2, e3⟩ := bsets_eq (t := efc t.facts s x) n2 (by omega)
  obtain ⟨k, k0, k1, hk⟩ := k9 hmem
  have := e3 k hk
  subst this
  obtain ⟨z, hz, gz⟩ := i5 (l := c) (i := k) k0 (by omega)
  unfold F9
  rw [hx, ix_map, hx]
  simp only [ob, Option.map_some, e1, hz]
  exact ⟨_, rfl, by rw [List.length_set]; exact hP⟩)
 rw [n1]
 simp only [ob, hm, w1]
 exact ⟨st, w, rfl, n2, fun y => by rw [n3, List.mem_map], n4', w2, w1⟩
/-! ### The coin -/
end Ab
end
section
namespace Ab
open Go
noncomputable def chO (p : List d7) (s : List Int) : Int := (F1 p s).getD (-1)
theorem rChosen_chO (p : List d7) (s : List Int) : F1 p s = some (chO p s) := by
 obtain ⟨r, h, _⟩ := X0 p s
 rw [chO, h]; rfl
theorem V8 {t : b9} {p : List d7} (hp : C3 t p) (s : List Int) : E7 p s = some (chO p s) ∧ (chO p s = -1 ∨ (0 ≤ chO p s ∧ chO p s < t.operators.length ∧ oCan t s (chO p s))) := by
 obtain ⟨r, h1, h2, h3⟩ := chosen_eq hp s
 have : chO p s = r := by rw [chO, h2]; rfl
 rw [this]
 exact ⟨h1, h3⟩
theorem ifOr {a b : Prop} : (if dec a = true then some true else some (dec b)) = some (dec (a ∨ b)) := by
 by_cases h : a
 ·rw [ifP h, m7 (.inl h)]
 ·rw [ifN h]; exact congrArg some (B2 ⟨.inr, fun g => g.resolve_left h⟩)
end Ab
end
section
namespace Ab
open Go
end Ab
end
section
namespace Ab
open Go
def dg (x : Int) : List Int := if x < 10 then [48 + x] else [48 + x / 10, 48 + x % 10]
def encS (s : List Int) : List Int := s.flatMap (fun x => dg x ++ [44]) ++ [59]
def encK (l : LL) : List Int := l.flatMap encS
def small (s : List Int) : Prop := ∀ x ∈ s, 0 ≤ x ∧ x < 100
theorem dg_split {x y : Int} (hx : 0 ≤ x ∧ x < 100) (hy : 0 ≤ y ∧ y < 100) {r r' : List Int} (h : dg x ++ 44 :: r = dg y ++ 44 :: r') : x = y ∧ r = r' := by
 unfold dg at h
 split at h <;> split at h <;> simp only [List.cons_append, List.nil_append, List.cons.injEq] at h
 ·exact ⟨by omega, h.2.2⟩
 ·exfalso; omega
 ·exfalso; omega
 ·exact ⟨by omega, h.2.2.2⟩
theorem dg_head {x : Int} (hx : 0 ≤ x ∧ x < 100) : ∃ a l, dg x = a :: l ∧ 48 ≤ a ∧ a < 58 := by
 unfold dg
 split
 ·exact ⟨_, _, rfl, by omega, by omega⟩
 ·exact ⟨_, _, rfl, by omega, by omega⟩
theorem Y9 (x : Int) (s : List Int) : encS (x :: s) = dg x ++ 44 :: encS s := by simp [encS]
theorem encS_inj : ∀ {s s' r r' : List Int}, small s → small s' → encS s ++ r = encS s' ++ r' → s = s' ∧ r = r'
 | [], [], r, r', _, _, h => by simp [encS] at h; exact ⟨rfl, h⟩
 | [], y :: s', r, r', _, h2, h => by
  obtain ⟨a, l, ha, h3, h4⟩ := dg_head (h2 y (by simp))
  rw [Y9, ha] at h
  simp only [encS, List.flatMap_nil, List.nil_append, List.cons_append, List.cons.injEq] at h
  omega
 | x :: s, [], r, r', h1, _, h => by
  obtain ⟨a, l, ha, h3, h4⟩ := dg_head (h1 x (by simp))
  rw [Y9, ha] at h
  simp only [encS, List.flatMap_nil, List.nil_append, List.cons_append, List.cons.injEq] at h
  omega
 | x :: s, y :: s', r, r', h1, h2, h => by
  rw [Y9, Y9, List.append_assoc, List.append_assoc, List.cons_append, List.cons_append] at h
  obtain ⟨rfl, g⟩ := dg_split (h1 x (by simp)) (h2 y (by simp)) h
  obtain ⟨e1, e2⟩ := encS_inj (s := s) (s' := s') (fun z hz => h1 z (List.mem_cons_of_mem _ hz)) (fun z hz => h2 z (List.mem_cons_of_mem _ hz)) g
  exact ⟨by rw [e1], e2⟩
theorem encK_inj : ∀ {l l' : LL}, (∀ s ∈ l, small s) → (∀ s ∈ l', small s) → encK l = encK l' → l = l'
 | [], [], _, _, _ => rfl
 | [], s :: l', _, _, h => by
  have h := congrArg List.length h
  simp only [encK, encS, List.flatMap_nil, List.flatMap_cons, List.length_append, List.length_nil, List.length_cons] at h
  omega
 | s :: l, [], _, _, h => by
  have h := congrArg List.length h
  simp only [encK, encS, List.flatMap_nil, List.flatMap_cons, List.length_append, List.length_nil, List.length_cons] at h
  omega
 | s :: l, s' :: l', h1, h2, h => by
  have h : encS s ++ encK l = encS s' ++ encK l' := h
  obtain ⟨e1, e2⟩ := encS_inj (h1 s (List.mem_cons_self ..)) (h2 s' (List.mem_cons_self ..)) h
  have e3 := encK_inj (l := l) (l' := l') (fun z hz => h1 z (List.mem_cons_of_mem _ hz)) (fun z hz => h2 z (List.mem_cons_of_mem _ hz)) e2
  rw [e1, e3]
theorem dg_byte {x : Int} (hx : 0 ≤ x ∧ x < 100) : ∀ a ∈ dg x, 0 ≤ a ∧ a < 256 := by
 intro a ha
 unfold dg at ha
 split at ha <;> simp at ha <;> omega
theorem encS_byte {s : List Int} (h : small s) : ∀ a ∈ encS s, 0 ≤ a ∧ a < 256 := by
 intro a ha
 simp only [encS, List.mem_append, List.mem_flatMap, List.mem_singleton] at ha
 rcases ha with ⟨x, hx, h1 | h1⟩ | h1
 ·exact dg_byte (h x hx) a h1
 ·omega
 ·omega
theorem encK_byte {l : LL} (h : ∀ s ∈ l, small s) : ∀ a ∈ encK l, 0 ≤ a ∧ a < 256 := by
 intro a ha
 simp only [encK, List.mem_flatMap] at ha
 obtain ⟨s, hs, h1⟩ := ha
 exact encS_byte (h s hs) a h1
theorem strB_inj {l l' : List Int} (h1 : ∀ a ∈ l, 0 ≤ a ∧ a < 256) (h2 : ∀ a ∈ l', 0 ≤ a ∧ a < 256) (h : strB l = strB l') : l = l' := by
 have h3 : l.map (fun n => UInt8.ofNat n.toNat) = l'.map (fun n => UInt8.ofNat n.toNat) := by
  have := congrArg ByteArray.data h
  simpa [strB] using this
 have back : ∀ {m : List Int}, (∀ a ∈ m, 0 ≤ a ∧ a < 256) → (m.map (fun n => UInt8.ofNat n.toNat)).map (fun b => (b.toNat : Int)) = m := by
  intro m hm
  rw [List.map_map]
  conv => rhs; rw [← List.map_id m]
  apply List.map_congr_left
  intro a ha
  have := hm a ha
  simp only [Function.comp_apply, id_eq, UInt8.toNat_ofNat']
  omega
 rw [← back h1, ← back h2, h3]
def keyK (l : LL) : ByteArray := strB (encK l)
theorem keyK_inj {l l' : LL} (h1 : ∀ s ∈ l, small s) (h2 : ∀ s ∈ l', small s) (h : keyK l = keyK l') : l = l' := encK_inj h1 h2 (strB_inj (encK_byte h1) (encK_byte h2) h)
/-! ### Maps -/
theorem aa2 {K V : Type} [DecidableEq K] (k k' : K) (v : V) : ∀ m : List (K × V), mget (mset m k v) k' = if k' = k then some v else mget m k'
 | [] => by
  simp only [mset, mget]
 | p :: r => by
  simp only [mset]
  by_cases h : k = p.1
  ·rw [if_pos h]
   simp only [mget]
   by_cases h2 : k' = k
   ·rw [if_pos h2, if_pos h2]
   ·rw [if_neg h2, if_neg h2, if_neg (by rw [← h]; exact h2)]
  ·rw [if_neg h]
   simp only [mget]
   rw [aa2 k k' v r]
   by_cases h2 : k' = p.1
   ·rw [if_pos h2, if_pos h2, if_neg (fun e => h (e.symm.trans h2))]
   ·rw [if_neg h2, if_neg h2]
end Ab
end
