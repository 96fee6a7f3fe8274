/-
  Texts that the proof stands on.
-/
import Derived.Test.YtbffiagfngopaaaGreatDoorKRwStrongSpec3
set_option linter.all false
section
namespace Ab
open Go Go.Proofs
set_option maxHeartbeats 4000000
set_option linter.all false
attribute [local irreducible] AWP AOps thn inB Done d9 m5 Sub
abbrev tO (v : b9) : List C := [int v.facts, row 1 intI v.init, row 1 intI v.goal, row 3 m9 v.operators]
theorem p9 {l : List Int} {nv : Int} {r : Bool} (h : A0 l nv = some r) : d9 Tryz.prog 79 [.c (row 1 intI l), .c (int nv)] (.c (bool r)) := by
 unfold d9
 refine FnOk.enter (rs := [.t 4]) Tryz.func79 Z Tryz.ntmps79 Tryz.results79 Z ⟨trivial, Y⟩ (by kernel_rfl) Z ?_
 unfold A0 at h
 refine AWP.d (.f (.e Z Z (.nil (b5 (.d (.d (.f (.a Z Z (S.len Z Z (fun hl8 => .a Z Z (.nil (b5 (.l ?_)))))))))))))
 obtain ⟨oo, ho1, h⟩ := b7 h
 refine AWP.rngS ho1 (fun t3 _ => ⟨[(0, .c (row 1 intI l)), (1, .c (int nv)), (7, .c (row 1 intI l)), (8, .c (int (l.length : Int))), (9, .c (int t3))], []⟩) (fun o e st => match o with | .inl _ => e = .exit 0 ∧ Sub [] st ⟨[], []⟩ | .inr x => e = .ret ∧ Done [.t 4] (fun t _ => t = .c (bool x)) .ret st) ?_ ?_ ?_ ?_
 ·try dsimp only
  exact Sub.env ⟨Z, Z, Z, Z, Z, Y⟩
 ·intro t3 s hlot3 hltt3 _
  try dsimp only
  refine AWP.d (.f (.j Z Z Z (.nil (b5 (.d (.q Z hltt3 (.exit (d6 (d6 ⟨Z, ?_⟩)))))))))
  exact Sub.env trivial
 ·intro t3 s o hlot3 hltt3 h
  unfold P4 at h
  try dsimp only at h ⊢
  refine AWP.d (.f (.j Z Z Z (.nil (b5 (.d (.r Z hltt3 (.skip (b5 (.d (.l (.d ?_)))))))))))
  obtain ⟨a12, ha12, h⟩ := b7 h
  refine AWP.f (.a Z Z (S.idx ha12 Z Z Z Z (.p Z Z Z Z (.e Z Z (.e Z Z (.nil (b5 ?_)))))))
  obtain ⟨t4, hx5, h⟩ := b7 h
  refine AWP.seqJ (⟨[(0, .c (row 1 intI l)), (1, .c (int nv)), (7, .c (row 1 intI l)), (8, .c (int (l.length : Int))), (9, .c (int t3)), (33, .c (bool t4))], []⟩) ?_ ?_
  ·rcases bft (decide (a12 < 0)) with hb6 | hb6
   ·replace hx5 := B4 hb6 hx5
    refine AWP.f (.a Z Z (.j Z Z Z (.a Z Z (.i Z Z Z hb6 (.i Z Z Z hb6 (.i Z Z Z hb6 (.o Z hb6 Z Z (.a Z Z (.i Z Z Z Z (.i Z Z Z Z (.i Z Z Z Z (.x Z Z Z (.x Z Z Z (.x Z Z Z (.x Z Z Z (.x Z Z Z (.x Z Z Z (.x Z Z Z (.i Z Z Z Z (.o Z Z Z Z (.nil ?_)))))))))))))))))))))
    obtain rfl := oi hx5
    refine b5 (Sub.env ⟨Z, Z, Z, Z, Z, Z, Y⟩)
   ·replace hx5 := B5 hb6 hx5
    rcases bft (decide (nv ≤ a12)) with hb7 | hb7
    ·replace hx5 := B4 hb7 hx5
     refine AWP.f (.a Z Z (.j Z Z Z (.a Z Z (.g Z Z Z hb6 (.a Z Z (.g Z Z Z hb6 (.a Z Z (.g Z Z Z hb6 (.geq Z Z Z (.n Z hb6 Z Z (.a Z Z (.i Z Z Z hb7 (.i Z Z Z hb7 (.i Z Z Z hb7 (.x Z Z Z (.x Z Z Z (.x Z Z Z (.x Z Z Z (.x Z Z Z (.x Z Z Z (.x Z Z Z (.i Z Z Z hb7 (.o Z hb7 Z Z (.nil ?_))))))))))))))))))))))))
     obtain rfl := oi hx5
     refine b5 (Sub.env ⟨Z, Z, Z, Z, Z, Z, Y⟩)
    ·replace hx5 := B5 hb7 hx5
     rcases bft (decide (0 < t3)) with hb8 | hb8
     ·replace hx5 := B4 hb8 hx5
      obtain ⟨a29, ha29, hx5⟩ := b7 hx5
      refine AWP.f (.a Z Z (.j Z Z Z (.a Z Z (.g Z Z Z hb6 (.a Z Z (.g Z Z Z hb6 (.a Z Z (.g Z Z Z hb6 (.geq Z Z Z (.n Z hb6 Z Z (.a Z Z (.g Z Z Z hb7 (.a Z Z (.g Z Z Z hb7 (.gtr Z Z Z (.g Z Z Z hb7 (.a Z Z (.g Z Z Z hb8 (.a Z Z (.g Z Z Z hb8 (.a Z Z (.g Z Z Z hb8 (.a Z Z (.g Z Z Z hb8 (.sub' Z Z Z (by omega) (.g Z Z Z hb8 (S.idx ha29 Z Z Z Z (.g Z Z Z hb8 (.p Z Z Z Z (.g Z Z Z hb8 (.leq Z Z Z (.g Z Z Z hb7 (.o Z hb8 Z Z (.n Z hb7 Z Z (.nil ?_)))))))))))))))))))))))))))))))))))
      obtain rfl := oi hx5
      refine b5 (Sub.env ⟨Z, Z, Z, Z, Z, Z, Y⟩)
     ·replace hx5 := B5 hb8 hx5
      refine AWP.f (.a Z Z (.j Z Z Z (.a Z Z (.g Z Z Z hb6 (.a Z Z (.g Z Z Z hb6 (.a Z Z (.g Z Z Z hb6 (.geq Z Z Z (.n Z hb6 Z Z (.a Z Z (.g Z Z Z hb7 (.a Z Z (.g Z Z Z hb7 (.gtr Z Z Z (.g Z Z Z hb7 (.a Z Z (.i Z Z Z hb8 (.i Z Z Z hb8 (.i Z Z Z hb8 (.i Z Z Z hb8 (.i Z Z Z hb8 (.i Z Z Z hb8 (.i Z Z Z hb8 (.g Z Z Z hb7 (.n Z hb8 Z Z (.n Z hb7 Z Z (.nil ?_))))))))))))))))))))))))))))
      obtain rfl := oi hx5
      refine b5 (Sub.env ⟨Z, Z, Z, Z, Z, Z, Y⟩)
  ·refine AWP.s Z h (fun hc9 h => ?_) (fun hc9 h => ?_)
   ·refine AWP.d (.f (.e Z Z (.nil (b5 (.ret (g7 (d8 ?_)))))))
    obtain rfl := oi h
    refine d8 ⟨_, Z, Z, ?_⟩
    exact Done.ret Z Z
   ·refine AWP.skip (d5 (b5 (.f (.add Z Z Z (by omega) (.a Z Z (.nil ?_))))))
    obtain rfl := oi h
    refine b5 ⟨_, Z, ?_⟩
    exact Sub.env ⟨Z, Z, Z, Z, Z, Y⟩
 ·intro e s hq
  rcases oo with u | x
  ·try dsimp only at h hq
   obtain ⟨rfl, hs⟩ := hq
   refine ⟨_, hs, ?_⟩
   refine f9 (b5 (.d (.f (.e Z Z (.nil (b5 (.ret ?_)))))))
   obtain rfl := oi h
   exact Done.ret Z Z
  ·try dsimp only at h hq
   obtain ⟨rfl, hs⟩ := hq
   refine ⟨_, Sub.refl _ _, ?_⟩
   refine g7 (d8 ?_)
   obtain rfl := oi h
   exact hs
theorem A8 {xv : Int} {r : Bool} (h : D3 xv = some r) : d9 Tryz.prog 113 [.c (int xv)] (.c (bool r)) := by
 unfold d9
 refine FnOk.enter (rs := [.t 2]) Tryz.func113 Z Tryz.ntmps113 Tryz.results113 Z ⟨trivial, Y⟩ (by kernel_rfl) Z ?_
 unfold D3 at h
 refine AWP.d (.f (.e Z Z (.nil (b5 (.d (.f (.a Z Z (.a Z Z (.neq Z Z Z (.e Z Z (.nil (b5 (.ret ?_)))))))))))))
 obtain rfl := oi h
 exact Done.ret Z Z
theorem cmp_Less_int_ok {xv : Int} {yv : Int} {r : Bool} (h : P6 xv yv = some r) : d9 Tryz.prog 105 [.c (int xv), .c (int yv)] (.c (bool r)) := by
 unfold d9
 refine FnOk.enter (rs := [.t 4]) Tryz.func105 Z Tryz.ntmps105 Tryz.results105 Z ⟨trivial, Y⟩ (by kernel_rfl) Z ?_
 unfold P6 at h
 refine AWP.d (.f (.e Z Z (.nil (b5 ?_))))
 obtain ⟨t3, hx4, h⟩ := b7 h
 refine AWP.seqJ (⟨[(4, .c (bool t3))], []⟩) ?_ ?_
 ·obtain ⟨a6, ha6, hx4⟩ := b7 hx4
  rcases bft (a6) with hb5 | hb5
  ·replace hx4 := B8 hb5 hx4
   obtain ⟨a9, ha9, hx4⟩ := b7 hx4
   rcases bft (!a9) with hb6 | hb6
   ·replace hx4 := B8 hb6 hx4
    refine AWP.f (.a Z Z (.k Z Z Z Z (A8 ha6) Z (.a Z Z (.g Z Z Z hb5 (.a Z Z (.g Z Z Z hb5 (.k Z Z Z Z (A8 ha9) Z (.g Z Z Z hb5 (.v Z Z (.o Z hb5 Z Z (.a Z Z (.i Z Z Z hb6 (.i Z Z Z hb6 (.i Z Z Z hb6 (.o Z hb6 Z Z (.e Z Z (.nil ?_)))))))))))))))))
    obtain rfl := oi hx4
    refine b5 (Sub.env ⟨Z, Y⟩)
   ·replace hx4 := B9 hb6 hx4
    refine AWP.f (.a Z Z (.k Z Z Z Z (A8 ha6) Z (.a Z Z (.g Z Z Z hb5 (.a Z Z (.g Z Z Z hb5 (.k Z Z Z Z (A8 ha9) Z (.g Z Z Z hb5 (.v Z Z (.o Z hb5 Z Z (.a Z Z (.g Z Z Z hb6 (.a Z Z (.g Z Z Z hb6 (.a Z Z (.g Z Z Z hb6 (.j Z Z Z (.n Z hb6 Z Z (.e Z Z (.nil ?_))))))))))))))))))))
    obtain rfl := oi hx4
    refine b5 (Sub.env ⟨Z, Y⟩)
  ·replace hx4 := B9 hb5 hx4
   refine AWP.f (.a Z Z (.k Z Z Z Z (A8 ha6) Z (.a Z Z (.i Z Z Z hb5 (.i Z Z Z hb5 (.i Z Z Z hb5 (.n Z hb5 Z Z (.a Z Z (.g Z Z Z Z (.a Z Z (.g Z Z Z Z (.a Z Z (.g Z Z Z Z (.j Z Z Z (.n Z Z Z Z (.e Z Z (.nil ?_)))))))))))))))))
   obtain rfl := oi hx4
   refine b5 (Sub.env ⟨Z, Y⟩)
 ·refine AWP.ret ?_
  obtain rfl := oi h
  exact Done.ret Z Z
theorem O6 {xv : Int} {r : Bool} (h : H8 xv = some r) : d9 Tryz.prog 106 [.c (int xv)] (.c (bool r)) := by
 unfold d9
 refine FnOk.enter (rs := [.t 2]) Tryz.func106 Z Tryz.ntmps106 Tryz.results106 Z ⟨trivial, Y⟩ (by kernel_rfl) Z ?_
 unfold H8 at h
 refine AWP.d (.f (.e Z Z (.nil (b5 (.d (.f (.a Z Z (.a Z Z (.neq Z Z Z (.e Z Z (.nil (b5 (.ret ?_)))))))))))))
 obtain rfl := oi h
 exact Done.ret Z Z
theorem J1 {xv : List Int} {target : Int} {r : Int × Bool} (h : n7 xv target = some r) : d9 Tryz.prog 89 [.c (row 1 intI xv), .c (int target)] (.tup [.c (int r.1), .c (bool r.2)]) := by
 unfold d9
 refine FnOk.enter (rs := [.t 4, .t 5]) Tryz.func89 Z Tryz.ntmps89 Tryz.results89 Z ⟨trivial, trivial, Y⟩ (by kernel_rfl) Z ?_
 unfold n7 at h
 refine AWP.d (.f (.e Z Z (.e Z Z (.nil (b5 (.d (.f (.a Z Z (S.len Z Z (fun hl11 => .e Z Z (.nil (b5 (.d (.f (.a Z Z (.e Z Z (.e Z Z (.nil (b5 (.d (.l ?_)))))))))))))))))))))
 obtain ⟨iv5, ho1, h⟩ := b7 h
 refine AWP.loopS ho1 (fun (iv3, j4) => ⟨[(0, .c (row 1 intI xv)), (1, .c (int target)), (6, .c (int (xv.length : Int))), (7, .c (int iv3)), (8, .c (int j4))], []⟩) (fun iv5 e st => e = .exit 0 ∧ Sub [] st ⟨[(0, .c (row 1 intI xv)), (1, .c (int target)), (6, .c (int (xv.length : Int))), (7, .c (int iv5))], []⟩) ?_ ?_ ?_
 ·try dsimp only
  exact Sub.env ⟨Z, Z, Z, Z, Z, Y⟩
 ·intro s o h
  obtain ⟨iv3, j4⟩ := s
  unfold w5 at h
  try dsimp only at h ⊢
  refine AWP.d (.d (.f (.a Z Z (.a Z Z (.j Z Z Z (.nil (b5 (.ite Z h (fun hc6 h => ?_) (fun hc6 h => ?_)))))))))
  ·refine AWP.skip (b5 (.l (.d (.f (.a Z Z (.a Z Z (S.add Z Z Z (.z Z Z (.shr Z Z Z (by decide) Z (.z Z Z (.e Z Z (.nil (b5 (.d ?_))))))))))))))
   obtain ⟨a24, ha24, a27, ha27, h⟩ := b2 h
   refine AWP.f (.a Z Z (.a Z Z (S.idx ha24 Z Z Z Z (.p Z Z Z Z (.a Z Z (.k Z Z Z Z (cmp_Less_int_ok ha27) Z (.nil (b5 (.s Z h (fun hc7 h => ?_) (fun hc7 h => ?_))))))))))
   ·refine AWP.f (.a Z Z (S.add Z Z Z (.e Z Z (.nil (d5 ?_)))))
    obtain rfl := oi h
    refine b5 ⟨_, Z, ?_⟩
    exact Sub.env ⟨Z, Z, Z, Z, Z, Y⟩
   ·refine AWP.f (.a Z Z (.e Z Z (.nil (d5 ?_))))
    obtain rfl := oi h
    refine b5 ⟨_, Z, ?_⟩
    exact Sub.env ⟨Z, Z, Z, Z, Z, Y⟩
  ·refine AWP.exit (d6 ?_)
   obtain rfl := oi h
   refine d6 ⟨_, Z, Z, ?_⟩
   exact Sub.env ⟨Z, Z, Z, Z, Y⟩
 ·intro e s hq
  obtain ⟨rfl, hs⟩ := hq
  refine ⟨_, hs, ?_⟩
  refine f9 (b5 ?_)
  obtain ⟨t8, hx9, h⟩ := b7 h
  refine AWP.seqJ (⟨[(4, .c (int iv5)), (5, .c (bool t8))], []⟩) ?_ ?_
  ·rcases bft (decide (iv5 < (xv.length : Int))) with hb10 | hb10
   ·replace hx9 := B4 hb10 hx9
    obtain ⟨a38, ha38, hx9⟩ := b7 hx9
    rcases bft (decide (a38 = target)) with hb11 | hb11
    ·replace hx9 := B4 hb11 hx9
     refine AWP.f (.a Z Z (.a Z Z (.a Z Z (.j Z Z Z (.a Z Z (.g Z Z Z hb10 (.a Z Z (.g Z Z Z hb10 (.a Z Z (.g Z Z Z hb10 (S.idx ha38 Z Z Z Z (.g Z Z Z hb10 (.p Z Z Z Z (.g Z Z Z hb10 (.a Z Z (.g Z Z Z hb10 (.u Z Z Z (.g Z Z Z hb10 (.a Z Z (.i Z Z Z hb11 (.i Z Z Z hb11 (.i Z Z Z hb11 (.i Z Z Z hb11 (.i Z Z Z hb11 (.i Z Z Z hb11 (.x Z Z Z (.x Z Z Z (.i Z Z Z hb11 (.g Z Z Z hb10 (.o Z hb11 Z Z (.o Z hb10 Z Z (.e Z Z (.e Z Z (.nil ?_))))))))))))))))))))))))))))))))))
     obtain rfl := oi hx9
     refine b5 (Sub.env ⟨Z, Z, Y⟩)
    ·replace hx9 := B5 hb11 hx9
     obtain ⟨a45, ha45, a47, ha47, hx9⟩ := b2 hx9
     rcases bft (a47) with hb12 | hb12
     ·replace hx9 := B8 hb12 hx9
      obtain ⟨a50, ha50, hx9⟩ := b7 hx9
      refine AWP.f (.a Z Z (.a Z Z (.a Z Z (.j Z Z Z (.a Z Z (.g Z Z Z hb10 (.a Z Z (.g Z Z Z hb10 (.a Z Z (.g Z Z Z hb10 (S.idx ha38 Z Z Z Z (.g Z Z Z hb10 (.p Z Z Z Z (.g Z Z Z hb10 (.a Z Z (.g Z Z Z hb10 (.u Z Z Z (.g Z Z Z hb10 (.a Z Z (.g Z Z Z hb11 (.a Z Z (.g Z Z Z hb11 (.a Z Z (.g Z Z Z hb11 (S.idx ha45 Z Z Z Z (.g Z Z Z hb11 (.p Z Z Z Z (.g Z Z Z hb11 (.k Z Z Z Z (O6 ha47) Z (.g Z Z Z hb11 (.a Z Z (.g Z Z Z hb12 (.a Z Z (.g Z Z Z hb12 (.k Z Z Z Z (O6 ha50) Z (.g Z Z Z hb11 (.o Z hb12 Z Z (.g Z Z Z hb10 (.n Z hb11 Z Z (.o Z hb10 Z Z (.e Z Z (.e Z Z (.nil ?_)))))))))))))))))))))))))))))))))))))))))))
      obtain rfl := oi hx9
      refine b5 (Sub.env ⟨Z, Z, Y⟩)
     ·replace hx9 := B9 hb12 hx9
      refine AWP.f (.a Z Z (.a Z Z (.a Z Z (.j Z Z Z (.a Z Z (.g Z Z Z hb10 (.a Z Z (.g Z Z Z hb10 (.a Z Z (.g Z Z Z hb10 (S.idx ha38 Z Z Z Z (.g Z Z Z hb10 (.p Z Z Z Z (.g Z Z Z hb10 (.a Z Z (.g Z Z Z hb10 (.u Z Z Z (.g Z Z Z hb10 (.a Z Z (.g Z Z Z hb11 (.a Z Z (.g Z Z Z hb11 (.a Z Z (.g Z Z Z hb11 (S.idx ha45 Z Z Z Z (.g Z Z Z hb11 (.p Z Z Z Z (.g Z Z Z hb11 (.k Z Z Z Z (O6 ha47) Z (.g Z Z Z hb11 (.a Z Z (.i Z Z Z hb12 (.i Z Z Z hb12 (.g Z Z Z hb11 (.n Z hb12 Z Z (.g Z Z Z hb10 (.n Z hb11 Z Z (.o Z hb10 Z Z (.e Z Z (.e Z Z (.nil ?_)))))))))))))))))))))))))))))))))))))))))
      obtain rfl := oi hx9
      refine b5 (Sub.env ⟨Z, Z, Y⟩)
   ·replace hx9 := B5 hb10 hx9
    refine AWP.f (.a Z Z (.a Z Z (.a Z Z (.j Z Z Z (.a Z Z (.i Z Z Z hb10 (.i Z Z Z hb10 (.i Z Z Z hb10 (.i Z Z Z hb10 (.i Z Z Z hb10 (.i Z Z Z hb10 (.i Z Z Z hb10 (.x Z Z Z (.x Z Z Z (.x Z Z Z (.x Z Z Z (.x Z Z Z (.x Z Z Z (.x Z Z Z (.x Z Z Z (.x Z Z Z (.i Z Z Z hb10 (.n Z hb10 Z Z (.e Z Z (.e Z Z (.nil ?_))))))))))))))))))))))))))
    obtain rfl := oi hx9
    refine b5 (Sub.env ⟨Z, Z, Y⟩)
  ·refine AWP.ret ?_
   obtain rfl := oi h
   exact Done.ret Z Z
theorem ak5 {xv : Int} {c2 : List Int} {r : Bool} (h : R3 xv c2 = some r) : d9 Tryz.prog 128 [.c (int xv), .c (.imm (.ipt [.sl 1 (List.map intI c2)]))] (.c (bool r)) := by
 unfold d9
 refine FnOk.enter (rs := [.t 3]) Tryz.func128 Z Tryz.ntmps128 Tryz.results128 Z ⟨trivial, Y⟩ (by kernel_rfl) Z ?_
 unfold R3 at h
 refine AWP.d (.f (.e Z Z (.nil (b5 (.d ?_)))))
 obtain ⟨a9, ha9, h⟩ := b7 h
 refine AWP.f (.p Z Z Z Z (.a Z Z (.k Z Z Z Z (J1 ha9) Z (.a Z Z (.w Z Z Z (.w Z Z Z (.e Z Z (.e Z Z (.nil (b5 (.d (.f (.a Z Z (.e Z Z (.nil (b5 (.ret ?_)))))))))))))))))
 obtain rfl := oi h
 exact Done.ret Z Z
theorem aa0 {sv : List Int} {fv : Int → Option Bool} {r : Int} {fvfv : FuncId} {cvfv : List C} (hcvfv : C.okL 0 cvfv = true) (hfv : ∀ {y1 : Int} {z : Bool}, fv y1 = some z → d9 Tryz.prog fvfv ([.c (int y1)] ++ cvfv.map T.c) (.c (bool z))) (h : C0 sv fv = some r) : d9 Tryz.prog 117 [.c (row 1 intI sv), .c (.fn fvfv cvfv)] (.c (int r)) := by
 unfold d9
 refine FnOk.enter (rs := [.t 4]) Tryz.func117 Z Tryz.ntmps117 Tryz.results117 Z ⟨trivial, Y⟩ (by kernel_rfl) Z ?_
 unfold C0 at h
 refine AWP.d (.f (.e Z Z (.nil (b5 (.d (.d (.f (.a Z Z (S.len Z Z (fun hl7 => .a Z Z (.nil (b5 (.l ?_)))))))))))))
 obtain ⟨oo, ho1, h⟩ := b7 h
 refine AWP.rngS ho1 (fun t3 _ => ⟨[(0, .c (row 1 intI sv)), (1, .c (.fn fvfv cvfv)), (7, .c (int (sv.length : Int))), (8, .c (int t3))], []⟩) (fun o e st => match o with | .inl _ => e = .exit 0 ∧ Sub [] st ⟨[], []⟩ | .inr x => e = .ret ∧ Done [.t 4] (fun t _ => t = .c (int x)) .ret st) ?_ ?_ ?_ ?_
 ·try dsimp only
  exact Sub.env ⟨Z, Z, Z, Z, Y⟩
 ·intro t3 s hlot3 hltt3 _
  try dsimp only
  refine AWP.d (.f (.j Z Z Z (.nil (b5 (.d (.q Z hltt3 (.exit (d6 (d6 ⟨Z, ?_⟩)))))))))
  exact Sub.env trivial
 ·intro t3 s o hlot3 hltt3 h
  unfold y9 at h
  try dsimp only at h ⊢
  refine AWP.d (.f (.j Z Z Z (.nil (b5 (.d (.r Z hltt3 (.skip (b5 (.d (.l (.d (.f (.a Z Z (.e Z Z (.nil (b5 (.d ?_)))))))))))))))))
  obtain ⟨a14, ha14, a16, ha16, h⟩ := b2 h
  refine AWP.f (.a Z Z (.a Z Z (.a Z Z (S.idx ha14 Z Z Z Z (.p Z Z Z Z (.k Z Z (X4 Z hcvfv) Z (hfv ha16) Z (.nil (b5 (.s Z h (fun hc4 h => ?_) (fun hc4 h => ?_))))))))))
  ·refine AWP.d (.f (.a Z Z (.e Z Z (.nil (b5 (.ret (g7 (d8 ?_))))))))
   obtain rfl := oi h
   refine d8 ⟨_, Z, Z, ?_⟩
   exact Done.ret Z Z
  ·refine AWP.skip (d5 (b5 (.f (.add Z Z Z (by omega) (.a Z Z (.nil ?_))))))
   obtain rfl := oi h
   refine b5 ⟨_, Z, ?_⟩
   exact Sub.env ⟨Z, Z, Z, Z, Y⟩
 ·intro e s hq
  rcases oo with u | x
  ·try dsimp only at h hq
   obtain ⟨rfl, hs⟩ := hq
   refine ⟨_, hs, ?_⟩
   refine f9 (b5 (.d (.f (.e Z Z (.nil (b5 (.ret ?_)))))))
   obtain rfl := oi h
   exact Done.ret Z Z
  ·try dsimp only at h hq
   obtain ⟨rfl, hs⟩ := hq
   refine ⟨_, Sub.refl _ _, ?_⟩
   refine g7 (d8 ?_)
   obtain rfl := oi h
   exact hs
theorem W6 {sv : List Int} {fv : Int → Option Bool} {r : Bool} {fvfv : FuncId} {cvfv : List C} (hcvfv : C.okL 0 cvfv = true) (hfv : ∀ {y1 : Int} {z : Bool}, fv y1 = some z → d9 Tryz.prog fvfv ([.c (int y1)] ++ cvfv.map T.c) (.c (bool z))) (h : s8 sv fv = some r) : d9 Tryz.prog 103 [.c (row 1 intI sv), .c (.fn fvfv cvfv)] (.c (bool r)) := by
 unfold d9
 refine FnOk.enter (rs := [.t 4]) Tryz.func103 Z Tryz.ntmps103 Tryz.results103 Z ⟨trivial, Y⟩ (by kernel_rfl) Z ?_
 unfold s8 at h
 refine AWP.d (.f (.e Z Z (.nil (b5 (.d ?_)))))
 obtain ⟨a7, ha7, h⟩ := b7 h
 refine AWP.f (.a Z Z (.a Z Z (.k Z Z (by simp [T.okL, T.ok, C.ok, C.okL, hcvfv]) Z (aa0 hcvfv hfv ha7) Z (.geq Z Z Z (.e Z Z (.nil (b5 (.ret ?_))))))))
 obtain rfl := oi h
 exact Done.ret Z Z
theorem strips_Meets_ok {av : List Int} {bv : List Int} {r : Bool} (h : Q6 av bv = some r) : d9 Tryz.prog 109 [.c (row 1 intI av), .c (row 1 intI bv)] (.c (bool r)) := by
 unfold d9
 refine FnOk.enter (rs := [.t 4]) Tryz.func109 Z Tryz.ntmps109 Tryz.results109 Z ⟨trivial, Y⟩ (by kernel_rfl) Z ?_
 unfold Q6 at h
 refine AWP.d (.f (W.box Z Z Z Z Z Z (.e Z Z (.nil (b5 (.d ?_))))))
 obtain ⟨a7, ha7, h⟩ := b7 h
 refine AWP.f (.a Z Z (.makeFunc Z Z (.y Z Z (.cons (.c .imm) (.cons (.c (.fn (.cons (.ptr (es := [.sl 1 (List.map intI bv)]) Z Z (.cons .imm .nil)) .nil))) .nil)) Z (W6 Z (fun hy => ak5 hy) ha7) Z ?_)))
 refine AOps.e Z Z (.nil (b5 (.ret ?_)))
 obtain rfl := oi h
 exact Done.ret Z Z
theorem ag8 {ov : i6} {facts : Int} {r : Int} (h : G2 ov facts = some r) : d9 Tryz.prog 92 [.agg [row 1 intI ov.pre, row 3 n8 ov.outcomes, int ov.cost], .c (int facts)] (.c (int r)) := by
 unfold d9
 refine FnOk.enter (rs := [.t 4]) Tryz.func92 Z Tryz.ntmps92 Tryz.results92 Z ⟨trivial, Y⟩ (by kernel_rfl) Z ?_
 unfold G2 at h
 refine AWP.d (.f (W.box Z Z Z Z Z Z (.e Z Z (.nil (b5 (.d (.l (.d ?_))))))))
 obtain ⟨a11, ha11, h⟩ := b7 h
 refine AWP.f (W.fieldAddr Z Z Z Z (.m Z Z Z Z Z Z (.a Z Z (.k Z Z Z Z (p9 ha11) Z (.v Z Z (.e Z Z (.nil (b5 (.s Z h (fun hc3 h => ?_) (fun hc3 h => ?_))))))))))
 ·refine AWP.d (.f (.e Z Z (.nil (b5 (.ret (g7 (d8 ?_)))))))
  obtain rfl := oi h
  exact Done.ret Z Z
 ·refine AWP.seqJ (⟨[(1, .c (int facts)), (2, .c (.ptr 0 0 0)), (13, .c (bool ((decide (ov.cost < 0)) || (decide (100 < ov.cost)))))], [.one (.cells 3 [[row 1 intI ov.pre, row 3 n8 ov.outcomes, int ov.cost]])]⟩) ?_ ?_
  ·rcases bft (decide (ov.cost < 0)) with hb1 | hb1
   ·refine AWP.f (W.fieldAddr Z Z Z Z (.m Z Z Z Z Z Z (.j Z Z Z (.a Z Z (.i Z Z Z hb1 (.i Z Z Z hb1 (.i Z Z Z hb1 (.o Z hb1 Z Z (.e Z Z (.nil (b5 ?_)))))))))))
    simp only [T4 hb1, or_t hb1, Bool.false_or, Bool.true_or, Bool.false_and, Bool.true_and]
    exact Sub.env ⟨Z, Z, Z, Y⟩
   ·refine AWP.f (W.fieldAddr Z Z Z Z (.m Z Z Z Z Z Z (.j Z Z Z (.a Z Z (.g Z Z Z hb1 (W.fieldAddr Z Z Z Z (.g Z Z Z hb1 (.m Z Z Z Z Z Z (.g Z Z Z hb1 (.gtr Z Z Z (.n Z hb1 Z Z (.e Z Z (.nil (b5 ?_))))))))))))))
    simp only [and_f hb1, or_f hb1, Bool.false_or, Bool.true_or, Bool.false_and, Bool.true_and]
    exact Sub.env ⟨Z, Z, Z, Y⟩
  ·refine AWP.s Z h (fun hc4 h => ?_) (fun hc4 h => ?_)
   ·refine AWP.d (.f (.e Z Z (.nil (b5 (.ret (g7 (d8 ?_)))))))
    obtain rfl := oi h
    exact Done.ret Z Z
   ·refine AWP.seqJ (⟨[(1, .c (int facts)), (2, .c (.ptr 0 0 0)), (22, .c (bool ((decide ((ov.outcomes.length : Int) = 0)) || (decide (4 < (ov.outcomes.length : Int))))))], [.one (.cells 3 [[row 1 intI ov.pre, row 3 n8 ov.outcomes, int ov.cost]])]⟩) ?_ ?_
    ·rcases bft (decide ((ov.outcomes.length : Int) = 0)) with hb1 | hb1
     ·refine AWP.f (W.fieldAddr Z Z Z Z (.m Z Z Z Z Z Z (S.len Z Z (fun hl25 => .u Z Z Z (.a Z Z (.i Z Z Z hb1 (.i Z Z Z hb1 (.i Z Z Z hb1 (.i Z Z Z hb1 (.o Z hb1 Z Z (.e Z Z (.nil (b5 ?_)))))))))))))
      simp only [T4 hb1, or_t hb1, Bool.false_or, Bool.true_or, Bool.false_and, Bool.true_and]
      exact Sub.env ⟨Z, Z, Z, Y⟩
     ·refine AWP.f (W.fieldAddr Z Z Z Z (.m Z Z Z Z Z Z (S.len Z Z (fun hl25 => .u Z Z Z (.a Z Z (.g Z Z Z hb1 (W.fieldAddr Z Z Z Z (.g Z Z Z hb1 (.m Z Z Z Z Z Z ?_)))))))))
      refine AOps.g Z Z Z hb1 ?_; refine S.len Z Z (fun hl30 => ?_)
      refine AOps.g Z Z Z hb1 (.gtr Z Z Z (.n Z hb1 Z Z (.e Z Z (.nil (b5 ?_)))))
      simp only [and_f hb1, or_f hb1, Bool.false_or, Bool.true_or, Bool.false_and, Bool.true_and]
      exact Sub.env ⟨Z, Z, Z, Y⟩
    ·refine AWP.s Z h (fun hc5 h => ?_) (fun hc5 h => ?_)
     ·refine AWP.d (.f (.e Z Z (.nil (b5 (.ret (g7 (d8 ?_)))))))
      obtain rfl := oi h
      exact Done.ret Z Z
     ·refine AWP.skip (d5 (b5 (.d (.d (.f (W.fieldAddr Z Z Z Z (.m Z Z Z Z Z Z (S.len Z Z (fun hl35 => .a Z Z (.nil (b5 (.l ?_))))))))))))
      obtain ⟨oo, ho1, h⟩ := b7 h
      refine AWP.rngS ho1 (fun t6 _ => ⟨[(1, .c (int facts)), (34, .c (row 3 n8 ov.outcomes)), (35, .c (int (ov.outcomes.length : Int))), (36, .c (int t6))], []⟩) (fun o e st => match o with | .inl _ => e = .exit 1 ∧ Sub [] st ⟨[], []⟩ | .inr x => e = .ret ∧ Done [.t 4] (fun t _ => t = .c (int x)) .ret st) ?_ ?_ ?_ ?_
      ·try dsimp only
       exact Sub.cut ⟨Z, Z, Z, Z, Y⟩ Z trivial Z
      ·intro t6 s hlot6 hltt6 _
       try dsimp only
       refine AWP.d (.f (.j Z Z Z (.nil (b5 (.d (.q Z hltt6 (.exit (d6 (d6 ⟨Z, ?_⟩)))))))))
       exact Sub.env trivial
      ·intro t6 s o hlot6 hltt6 h
       unfold C5 at h
       try dsimp only at h ⊢
       refine AWP.d (.f (.j Z Z Z (.nil (b5 (.d (.r Z hltt6 (.skip (b5 (.d (.l (.d ?_)))))))))))
       obtain ⟨a38, ha38, h⟩ := b7 h
       refine AWP.f (S.idx ha38 Z Z Z Z (W.loadIAgg Z Z Z Z Z (W.alloc Z Z Z Z (W.storeAgg Z Z Z Z Z Z Z (.nil (b5 (.l ?_)))))))
       obtain ⟨t7, hx8, h⟩ := b7 h
       refine AWP.seqJ (⟨[(1, .c (int facts)), (6, .c (.ptr 0 0 0)), (34, .c (row 3 n8 ov.outcomes)), (35, .c (int (ov.outcomes.length : Int))), (36, .c (int t6)), (40, .c (bool t7))], [.one (.cells 3 [[row 1 intI a38.add, row 1 intI a38.del, int a38.weight]])]⟩) ?_ ?_
       ·obtain ⟨a44, ha44, hx8⟩ := b7 hx8
        rcases bft (!a44) with hb9 | hb9
        ·replace hx8 := B8 hb9 hx8
         refine AWP.f (W.fieldAddr Z Z Z Z (.m Z Z Z Z Z Z (.a Z Z (.k Z Z Z Z (p9 ha44) Z (.v Z Z (.a Z Z (.i Z Z Z hb9 (.i Z Z Z hb9 (.i Z Z Z hb9 (.i Z Z Z hb9 (.i Z Z Z hb9 (.o Z hb9 Z Z (.a Z Z (.i Z Z Z Z (.i Z Z Z Z (.i Z Z Z Z (.i Z Z Z Z (.i Z Z Z Z (.o Z Z Z Z (.e Z Z (.nil ?_)))))))))))))))))))))
         obtain rfl := oi hx8
         refine b5 (Sub.env ⟨Z, Z, Z, Z, Z, Z, Y⟩)
        ·replace hx8 := B9 hb9 hx8
         obtain ⟨a50, ha50, hx8⟩ := b7 hx8
         rcases bft (!a50) with hb10 | hb10
         ·replace hx8 := B8 hb10 hx8
          refine AWP.f (W.fieldAddr Z Z Z Z (.m Z Z Z Z Z Z (.a Z Z (.k Z Z Z Z (p9 ha44) Z (.v Z Z (.a Z Z (.g Z Z Z hb9 (W.fieldAddr Z Z Z Z (.g Z Z Z hb9 (.m Z Z Z Z Z Z (.g Z Z Z hb9 (.a Z Z (.g Z Z Z hb9 (.k Z Z Z Z (p9 ha50) Z (.g Z Z Z hb9 (.v Z Z (.n Z hb9 Z Z (.a Z Z (.i Z Z Z hb10 (.i Z Z Z hb10 (.i Z Z Z hb10 (.i Z Z Z hb10 (.i Z Z Z hb10 (.o Z hb10 Z Z (.e Z Z (.nil ?_))))))))))))))))))))))))))
          obtain rfl := oi hx8
          refine b5 (Sub.env ⟨Z, Z, Z, Z, Z, Z, Y⟩)
         ·replace hx8 := B9 hb10 hx8
          obtain ⟨a58, ha58, hx8⟩ := b7 hx8
          refine AWP.f (W.fieldAddr Z Z Z Z (.m Z Z Z Z Z Z (.a Z Z (.k Z Z Z Z (p9 ha44) Z (.v Z Z (.a Z Z (.g Z Z Z hb9 (W.fieldAddr Z Z Z Z (.g Z Z Z hb9 (.m Z Z Z Z Z Z (.g Z Z Z hb9 (.a Z Z (.g Z Z Z hb9 (.k Z Z Z Z (p9 ha50) Z (.g Z Z Z hb9 (.v Z Z (.n Z hb9 Z Z (.a Z Z (.g Z Z Z hb10 (W.fieldAddr Z Z Z Z (.g Z Z Z hb10 (.m Z Z Z Z Z Z (.g Z Z Z hb10 (W.fieldAddr Z Z Z Z (.g Z Z Z hb10 (.m Z Z Z Z Z Z (.g Z Z Z hb10 (.k Z Z Z Z (strips_Meets_ok ha58) Z (.n Z hb10 Z Z (.e Z Z (.nil ?_)))))))))))))))))))))))))))))))
          obtain rfl := oi hx8
          refine b5 (Sub.env ⟨Z, Z, Z, Z, Z, Z, Y⟩)
       ·refine AWP.s Z h (fun hc11 h => ?_) (fun hc11 h => ?_)
        ·refine AWP.d (.f (.e Z Z (.nil (b5 (.ret (g7 (g7 (d8 ?_))))))))
         obtain rfl := oi h
         refine d8 ⟨_, Z, Z, ?_⟩
         exact Done.ret Z Z
        ·refine AWP.seqJ (⟨[(1, .c (int facts)), (34, .c (row 3 n8 ov.outcomes)), (35, .c (int (ov.outcomes.length : Int))), (36, .c (int t6)), (60, .c (bool ((decide (a38.weight < 1)) || (decide (6 < a38.weight)))))], [.one (.cells 3 [[row 1 intI a38.add, row 1 intI a38.del, int a38.weight]])]⟩) ?_ ?_
         ·rcases bft (decide (a38.weight < 1)) with hb1 | hb1
          ·refine AWP.f (W.fieldAddr Z Z Z Z (.m Z Z Z Z Z Z (.j Z Z Z (.a Z Z (.i Z Z Z hb1 (.i Z Z Z hb1 (.i Z Z Z hb1 (.o Z hb1 Z Z (.e Z Z (.nil (b5 ?_)))))))))))
           simp only [T4 hb1, or_t hb1, Bool.false_or, Bool.true_or, Bool.false_and, Bool.true_and]
           exact Sub.env ⟨Z, Z, Z, Z, Z, Y⟩
          ·refine AWP.f (W.fieldAddr Z Z Z Z (.m Z Z Z Z Z Z (.j Z Z Z (.a Z Z (.g Z Z Z hb1 (W.fieldAddr Z Z Z Z (.g Z Z Z hb1 (.m Z Z Z Z Z Z (.g Z Z Z hb1 (.gtr Z Z Z (.n Z hb1 Z Z (.e Z Z (.nil (b5 ?_))))))))))))))
           simp only [and_f hb1, or_f hb1, Bool.false_or, Bool.true_or, Bool.false_and, Bool.true_and]
           exact Sub.env ⟨Z, Z, Z, Z, Z, Y⟩
         ·refine AWP.s Z h (fun hc12 h => ?_) (fun hc12 h => ?_)
          ·refine AWP.d (.f (.e Z Z (.nil (b5 (.ret (g7 (g7 (d8 ?_))))))))
           obtain rfl := oi h
           refine d8 ⟨_, Z, Z, ?_⟩
           exact Done.ret Z Z
          ·refine AWP.skip (d5 (d5 (b5 (.f (.add Z Z Z (by omega) (.a Z Z (.nil ?_)))))))
           obtain rfl := oi h
           refine b5 ⟨_, Z, ?_⟩
           exact Sub.cut ⟨Z, Z, Z, Z, Y⟩ Z trivial Z
      ·intro e s hq
       rcases oo with u | x
       ·try dsimp only at h hq
        obtain ⟨rfl, hs⟩ := hq
        refine ⟨_, hs, ?_⟩
        refine f9 (b5 (.d (.f (.e Z Z (.nil (b5 (.ret ?_)))))))
        obtain rfl := oi h
        exact Done.ret Z Z
       ·try dsimp only at h hq
        obtain ⟨rfl, hs⟩ := hq
        refine ⟨_, Sub.refl _ _, ?_⟩
        refine g7 (d8 ?_)
        obtain rfl := oi h
        exact hs
theorem ac5 {ov : b9} {r : k6} (h : D2 ov = some r) : d9 Tryz.prog 68 [.agg (tO ov)] (.agg [int r.code, int r.index]) := by
 unfold d9
 refine FnOk.enter (rs := [.cell 2 28 2]) Tryz.func68 Z Tryz.ntmps68 Tryz.results68 Z ⟨rv _ Z, Y⟩ (by kernel_rfl) Z ?_
 unfold D2 at h
 refine AWP.d (.f (W.box Z Z Z Z Z Z (W.alloc Z Z Z Z (.nil (b5 (.d (.l (.seqJ (⟨[(1, .c (.ptr 0 0 0)), (2, .c (.ptr 1 0 0)), (6, .c (bool ((decide (ov.facts < 0)) || (decide (24 < ov.facts)))))], [.one (.cells 4 [(tO ov)]), .one (.cells 2 [[int 0, int 0]])]⟩) ?_ ?_))))))))
 ·rcases bft (decide (ov.facts < 0)) with hb1 | hb1
  ·refine AWP.f (W.fieldAddr Z Z Z Z (.m Z Z Z Z Z Z (.j Z Z Z (.a Z Z (.i Z Z Z hb1 (.i Z Z Z hb1 (.i Z Z Z hb1 (.o Z hb1 Z Z (.e Z Z (.nil (b5 ?_)))))))))))
   simp only [T4 hb1, or_t hb1, Bool.false_or, Bool.true_or, Bool.false_and, Bool.true_and]
   exact Sub.env ⟨Z, Z, Z, Y⟩
  ·refine AWP.f (W.fieldAddr Z Z Z Z (.m Z Z Z Z Z Z (.j Z Z Z (.a Z Z (.g Z Z Z hb1 (W.fieldAddr Z Z Z Z (.g Z Z Z hb1 (.m Z Z Z Z Z Z (.g Z Z Z hb1 (.gtr Z Z Z (.n Z hb1 Z Z (.e Z Z (.nil (b5 ?_))))))))))))))
   simp only [and_f hb1, or_f hb1, Bool.false_or, Bool.true_or, Bool.false_and, Bool.true_and]
   exact Sub.env ⟨Z, Z, Z, Y⟩
 ·refine AWP.s Z h (fun hc2 h => ?_) (fun hc2 h => ?_)
  ·refine AWP.d (.f (W.build Z Z Z Z (W.storeAgg Z Z Z Z Z Z Z (.nil (b5 (.ret (g7 (d8 ?_))))))))
   obtain rfl := oi h
   exact Done.ret Z Z
  ·refine AWP.d ?_
   obtain ⟨a21, ha21, h⟩ := b7 h
   refine AWP.f (W.fieldAddr Z Z Z Z (.m Z Z Z Z Z Z (W.fieldAddr Z Z Z Z (.m Z Z Z Z Z Z (.k Z Z Z Z (p9 ha21) Z (.v Z Z (.e Z Z (.nil (b5 (.s Z h (fun hc3 h => ?_) (fun hc3 h => ?_)))))))))))
   ·refine AWP.d (.f (W.build Z Z Z Z (W.storeAgg Z Z Z Z Z Z Z (.nil (b5 (.ret (g7 (d8 ?_))))))))
    obtain rfl := oi h
    exact Done.ret Z Z
   ·refine AWP.d ?_
    obtain ⟨a29, ha29, h⟩ := b7 h
    refine AWP.f (W.fieldAddr Z Z Z Z (.m Z Z Z Z Z Z (W.fieldAddr Z Z Z Z (.m Z Z Z Z Z Z (.k Z Z Z Z (p9 ha29) Z (.v Z Z (.e Z Z (.nil (b5 (.s Z h (fun hc4 h => ?_) (fun hc4 h => ?_)))))))))))
    ·refine AWP.d (.f (W.build Z Z Z Z (W.storeAgg Z Z Z Z Z Z Z (.nil (b5 (.ret (g7 (d8 ?_))))))))
     obtain rfl := oi h
     exact Done.ret Z Z
    ·refine AWP.d (.f (W.fieldAddr Z Z Z Z (.m Z Z Z Z Z Z (S.len Z Z (fun hl35 => .gtr Z Z Z (.e Z Z (.nil (b5 (.ite Z h (fun hc5 h => ?_) (fun hc5 h => ?_))))))))))
     ·refine AWP.d (.f (W.build Z Z Z Z (W.storeAgg Z Z Z Z Z Z Z (.nil (b5 (.ret (g7 (d8 ?_))))))))
      obtain rfl := oi h
      exact Done.ret Z Z
     ·refine AWP.skip (d5 (b5 (.d (.d (.f (W.fieldAddr Z Z Z Z (.m Z Z Z Z Z Z (S.len Z Z (fun hl40 => .a Z Z (.nil (b5 (.l ?_))))))))))))
      obtain ⟨oo, ho1, h⟩ := b7 h
      refine AWP.rngS ho1 (fun t6 _ => ⟨[(1, .c (.ptr 0 0 0)), (2, .c (.ptr 1 0 0)), (39, .c (row 3 m9 ov.operators)), (40, .c (int (ov.operators.length : Int))), (41, .c (int t6))], [.one (.cells 4 [(tO ov)]), .one (.cells 2 [[int 0, int 0]])]⟩) (fun o e st => match o with | .inl _ => e = .exit 1 ∧ Sub [] st ⟨[(2, .c (.ptr 1 0 0))], [.one (.cells 4 [(tO ov)]), .one (.cells 2 [[int 0, int 0]])]⟩ | .inr x => e = .ret ∧ Done [.cell 2 28 2] (fun t _ => t = .agg [int x.code, int x.index]) .ret st) ?_ ?_ ?_ ?_
      ·try dsimp only
       exact Sub.env ⟨Z, Z, Z, Z, Z, Y⟩
      ·intro t6 s hlot6 hltt6 _
       try dsimp only
       refine AWP.d (.f (.j Z Z Z (.nil (b5 (.d (.q Z hltt6 (.exit (d6 (d6 ⟨Z, ?_⟩)))))))))
       exact Sub.env ⟨Z, Y⟩
      ·intro t6 s o hlot6 hltt6 h
       unfold H7 at h
       try dsimp only at h ⊢
       refine AWP.d (.f (.j Z Z Z (.nil (b5 (.d (.r Z hltt6 (.skip (b5 (.d (.l (.d ?_)))))))))))
       obtain ⟨a44, ha44, h⟩ := b7 h
       refine AWP.f (.a Z Z (S.idx ha44 Z Z Z Z (W.loadIAgg Z Z Z Z Z (W.alloc Z Z Z Z (.e Z Z (W.storeAgg Z Z Z Z Z Z Z (.nil (b5 (.d ?_)))))))))
       obtain ⟨a49, ha49, h⟩ := b7 h
       refine AWP.f (W.loadAgg Z Z Z Z Z Z Z (W.fieldAddr Z Z Z Z (.m Z Z Z Z Z Z (.k Z Z Z Z (ag8 ha49) Z (.e Z Z (.nil (b5 (.d (.f (.a Z Z (.neq Z Z Z (.nil (b5 (.iteN Z h (fun hc7 h => ?_) (fun hc7 h => ?_)))))))))))))))
       ·refine AWP.d (.f (.a Z Z (.a Z Z (W.build Z Z Z Z (W.storeAgg Z Z Z Z Z Z Z (.nil (b5 (.ret (g7 (d8 ?_))))))))))
        obtain rfl := oi h
        refine d8 ⟨_, Z, Z, ?_⟩
        exact Done.ret Z Z
       ·refine AWP.skip (d5 (b5 (.f (.add Z Z Z (by omega) (.a Z Z (.nil ?_))))))
        obtain rfl := oi h
        refine b5 ⟨_, Z, ?_⟩
        exact Sub.cut ⟨Z, Z, Z, Z, Z, Y⟩ Z ⟨.one Z, .one Z, Y⟩ Z
      ·intro e s hq
       rcases oo with u | x
       ·try dsimp only at h hq
        obtain ⟨rfl, hs⟩ := hq
        refine ⟨_, hs, ?_⟩
        refine f9 (b5 (.d (.f (W.build Z Z Z Z (W.storeAgg Z Z Z Z Z Z Z (.nil (b5 (.ret ?_))))))))
        obtain rfl := oi h
        exact Done.ret Z Z
       ·try dsimp only at h hq
        obtain ⟨rfl, hs⟩ := hq
        refine ⟨_, Sub.refl _ _, ?_⟩
        refine g7 (d8 ?_)
        obtain rfl := oi h
        exact hs
theorem ab6 {iv : Int} {r : ByteArray} (h : F2 iv = some r) : d9 Tryz.prog 149 [.c (int iv)] (.c (.imm (.val (.string r)))) := by
 unfold d9
 refine FnOk.enter (rs := [.t 2]) Tryz.func149 Z Tryz.ntmps149 Tryz.results149 Z ⟨trivial, Y⟩ (by kernel_rfl) Z ?_
 unfold F2 at h
 refine AWP.d (.f (.e Z Z (.nil (b5 (.d (.d (.f (.a Z Z (.j Z Z Z (.nil (b5 (.ite Z h (fun hc2 h => ?_) (fun hc2 h => ?_)))))))))))))
 ·refine AWP.d ?_
  obtain ⟨a8, ha8, h⟩ := b7 h
  refine AWP.f (.a Z Z (.a Z Z (S.add Z Z Z (S.subStr ha8 Z Z Z Z (.e Z Z (.nil (b5 (.ret (d8 ?_)))))))))
  obtain rfl := oi h
  exact Done.ret Z Z
 ·refine AWP.skip (b5 (.d ?_))
  obtain ⟨a14, ha14, h⟩ := b7 h
  refine AWP.f (.a Z Z (S.mul Z Z Z (.a Z Z (S.mul Z Z Z (S.add Z Z Z (S.subStr ha14 Z Z Z Z (.e Z Z (.nil (b5 (.ret ?_))))))))))
  obtain rfl := oi h
  exact Done.ret Z Z
theorem T0 {iv : Int} {base : Int} {l : List Int} {r : (List Int)} (h : v8 iv base l = some r) : FnOk Tryz.prog 144 [.c (.own 0 0 l.length), .c (.imm (.val (.int .u64 iv))), .c (int base)] (S9 iv base l) (fun tt ss => tt = .c (.own 2 0 r.length) ∧ ss = [.dead, .dead, .one (vec 1 eU8 r)]) := by
 refine FnOk.enter (rs := [.t 6]) Tryz.func144 Z Tryz.ntmps144 Tryz.results144 Z ⟨trivial, Y⟩ (by kernel_rfl) Z ?_
 refine AWP.weak ?_
 unfold v8 at h
 refine AWP.a (env' := [(0, .c (.own 1 0 l.length)), (1, .c (.imm (.val (.int .u64 iv)))), (2, .c (int base))]) (σ' := [.dead, .one (vec 1 eU8 l)]) 1 0 Z Z Z ⟨Z, Z, Z, Y⟩ Z ⟨trivial, ⟨Blk.im_ok _ _ _, k7 Z⟩, Y⟩ (.d (.f (.e Z Z (.nil (b5 (.d (.d (.f (.a Z Z (.u Z Z Z (.nil (b5 (.ite Z h (fun hc55 h => ?_) (fun hc55 h => ?_))))))))))))))
 ·refine AWP.d (.d (.f (.a Z Z (.j Z Z Z (.nil (b5 (.ite Z h (fun hc56 h => ?_) (fun hc56 h => ?_))))))))
  ·refine AWP.d ?_
   obtain ⟨a16, ha16, a17, ha17, h⟩ := b2 h
   refine AWP.f (.a Z Z (.a Z Z (.z Z Z (.k Z Z Z Z (ab6 ha16) Z (S.appendStr ha17 Z Z Z Z Z Z Z Z Z Z (.e Z Z (.nil (b5 (.ret (d8 (d8 ?_)))))))))))
   obtain rfl := oi h
   exact ⟨⟨[(6, .c (.own 2 0 a17.length))], [.dead, .dead, .one (vec 1 eU8 a17)]⟩, Sub.env ⟨Z, Y⟩, Done.ret Z ⟨Z, Z⟩⟩
  ·cases h
 ·cases h
theorem U6 {iv : Int} {base : Int} {l : List Int} {r : (List Int)} (h : x5 iv base l = some r) : FnOk Tryz.prog 129 [.c (.own 0 0 l.length), .c (int iv), .c (int base)] (U8 iv base l) (fun tt ss => tt = .c (.own 3 0 r.length) ∧ ss = [.dead, .dead, .dead, .one (vec 1 eU8 r)]) := by
 refine FnOk.enter (rs := [.t 6]) Tryz.func129 Z Tryz.ntmps129 Tryz.results129 Z ⟨trivial, Y⟩ (by kernel_rfl) Z ?_
 refine AWP.weak ?_
 unfold x5 at h
 refine AWP.a (env' := [(0, .c (.own 1 0 l.length)), (1, .c (int iv)), (2, .c (int base))]) (σ' := [.dead, .one (vec 1 eU8 l)]) 1 0 Z Z Z ⟨Z, Z, Z, Y⟩ Z ⟨trivial, ⟨Blk.im_ok _ _ _, k7 Z⟩, Y⟩ (.d (.f (.e Z Z (.nil (b5 (.d (.f (.a Z Z (.z Z Z (.e Z Z (.nil (b5 ?_))))))))))))
 obtain ⟨u, hx55, h⟩ := b7 h
 refine AWP.seqJ (⟨[(0, .c (.own 1 0 l.length)), (2, .c (int base)), (7, .c (.imm (.val (.int .u64 ((IntKind.u64).wrap iv)))))], [.dead, .one (vec 1 eU8 l)]⟩) ?_ ?_
 ·refine AWP.d (.f (.a Z Z (.j Z Z Z (.nil (b5 (.ite Z hx55 (fun hc56 hx55 => ?_) (fun hc56 hx55 => ?_)))))))
  ·cases hx55
  ·refine AWP.skip ?_
   obtain rfl := oi hx55
   refine b5 (Sub.env ⟨Z, Z, Z, Y⟩)
 ·try dsimp only at h
  refine AWP.d ?_
  obtain ⟨a20, ha20, h⟩ := b7 h
  refine AWP.f (.a Z Z (.a Z Z (.a Z Z (.callF (r2 := .c (.own 3 0 a20.length)) (σ'' := [.dead, .dead, .dead, .one (vec 1 eU8 a20)]) Z Z Z (FnOk.lend [1] (T0 ha20) Z Z Z Z Z Z (by exact ⟨.vec, Y⟩) Z (by exact ⟨(.live Z .vec), Y⟩) Z Z (by exact ⟨.dead, .dead, .dead, (.new 2 Z Z .vec), Y⟩)) (.e Z Z (.nil (b5 (.ret ?_))))))))
  obtain rfl := oi h
  exact ⟨⟨[(6, .c (.own 3 0 a20.length))], [.dead, .dead, .dead, .one (vec 1 eU8 a20)]⟩, Sub.env ⟨Z, Y⟩, Done.ret Z ⟨Z, Z⟩⟩
theorem ad6 {iv : Int} {base : Int} {l : List Int} {r : (List Int)} (h : x9 iv base l = some r) : FnOk Tryz.prog 110 [.c (.own 0 0 l.length), .c (int iv), .c (int base)] (ad4 iv base l) (fun tt ss => tt = .c (.own 4 0 r.length) ∧ ss = [.dead, .dead, .dead, .dead, .one (vec 1 eU8 r)]) := by
 refine FnOk.enter (rs := [.t 6]) Tryz.func110 Z Tryz.ntmps110 Tryz.results110 Z ⟨trivial, Y⟩ (by kernel_rfl) Z ?_
 refine AWP.weak ?_
 unfold x9 at h
 refine AWP.a (env' := [(0, .c (.own 1 0 l.length)), (1, .c (int iv)), (2, .c (int base))]) (σ' := [.dead, .one (vec 1 eU8 l)]) 1 0 Z Z Z ⟨Z, Z, Z, Y⟩ Z ⟨trivial, ⟨Blk.im_ok _ _ _, k7 Z⟩, Y⟩ (.d (.f (.e Z Z (.nil (b5 (.d ?_))))))
 obtain ⟨a10, ha10, h⟩ := b7 h
 refine AWP.f (.a Z Z (.a Z Z (.a Z Z (.callF (r2 := .c (.own 4 0 a10.length)) (σ'' := [.dead, .dead, .dead, .dead, .one (vec 1 eU8 a10)]) Z Z Z (FnOk.lend [1] (U6 ha10) Z Z Z Z Z Z (by exact ⟨.vec, Y⟩) Z (by exact ⟨(.live Z .vec), Y⟩) Z Z (by exact ⟨.dead, .dead, .dead, .dead, (.new 3 Z Z .vec), Y⟩)) (.e Z Z (.nil (b5 (.ret ?_))))))))
 obtain rfl := oi h
 exact ⟨⟨[(6, .c (.own 4 0 a10.length))], [.dead, .dead, .dead, .dead, .one (vec 1 eU8 a10)]⟩, Sub.env ⟨Z, Y⟩, Done.ret Z ⟨Z, Z⟩⟩
theorem ai1 {l : LL} {r : ByteArray} (h : M8 l = some r) : d9 Tryz.prog 93 [.c (row 1 d4 l)] (.c (.imm (.val (.string r)))) := by
 unfold d9
 refine FnOk.enter (rs := [.t 2]) Tryz.func93 Z Tryz.ntmps93 Tryz.results93 Z ⟨trivial, Y⟩ (by kernel_rfl) Z ?_
 unfold M8 at h
 refine AWP.d (.f (.e Z Z (.nil (b5 (.d (.f (.e Z Z (.nil (b5 (.d (.d (.f (.a Z Z (S.len Z Z (fun hl9 => .a Z Z (.nil (b5 (.l (.virtV 1 eU8 3 Z Z Z ?_)))))))))))))))))))
 obtain ⟨c2, ho1, h⟩ := b7 h
 refine AWP.forS ho1 (fun t3 c2 => ⟨[(3, .c (.own 0 0 c2.length)), (8, .c (row 1 d4 l)), (9, .c (int (l.length : Int))), (10, .c (int t3))], [.one (vec 1 eU8 c2)]⟩) (fun c2 e st => e = .exit 0 ∧ Sub [] st ⟨[(3, .c (.own 0 0 c2.length))], [.one (vec 1 eU8 c2)]⟩) ?_ ?_ ?_ ?_
 ·try dsimp only
  exact Sub.env ⟨(x8 (by first | rfl | simp only [List.length_set])), Z, Z, Z, Y⟩
 ·intro t3 c2 hlot3 hltt3 _
  try dsimp only
  refine AWP.d (.f (.j Z Z Z (.nil (b5 (.d (.q Z hltt3 (.exit (d6 (d6 ⟨Z, ?_⟩)))))))))
  exact Sub.env ⟨Z, Y⟩
 ·intro t3 c2 o hlot3 hltt3 h
  unfold aa6 at h
  try dsimp only at h ⊢
  refine AWP.d (.f (.j Z Z Z (.nil (b5 (.d (.r Z hltt3 (.skip (b5 (.d (.l (.d ?_)))))))))))
  obtain ⟨a12, ha12, h⟩ := b7 h
  refine AWP.f (S.idx ha12 Z Z Z Z (.p Z Z Z Z (.e Z Z (.nil (b5 (.d (.d (.f (.a Z Z (S.len Z Z (fun hl15 => .a Z Z (.nil (b5 (.l ?_))))))))))))))
  obtain ⟨c4, ho2, h⟩ := b7 h
  refine AWP.forS ho2 (fun t5 c4 => ⟨[(3, .c (.own 0 0 c4.length)), (8, .c (row 1 d4 l)), (9, .c (int (l.length : Int))), (10, .c (int t3)), (14, .c (row 1 intI a12)), (15, .c (int (a12.length : Int))), (16, .c (int t5))], [.one (vec 1 eU8 c4)]⟩) (fun c4 e st => e = .exit 2 ∧ Sub [] st ⟨[(3, .c (.own 0 0 c4.length)), (8, .c (row 1 d4 l)), (9, .c (int (l.length : Int))), (10, .c (int t3))], [.one (vec 1 eU8 c4)]⟩) ?_ ?_ ?_ ?_
  ·try dsimp only
   exact Sub.env ⟨Z, Z, Z, Z, Z, Z, Z, Y⟩
  ·intro t5 c4 hlot5 hltt5 _
   try dsimp only
   refine AWP.d (.f (.j Z Z Z (.nil (b5 (.d (.q Z hltt5 (.exit (d6 (d6 ⟨Z, ?_⟩)))))))))
   exact Sub.env ⟨Z, Z, Z, Z, Y⟩
  ·intro t5 c4 o hlot5 hltt5 h
   unfold aa5 at h
   try dsimp only at h ⊢
   refine AWP.d (.f (.j Z Z Z (.nil (b5 (.d (.r Z hltt5 (.skip (b5 (.d (.l (.d ?_)))))))))))
   obtain ⟨a18, ha18, h⟩ := b7 h
   refine AWP.f (S.idx ha18 Z Z Z Z (.p Z Z Z Z (.e Z Z (.nil (b5 ?_)))))
   obtain ⟨a22, ha22, a24, ha24, h⟩ := b2 h
   refine AWP.f (.a Z Z (.a Z Z (.callF (r2 := .c (.own 4 0 a22.length)) (σ'' := [.dead, .dead, .dead, .dead, .one (vec 1 eU8 a22)]) Z Z Z (FnOk.lend [0] (ad6 ha22) Z Z Z Z Z Z (by exact ⟨.vec, Y⟩) Z (by exact ⟨(.live Z .vec), Y⟩) Z Z (by exact ⟨.dead, .dead, .dead, .dead, (.new 4 Z Z .vec), Y⟩)) (S.lit (f := eU8) (l := [44]) (ess := [[.imm (.val (.int .u8 44))]]) Z Z Z Z Z Z Z ⟨⟨.inl Z, Y⟩, Y⟩ Z Z Z (S.append (f := eU8) ha24 Z Z Z Z Z Z (.own Z Z) Z Z Z Z (.e Z Z (.nil (d5 (b5 (.a (env' := [(3, .c (.own 4 0 a24.length)), (8, .c (row 1 d4 l)), (9, .c (int (l.length : Int))), (10, .c (int t3)), (14, .c (row 1 intI a12)), (15, .c (int (a12.length : Int))), (16, .c (int t5))]) (σ' := [.dead, .dead, .dead, .dead, .one (vec 1 eU8 a24), .one (vec 1 eU8 [44])]) 4 6 Z Z Z ⟨Z, Z, Z, Z, Z, Z, Z, Y⟩ Z ⟨trivial, trivial, trivial, trivial, ⟨Blk.im_ok _ _ _, k7 Z⟩, ⟨Blk.im_ok _ _ _, k7 Z⟩, Y⟩ (.f (.add Z Z Z (by omega) (.a Z Z (.nil ?_))))))))))))))
   obtain rfl := oi h
   refine b5 ((Sub.move (env' := [(3, .c (.own 0 0 a24.length)), (8, .c (row 1 d4 l)), (9, .c (int (l.length : Int))), (10, .c (int t3)), (14, .c (row 1 intI a12)), (15, .c (int (a12.length : Int))), (16, .c (int (t5 + 1)))]) (σ' := [.one (vec 1 eU8 a24), .dead, .dead, .dead, .dead, .one (vec 1 eU8 [44])]) 0 4 Z Z Z ⟨Z, Z, Z, Z, Z, Z, Z, Y⟩ Z ⟨⟨Blk.im_ok _ _ _, k7 Z⟩, trivial, trivial, trivial, trivial, ⟨Blk.im_ok _ _ _, k7 Z⟩, Y⟩).trans (Sub.cut ⟨Z, Z, Z, Z, Z, Z, Z, Y⟩ Z ⟨.vec, Y⟩ Z))
  ·intro e s hq
   obtain ⟨rfl, hs⟩ := hq
   refine ⟨_, hs, ?_⟩
   refine f9 (b5 ?_)
   obtain ⟨a28, ha28, h⟩ := b7 h
   refine AWP.f (.a Z Z (S.lit (f := eU8) (l := [59]) (ess := [[.imm (.val (.int .u8 59))]]) Z Z Z Z Z Z Z ⟨⟨.inl Z, Y⟩, Y⟩ Z Z Z (S.append (f := eU8) ha28 Z Z Z Z Z Z (.own Z Z) Z Z Z Z (.e Z Z (.nil (d5 (b5 (.a (env' := [(3, .c (.own 0 0 a28.length)), (8, .c (row 1 d4 l)), (9, .c (int (l.length : Int))), (10, .c (int t3))]) (σ' := [.one (vec 1 eU8 a28), .one (vec 1 eU8 [59])]) 0 2 Z Z Z ⟨Z, Z, Z, Z, Y⟩ Z ⟨⟨Blk.im_ok _ _ _, k7 Z⟩, ⟨Blk.im_ok _ _ _, k7 Z⟩, Y⟩ (.f (.add Z Z Z (by omega) (.a Z Z (.nil ?_))))))))))))
   obtain rfl := oi h
   refine b5 (Sub.cut ⟨Z, Z, Z, Z, Y⟩ Z ⟨.vec, Y⟩ Z)
 ·intro e s hq
  obtain ⟨rfl, hs⟩ := hq
  refine ⟨_, hs, ?_⟩
  refine f9 (b5 (.d (.f (.a Z Z (S.bytesStr Z Z Z Z (.e Z Z (.nil (b5 (.ret ?_)))))))))
  obtain rfl := oi h
  exact Done.ret Z Z
theorem B1 {sv : List Int} {part : List Int} {r : Bool} (h : p8 sv part = some r) : d9 Tryz.prog 54 [.c (row 1 intI sv), .c (row 1 intI part)] (.c (bool r)) := by
 unfold d9
 refine FnOk.enter (rs := [.t 4]) Tryz.func54 Z Tryz.ntmps54 Tryz.results54 Z ⟨trivial, Y⟩ (by kernel_rfl) Z ?_
 unfold p8 at h
 refine AWP.d (.f (.e Z Z (.nil (b5 (.d (.f (.e Z Z (.nil (b5 (.d (.d (.f (.a Z Z (S.len Z Z (fun hl9 => .a Z Z (.nil (b5 (.l ?_))))))))))))))))))
 obtain ⟨oo, ho1, h⟩ := b7 h
 refine AWP.rngS ho1 (fun t4 iv3 => ⟨[(0, .c (row 1 intI sv)), (5, .c (int iv3)), (8, .c (row 1 intI part)), (9, .c (int (part.length : Int))), (10, .c (int t4))], []⟩) (fun o e st => match o with | .inl iv3 => e = .exit 0 ∧ Sub [] st ⟨[], []⟩ | .inr x => e = .ret ∧ Done [.t 4] (fun t _ => t = .c (bool x)) .ret st) ?_ ?_ ?_ ?_
 ·try dsimp only
  exact Sub.env ⟨Z, Z, Z, Z, Z, Y⟩
 ·intro t4 iv3 hlot4 hltt4 _
  try dsimp only
  refine AWP.d (.f (.j Z Z Z (.nil (b5 (.d (.q Z hltt4 (.exit (d6 (d6 ⟨Z, ?_⟩)))))))))
  exact Sub.env trivial
 ·intro t4 iv3 o hlot4 hltt4 h
  unfold K7 at h
  try dsimp only at h ⊢
  refine AWP.d (.f (.j Z Z Z (.nil (b5 (.d (.r Z hltt4 (.skip (b5 (.d (.l (.d ?_)))))))))))
  obtain ⟨a12, ha12, h⟩ := b7 h
  refine AWP.f (S.idx ha12 Z Z Z Z (.p Z Z Z Z (.e Z Z (.nil (b5 (.d (.l ?_)))))))
  obtain ⟨iv6, ho2, h⟩ := b7 h
  refine AWP.loopS ho2 (fun iv5 => ⟨[(0, .c (row 1 intI sv)), (5, .c (int iv5)), (7, .c (int a12)), (8, .c (row 1 intI part)), (9, .c (int (part.length : Int))), (10, .c (int t4))], []⟩) (fun iv6 e st => e = .exit 2 ∧ Sub [] st ⟨[(0, .c (row 1 intI sv)), (5, .c (int iv6)), (7, .c (int a12)), (8, .c (row 1 intI part)), (9, .c (int (part.length : Int))), (10, .c (int t4))], []⟩) ?_ ?_ ?_
  ·try dsimp only
   exact Sub.env ⟨Z, Z, Z, Z, Z, Z, Y⟩
  ·intro iv5 o h
   unfold F3 at h
   try dsimp only at h ⊢
   refine AWP.d ?_
   obtain ⟨t7, hx8, h⟩ := b7 h
   refine AWP.seqJ (⟨[(0, .c (row 1 intI sv)), (5, .c (int iv5)), (7, .c (int a12)), (8, .c (row 1 intI part)), (9, .c (int (part.length : Int))), (10, .c (int t4)), (25, .c (bool t7))], []⟩) ?_ ?_
   ·rcases bft (decide (iv5 < (sv.length : Int))) with hb9 | hb9
    ·replace hx8 := B4 hb9 hx8
     obtain ⟨a21, ha21, hx8⟩ := b7 hx8
     refine AWP.f (.a Z Z (.a Z Z (S.len Z Z (fun hl16 => .j Z Z Z (.a Z Z (.g Z Z Z hb9 (.a Z Z (.g Z Z Z hb9 (.a Z Z (.g Z Z Z hb9 (S.idx ha21 Z Z Z Z (.g Z Z Z hb9 (.p Z Z Z Z (.g Z Z Z hb9 (.a Z Z (.g Z Z Z hb9 (.j Z Z Z (.o Z hb9 Z Z (.nil ?_)))))))))))))))))))
     obtain rfl := oi hx8
     refine b5 (Sub.env ⟨Z, Z, Z, Z, Z, Z, Z, Y⟩)
    ·replace hx8 := B5 hb9 hx8
     refine AWP.f (.a Z Z (.a Z Z (S.len Z Z (fun hl16 => .j Z Z Z (.a Z Z (.i Z Z Z hb9 (.i Z Z Z hb9 (.i Z Z Z hb9 (.i Z Z Z hb9 (.i Z Z Z hb9 (.i Z Z Z hb9 (.n Z hb9 Z Z (.nil ?_)))))))))))))
     obtain rfl := oi hx8
     refine b5 (Sub.env ⟨Z, Z, Z, Z, Z, Z, Z, Y⟩)
   ·refine AWP.s Z h (fun hc10 h => ?_) (fun hc10 h => ?_)
    ·refine AWP.skip (b5 (.l (.f (.a Z Z (S.add Z Z Z (.e Z Z (.nil (d5 ?_))))))))
     obtain rfl := oi h
     refine b5 ⟨_, Z, ?_⟩
     exact Sub.env ⟨Z, Z, Z, Z, Z, Z, Y⟩
    ·refine AWP.exit (d6 ?_)
     obtain rfl := oi h
     refine d6 ⟨_, Z, Z, ?_⟩
     exact Sub.env ⟨Z, Z, Z, Z, Z, Z, Y⟩
  ·intro e s hq
   obtain ⟨rfl, hs⟩ := hq
   refine ⟨_, hs, ?_⟩
   refine f9 (b5 ?_)
   obtain ⟨t11, hx12, h⟩ := b7 h
   refine AWP.seqJ (⟨[(0, .c (row 1 intI sv)), (5, .c (int iv6)), (8, .c (row 1 intI part)), (9, .c (int (part.length : Int))), (10, .c (int t4)), (39, .c (bool t11))], []⟩) ?_ ?_
   ·rcases bft (decide (iv6 = (sv.length : Int))) with hb13 | hb13
    ·replace hx12 := B4 hb13 hx12
     refine AWP.f (.a Z Z (.a Z Z (S.len Z Z (fun hl30 => .u Z Z Z (.a Z Z (.i Z Z Z hb13 (.i Z Z Z hb13 (.i Z Z Z hb13 (.i Z Z Z hb13 (.i Z Z Z hb13 (.i Z Z Z hb13 (.o Z hb13 Z Z (.nil ?_)))))))))))))
     obtain rfl := oi hx12
     refine b5 (Sub.env ⟨Z, Z, Z, Z, Z, Z, Y⟩)
    ·replace hx12 := B5 hb13 hx12
     obtain ⟨a35, ha35, hx12⟩ := b7 hx12
     refine AWP.f (.a Z Z (.a Z Z (S.len Z Z (fun hl30 => .u Z Z Z (.a Z Z (.g Z Z Z hb13 (.a Z Z (.g Z Z Z hb13 (.a Z Z (.g Z Z Z hb13 (S.idx ha35 Z Z Z Z (.g Z Z Z hb13 (.p Z Z Z Z (.g Z Z Z hb13 (.a Z Z (.g Z Z Z hb13 (.neq Z Z Z (.n Z hb13 Z Z (.nil ?_)))))))))))))))))))
     obtain rfl := oi hx12
     refine b5 (Sub.env ⟨Z, Z, Z, Z, Z, Z, Y⟩)
   ·refine AWP.s Z h (fun hc14 h => ?_) (fun hc14 h => ?_)
    ·refine AWP.d (.f (.e Z Z (.nil (b5 (.ret (g7 (d8 ?_)))))))
     obtain rfl := oi h
     refine d8 ⟨_, Z, Z, ?_⟩
     exact Done.ret Z Z
    ·refine AWP.skip (d5 (b5 (.f (.add Z Z Z (by omega) (.a Z Z (.nil ?_))))))
     obtain rfl := oi h
     refine b5 ⟨_, Z, ?_⟩
     exact Sub.env ⟨Z, Z, Z, Z, Z, Y⟩
 ·intro e s hq
  rcases oo with iv3 | x
  ·try dsimp only at h hq
   obtain ⟨rfl, hs⟩ := hq
   refine ⟨_, hs, ?_⟩
   refine f9 (b5 (.d (.f (.e Z Z (.nil (b5 (.ret ?_)))))))
   obtain rfl := oi h
   exact Done.ret Z Z
  ·try dsimp only at h hq
   obtain ⟨rfl, hs⟩ := hq
   refine ⟨_, Sub.refl _ _, ?_⟩
   refine g7 (d8 ?_)
   obtain rfl := oi h
   exact hs
theorem ae7 {ov : b9} {sv : List Int} {op : Int} {r : Bool} (h : P9 ov sv op = some r) : d9 Tryz.prog 60 [.agg (tO ov), .c (row 1 intI sv), .c (int op)] (.c (bool r)) := by
 unfold d9
 refine FnOk.enter (rs := [.t 6]) Tryz.func60 Z Tryz.ntmps60 Tryz.results60 Z ⟨trivial, Y⟩ (by kernel_rfl) Z ?_
 unfold P9 at h
 refine AWP.d (.f (W.box Z Z Z Z Z Z (.e Z Z (.nil (b5 (.d ?_))))))
 obtain ⟨a11, ha11, a14, ha14, h⟩ := b2 h
 refine AWP.f (.a Z Z (W.fieldAddr Z Z Z Z (.m Z Z Z Z Z Z (.a Z Z (S.idx ha11 Z Z Z Z (W.fieldAddrI Z Z Z Z (.p Z Z Z Z (.k Z Z Z Z (B1 ha14) Z (.e Z Z (.nil (b5 (.ret ?_))))))))))))
 obtain rfl := oi h
 exact Done.ret Z Z
theorem ak8 {sv : List Int} {add : List Int} {del : List Int} {r : (List Int)} (h : G0 sv add del = some r) : m5 Tryz.prog 67 [.c (row 1 intI sv), .c (row 1 intI add), .c (row 1 intI del)] 1 (List.map intI r) := by
 unfold m5
 refine FnOk.enter (rs := [.t 6]) Tryz.func67 Z Tryz.ntmps67 Tryz.results67 Z ⟨trivial, Y⟩ (by kernel_rfl) Z ?_
 unfold G0 at h
 refine AWP.d (.f (.e Z Z (.nil (b5 (.d (.f (.e Z Z (.nil (b5 (.d (.d (.f (.a Z Z (S.len Z Z (fun hl13 => .a Z Z (.nil (b5 (.l (.virtV 1 intI 7 Z Z Z ?_)))))))))))))))))))
 obtain ⟨c4, ho1, h⟩ := b7 h
 refine AWP.forS ho1 (fun t5 c4 => ⟨[(1, .c (row 1 intI add)), (2, .c (row 1 intI del)), (7, .c (.own 0 0 c4.length)), (12, .c (row 1 intI sv)), (13, .c (int (sv.length : Int))), (14, .c (int t5))], [.one (vec 1 intI c4)]⟩) (fun c4 e st => e = .exit 0 ∧ Sub [] st ⟨[(1, .c (row 1 intI add)), (7, .c (.own 0 0 c4.length))], [.one (vec 1 intI c4)]⟩) ?_ ?_ ?_ ?_
 ·try dsimp only
  exact Sub.env ⟨Z, Z, (x8 (by first | rfl | simp only [List.length_set])), Z, Z, Z, Y⟩
 ·intro t5 c4 hlot5 hltt5 _
  try dsimp only
  refine AWP.d (.f (.j Z Z Z (.nil (b5 (.d (.q Z hltt5 (.exit (d6 (d6 ⟨Z, ?_⟩)))))))))
  exact Sub.env ⟨Z, Z, Y⟩
 ·intro t5 c4 o hlot5 hltt5 h
  unfold V1 at h
  try dsimp only at h ⊢
  refine AWP.d (.f (.j Z Z Z (.nil (b5 (.d (.r Z hltt5 (.skip (b5 ?_))))))))
  obtain ⟨c6, hx7, h⟩ := b7 h
  refine AWP.seqJ (⟨[(1, .c (row 1 intI add)), (2, .c (row 1 intI del)), (7, .c (.own 2 0 c6.length)), (12, .c (row 1 intI sv)), (13, .c (int (sv.length : Int))), (14, .c (int t5))], [.dead, .dead, .one (vec 1 intI c6)]⟩) ?_ ?_
  ·refine AWP.l (.d ?_)
   obtain ⟨a16, ha16, hx7⟩ := b7 hx7
   refine AWP.f (S.idx ha16 Z Z Z Z (.p Z Z Z Z (.e Z Z (.nil (b5 (.d ?_))))))
   obtain ⟨a21, ha21, hx7⟩ := b7 hx7
   refine AWP.f (.a Z Z (.a Z Z (.k Z Z Z Z (J1 ha21) Z (.a Z Z (.w Z Z Z (.w Z Z Z (.e Z Z (.e Z Z (.nil (b5 (.d (.f (.a Z Z (.v Z Z (.nil (b5 (.s Z hx7 (fun hc8 hx7 => ?_) (fun hc8 hx7 => ?_))))))))))))))))))
   ·obtain ⟨a29, ha29, hx7⟩ := b7 hx7
    refine AWP.f (.a Z Z (.a Z Z (S.lit (f := intI) (l := [a16]) (ess := [[int a16]]) Z Z Z Z Z Z Z ⟨⟨.inl Z, Y⟩, Y⟩ Z Z Z (S.append (f := intI) ha29 Z Z Z Z Z Z (.own Z Z) Z Z Z Z (.e Z Z (.nil (d5 ?_)))))))
    obtain rfl := oi hx7
    refine b5 (Sub.cut ⟨Z, Z, Z, Z, Z, Z, Y⟩ Z ⟨.dead, .dead, .vec, Y⟩ Z)
   ·refine AWP.skip (d5 ?_)
    obtain rfl := oi hx7
    refine b5 ((Sub.move (env' := [(1, .c (row 1 intI add)), (2, .c (row 1 intI del)), (7, .c (.own 2 0 c4.length)), (12, .c (row 1 intI sv)), (13, .c (int (sv.length : Int))), (14, .c (int t5))]) (σ' := [.dead, .dead, .one (vec 1 intI c4)]) 2 0 Z Z Z ⟨Z, Z, Z, Z, Z, Z, Y⟩ Z ⟨trivial, trivial, ⟨Blk.im_ok _ _ _, k7 Z⟩, Y⟩).trans (Sub.env ⟨Z, Z, Z, Z, Z, Z, Y⟩))
  ·refine AWP.f (.add Z Z Z (by omega) (.a Z Z (.nil ?_)))
   obtain rfl := oi h
   refine b5 ((Sub.move (env' := [(1, .c (row 1 intI add)), (2, .c (row 1 intI del)), (7, .c (.own 0 0 c6.length)), (12, .c (row 1 intI sv)), (13, .c (int (sv.length : Int))), (14, .c (int (t5 + 1)))]) (σ' := [.one (vec 1 intI c6), .dead]) 0 2 Z Z Z ⟨Z, Z, Z, Z, Z, Z, Y⟩ Z ⟨⟨Blk.im_ok _ _ _, k7 Z⟩, trivial, Y⟩).trans (Sub.cut ⟨Z, Z, Z, Z, Z, Z, Y⟩ Z ⟨.vec, Y⟩ Z))
 ·intro e s hq
  obtain ⟨rfl, hs⟩ := hq
  refine ⟨_, hs, ?_⟩
  refine f9 (b5 (.d ?_))
  obtain ⟨a33, ha33, h⟩ := b7 h
  refine AWP.f (.a Z Z (.a Z Z (S.append (f := intI) ha33 Z Z Z Z Z Z .row Z Z Z Z (.e Z Z (.nil (b5 (.d (.a (env' := [(7, .c (.own 0 0 a33.length))]) (σ' := [.one (vec 1 intI a33)]) 0 1 Z Z Z ⟨Z, Y⟩ Z ⟨⟨Blk.im_ok _ _ _, k7 Z⟩, Y⟩ ?_))))))))
  obtain ⟨a35, ha35, h⟩ := b7 h
  refine AWP.f (.a Z Z (S.sort ha35 sortL_ok Z Z Z Z Z Z (.nil (b5 (.d (.f (.a Z Z (S.compact compactL_ok Z Z (sortL_len ha35) Z Z Z Z Z (.e Z Z (.nil (b5 (.ret ?_))))))))))))
  obtain rfl := oi h
  exact Done.ret Z (Fresh.mk Z Z)
theorem aj8 {xv : Int} {yv : Int} {r : Int} (h : J8 xv yv = some r) : d9 Tryz.prog 95 [.c (int xv), .c (int yv)] (.c (int r)) := by
 unfold d9
 refine FnOk.enter (rs := [.t 4]) Tryz.func95 Z Tryz.ntmps95 Tryz.results95 Z ⟨trivial, Y⟩ (by kernel_rfl) Z ?_
 unfold J8 at h
 refine AWP.d (.f (.e Z Z (.nil (b5 (.d ?_)))))
 obtain ⟨a8, ha8, h⟩ := b7 h
 refine AWP.f (.a Z Z (.k Z Z Z Z (A8 ha8) Z (.e Z Z (.nil (b5 (.d ?_))))))
 obtain ⟨a10, ha10, h⟩ := b7 h
 refine AWP.f (.a Z Z (.k Z Z Z Z (A8 ha10) Z (.e Z Z (.nil (b5 (.d (.d (.f (.a Z Z (.nil (b5 (.s Z h (fun hc3 h => ?_) (fun hc3 h => ?_)))))))))))))
 ·refine AWP.d (.d (.f (.a Z Z (.nil (b5 (.s Z h (fun hc4 h => ?_) (fun hc4 h => ?_)))))))
  ·refine AWP.d (.f (.e Z Z (.nil (b5 (.ret (d8 (d8 ?_)))))))
   obtain rfl := oi h
   exact Done.ret Z Z
  ·refine AWP.skip (b5 (.d (.f (.e Z Z (.nil (b5 (.ret (d8 ?_))))))))
   obtain rfl := oi h
   exact Done.ret Z Z
 ·refine AWP.skip (b5 (.d (.d (.f (.a Z Z (.nil (b5 (.s Z h (fun hc5 h => ?_) (fun hc5 h => ?_)))))))))
  ·refine AWP.d (.f (.e Z Z (.nil (b5 (.ret (d8 ?_))))))
   obtain rfl := oi h
   exact Done.ret Z Z
  ·refine AWP.skip (b5 (.d (.d (.f (.a Z Z (.a Z Z (.j Z Z Z (.nil (b5 (.ite Z h (fun hc6 h => ?_) (fun hc6 h => ?_)))))))))))
   ·refine AWP.d (.f (.e Z Z (.nil (b5 (.ret (d8 ?_))))))
    obtain rfl := oi h
    exact Done.ret Z Z
   ·refine AWP.skip (b5 (.d (.d (.f (.a Z Z (.a Z Z (.gtr Z Z Z (.nil (b5 (.ite Z h (fun hc7 h => ?_) (fun hc7 h => ?_)))))))))))
    ·refine AWP.d (.f (.e Z Z (.nil (b5 (.ret (d8 ?_))))))
     obtain rfl := oi h
     exact Done.ret Z Z
    ·refine AWP.skip (b5 (.d (.f (.e Z Z (.nil (b5 (.ret ?_)))))))
     obtain rfl := oi h
     exact Done.ret Z Z
theorem q9 {s11 : List Int} {s22 : List Int} {r : Int} (h : slices_Compare_int_int s11 s22 = some r) : d9 Tryz.prog 72 [.c (row 1 intI s11), .c (row 1 intI s22)] (.c (int r)) := by
 unfold d9
 refine FnOk.enter (rs := [.t 4]) Tryz.func72 Z Tryz.ntmps72 Tryz.results72 Z ⟨trivial, Y⟩ (by kernel_rfl) Z ?_
 unfold slices_Compare_int_int at h
 refine AWP.d (.f (.e Z Z (.nil (b5 (.d (.d (.f (.a Z Z (S.len Z Z (fun hl10 => .a Z Z (.nil (b5 (.l ?_)))))))))))))
 obtain ⟨oo, ho1, h⟩ := b7 h
 refine AWP.rngS ho1 (fun t3 _ => ⟨[(0, .c (row 1 intI s11)), (1, .c (row 1 intI s22)), (9, .c (row 1 intI s11)), (10, .c (int (s11.length : Int))), (11, .c (int t3))], []⟩) (fun o e st => match o with | .inl _ => e = .exit 0 ∧ Sub [] st ⟨[(0, .c (row 1 intI s11)), (1, .c (row 1 intI s22))], []⟩ | .inr x => e = .ret ∧ Done [.t 4] (fun t _ => t = .c (int x)) .ret st) ?_ ?_ ?_ ?_
 ·try dsimp only
  exact Sub.env ⟨Z, Z, Z, Z, Z, Y⟩
 ·intro t3 s hlot3 hltt3 _
  try dsimp only
  refine AWP.d (.f (.j Z Z Z (.nil (b5 (.d (.q Z hltt3 (.exit (d6 (d6 ⟨Z, ?_⟩)))))))))
  exact Sub.env ⟨Z, Z, Y⟩
 ·intro t3 s o hlot3 hltt3 h
  unfold B3 at h
  try dsimp only at h ⊢
  refine AWP.d (.f (.j Z Z Z (.nil (b5 (.d (.r Z hltt3 (.skip (b5 (.d (.l (.d ?_)))))))))))
  obtain ⟨a14, ha14, h⟩ := b7 h
  refine AWP.f (.a Z Z (S.idx ha14 Z Z Z Z (.p Z Z Z Z (.e Z Z (.e Z Z (.nil (b5 (.d (.d (.f (.a Z Z (.a Z Z (S.len Z Z (fun hl18 => .geq Z Z Z (.nil (b5 (.ite Z h (fun hc4 h => ?_) (fun hc4 h => ?_))))))))))))))))))
  ·refine AWP.d (.f (.e Z Z (.nil (b5 (.ret (d8 (g7 (d8 ?_))))))))
   obtain rfl := oi h
   refine d8 ⟨_, Z, Z, ?_⟩
   exact Done.ret Z Z
  ·refine AWP.skip (b5 (.d ?_))
   obtain ⟨a22, ha22, h⟩ := b7 h
   refine AWP.f (.a Z Z (.a Z Z (S.idx ha22 Z Z Z Z (.p Z Z Z Z (.e Z Z (.nil (b5 (.d ?_))))))))
   obtain ⟨a26, ha26, h⟩ := b7 h
   refine AWP.f (.a Z Z (.a Z Z (.k Z Z Z Z (aj8 ha26) Z (.e Z Z (.nil (b5 (.d (.f (.a Z Z (.neq Z Z Z (.nil (b5 (.iteN Z h (fun hc5 h => ?_) (fun hc5 h => ?_))))))))))))))
   ·refine AWP.d (.f (.a Z Z (.e Z Z (.nil (b5 (.ret (g7 (d8 ?_))))))))
    obtain rfl := oi h
    refine d8 ⟨_, Z, Z, ?_⟩
    exact Done.ret Z Z
   ·refine AWP.skip (d5 (b5 (.f (.add Z Z Z (by omega) (.a Z Z (.nil ?_))))))
    obtain rfl := oi h
    refine b5 ⟨_, Z, ?_⟩
    exact Sub.env ⟨Z, Z, Z, Z, Z, Y⟩
 ·intro e s hq
  rcases oo with u | x
  ·try dsimp only at h hq
   obtain ⟨rfl, hs⟩ := hq
   refine ⟨_, hs, ?_⟩
   refine f9 (b5 (.d (.d (.f (.a Z Z (S.len Z Z (fun hl32 => .a Z Z (S.len Z Z (fun hl34 => .j Z Z Z (.nil (b5 (.ite Z h (fun hc6 h => ?_) (fun hc6 h => ?_)))))))))))))
   ·refine AWP.d (.f (.e Z Z (.nil (b5 (.ret (d8 ?_))))))
    obtain rfl := oi h
    exact Done.ret Z Z
   ·refine AWP.skip (b5 (.d (.f (.e Z Z (.nil (b5 (.ret ?_)))))))
    obtain rfl := oi h
    exact Done.ret Z Z
  ·try dsimp only at h hq
   obtain ⟨rfl, hs⟩ := hq
   refine ⟨_, Sub.refl _ _, ?_⟩
   refine g7 (d8 ?_)
   obtain rfl := oi h
   exact hs
theorem I6 {s11 : List Int} {s22 : List Int} {r : Bool} (h : u5 s11 s22 = some r) : d9 Tryz.prog 82 [.c (row 1 intI s11), .c (row 1 intI s22)] (.c (bool r)) := by
 unfold d9
 refine FnOk.enter (rs := [.t 4]) Tryz.func82 Z Tryz.ntmps82 Tryz.results82 Z ⟨trivial, Y⟩ (by kernel_rfl) Z ?_
 unfold u5 at h
 refine AWP.d (.f (.e Z Z (.nil (b5 (.d (.d (.f (.a Z Z (S.len Z Z (fun hl7 => .a Z Z (S.len Z Z (fun hl9 => .neq Z Z Z (.nil (b5 (.iteN Z h (fun hc3 h => ?_) (fun hc3 h => ?_))))))))))))))))
 ·refine AWP.d (.f (.e Z Z (.nil (b5 (.ret (d8 ?_))))))
  obtain rfl := oi h
  exact Done.ret Z Z
 ·refine AWP.skip (b5 (.d (.d (.f (.a Z Z (S.len Z Z (fun hl12 => .a Z Z (.nil (b5 (.l ?_))))))))))
  obtain ⟨oo, ho1, h⟩ := b7 h
  refine AWP.rngS ho1 (fun t4 _ => ⟨[(0, .c (row 1 intI s11)), (1, .c (row 1 intI s22)), (12, .c (int (s11.length : Int))), (13, .c (int t4))], []⟩) (fun o e st => match o with | .inl _ => e = .exit 0 ∧ Sub [] st ⟨[], []⟩ | .inr x => e = .ret ∧ Done [.t 4] (fun t _ => t = .c (bool x)) .ret st) ?_ ?_ ?_ ?_
  ·try dsimp only
   exact Sub.env ⟨Z, Z, Z, Z, Y⟩
  ·intro t4 s hlot4 hltt4 _
   try dsimp only
   refine AWP.d (.f (.j Z Z Z (.nil (b5 (.d (.q Z hltt4 (.exit (d6 (d6 ⟨Z, ?_⟩)))))))))
   exact Sub.env trivial
  ·intro t4 s o hlot4 hltt4 h
   unfold I8 at h
   try dsimp only at h ⊢
   refine AWP.d (.f (.j Z Z Z (.nil (b5 (.d (.r Z hltt4 (.skip (b5 (.d (.l (.d (.f (.a Z Z (.e Z Z (.nil (b5 (.d ?_)))))))))))))))))
   obtain ⟨a18, ha18, a22, ha22, h⟩ := b2 h
   refine AWP.drawI mixed Z ?_
   refine g9.consF Z (fun E => AOps.a Z Z (.nil ⟨Z, Z⟩)) Z (.consF Z (fun E => AOps.a Z Z (.nil ⟨Z, Z⟩)) Z (.consF Z (fun E => S.idx ha18 Z Z Z Z (.nil ⟨Z, Z⟩)) Z (.consF Z (fun E => AOps.p Z Z Z Z (.nil ⟨Z, Z⟩)) Z (.consF Z (fun E => AOps.a Z Z (.nil ⟨Z, Z⟩)) Z (.consF Z (fun E => AOps.a Z Z (.nil ⟨Z, Z⟩)) Z (.consF Z (fun E => S.idx ha22 Z Z Z Z (.nil ⟨Z, Z⟩)) Z (.consF Z (fun E => AOps.p Z Z Z Z (.nil ⟨Z, Z⟩)) Z (.consF Z (fun E => AOps.neq Z Z Z (.nil ⟨Z, Z⟩)) Z ?_))))))))
   refine g9.done ?_
   dsimp only [i9]
   refine b5 (.iteN Z h (fun hc5 h => ?_) (fun hc5 h => ?_))
   ·refine AWP.d (.f (.e Z Z (.nil (b5 (.ret (g7 (d8 ?_)))))))
    obtain rfl := oi h
    refine d8 ⟨_, Z, Z, ?_⟩
    exact Done.ret Z Z
   ·refine AWP.skip (d5 (b5 (.f (.add Z Z Z (by omega) (.a Z Z (.nil ?_))))))
    obtain rfl := oi h
    refine b5 ⟨_, Z, ?_⟩
    exact Sub.env ⟨Z, Z, Z, Z, Y⟩
  ·intro e s hq
   rcases oo with u | x
   ·try dsimp only at h hq
    obtain ⟨rfl, hs⟩ := hq
    refine ⟨_, hs, ?_⟩
    refine f9 (b5 (.d (.f (.e Z Z (.nil (b5 (.ret ?_)))))))
    obtain rfl := oi h
    exact Done.ret Z Z
   ·try dsimp only at h hq
    obtain ⟨rfl, hs⟩ := hq
    refine ⟨_, Sub.refl _ _, ?_⟩
    refine g7 (d8 ?_)
    obtain rfl := oi h
    exact hs
theorem E1 {xv : LL} {target : List Int} {cmp : (List Int) → (List Int) → Option Int} {r : Int × Bool} {fvcmp : FuncId} {cvcmp : List C} (hcvcmp : C.okL 0 cvcmp = true) (hcmp : ∀ {y1 : List Int} {y2 : List Int} {z : Int}, cmp y1 y2 = some z → d9 Tryz.prog fvcmp ([.c (row 1 intI y1), .c (row 1 intI y2)] ++ cvcmp.map T.c) (.c (int z))) (h : l6 xv target cmp = some r) : d9 Tryz.prog 71 [.c (row 1 d4 xv), .c (row 1 intI target), .c (.fn fvcmp cvcmp)] (.tup [.c (int r.1), .c (bool r.2)]) := by
 unfold d9
 refine FnOk.enter (rs := [.t 6, .t 7]) Tryz.func71 Z Tryz.ntmps71 Tryz.results71 Z ⟨trivial, trivial, Y⟩ (by kernel_rfl) Z ?_
 unfold l6 at h
 refine AWP.d (.f (.e Z Z (.e Z Z (.nil (b5 (.d (.f (.a Z Z (S.len Z Z (fun hl13 => .e Z Z (.nil (b5 (.d (.f (.a Z Z (.e Z Z (.e Z Z (.nil (b5 (.d (.l ?_)))))))))))))))))))))
 obtain ⟨iv6, ho1, h⟩ := b7 h
 refine AWP.loopS ho1 (fun (iv4, j5) => ⟨[(0, .c (row 1 d4 xv)), (1, .c (row 1 intI target)), (2, .c (.fn fvcmp cvcmp)), (8, .c (int (xv.length : Int))), (9, .c (int iv4)), (10, .c (int j5))], []⟩) (fun iv6 e st => e = .exit 0 ∧ Sub [] st ⟨[(0, .c (row 1 d4 xv)), (1, .c (row 1 intI target)), (2, .c (.fn fvcmp cvcmp)), (8, .c (int (xv.length : Int))), (9, .c (int iv6))], []⟩) ?_ ?_ ?_
 ·try dsimp only
  exact Sub.env ⟨Z, Z, Z, Z, Z, Z, Y⟩
 ·intro s o h
  obtain ⟨iv4, j5⟩ := s
  unfold D8 at h
  try dsimp only at h ⊢
  refine AWP.d (.d (.f (.a Z Z (.a Z Z (.j Z Z Z (.nil (b5 (.ite Z h (fun hc7 h => ?_) (fun hc7 h => ?_)))))))))
  ·refine AWP.skip (b5 (.l (.d (.f (.a Z Z (.a Z Z (S.add Z Z Z (.z Z Z (.shr Z Z Z (by decide) Z (.z Z Z (.e Z Z (.nil (b5 (.d ?_))))))))))))))
   obtain ⟨a27, ha27, a30, ha30, h⟩ := b2 h
   refine AWP.f (.a Z Z (.a Z Z (.a Z Z (S.idx ha27 Z Z Z Z (.p Z Z Z Z (.a Z Z (.k Z Z (X4 Z hcvcmp) Z (hcmp ha30) Z (.j Z Z Z (.nil (b5 (.ite Z h (fun hc8 h => ?_) (fun hc8 h => ?_))))))))))))
   ·refine AWP.f (.a Z Z (S.add Z Z Z (.e Z Z (.nil (d5 ?_)))))
    obtain rfl := oi h
    refine b5 ⟨_, Z, ?_⟩
    exact Sub.env ⟨Z, Z, Z, Z, Z, Z, Y⟩
   ·refine AWP.f (.a Z Z (.e Z Z (.nil (d5 ?_))))
    obtain rfl := oi h
    refine b5 ⟨_, Z, ?_⟩
    exact Sub.env ⟨Z, Z, Z, Z, Z, Z, Y⟩
  ·refine AWP.exit (d6 ?_)
   obtain rfl := oi h
   refine d6 ⟨_, Z, Z, ?_⟩
   exact Sub.env ⟨Z, Z, Z, Z, Z, Y⟩
 ·intro e s hq
  obtain ⟨rfl, hs⟩ := hq
  refine ⟨_, hs, ?_⟩
  refine f9 (b5 ?_)
  obtain ⟨t9, hx10, h⟩ := b7 h
  refine AWP.seqJ (⟨[(6, .c (int iv6)), (7, .c (bool t9))], []⟩) ?_ ?_
  ·rcases bft (decide (iv6 < (xv.length : Int))) with hb11 | hb11
   ·replace hx10 := B4 hb11 hx10
    obtain ⟨a43, ha43, a46, ha46, hx10⟩ := b2 hx10
    refine AWP.f (.a Z Z (.a Z Z (.a Z Z (.j Z Z Z (.a Z Z (.g Z Z Z hb11 (.a Z Z (.g Z Z Z hb11 (.a Z Z (.g Z Z Z hb11 (.a Z Z (.g Z Z Z hb11 (S.idx ha43 Z Z Z Z (.g Z Z Z hb11 (.p Z Z Z Z (.g Z Z Z hb11 (.a Z Z (.g Z Z Z hb11 (.k Z Z (X4 Z hcvcmp) Z (hcmp ha46) Z (.g Z Z Z hb11 (.u Z Z Z (.o Z hb11 Z Z (.e Z Z (.e Z Z (.nil ?_)))))))))))))))))))))))))
    obtain rfl := oi hx10
    refine b5 (Sub.env ⟨Z, Z, Y⟩)
   ·replace hx10 := B5 hb11 hx10
    refine AWP.f (.a Z Z (.a Z Z (.a Z Z (.j Z Z Z (.a Z Z (.i Z Z Z hb11 (.i Z Z Z hb11 (.i Z Z Z hb11 (.i Z Z Z hb11 (.i Z Z Z hb11 (.i Z Z Z hb11 (.i Z Z Z hb11 (.i Z Z Z hb11 (.n Z hb11 Z Z (.e Z Z (.e Z Z (.nil ?_)))))))))))))))))
    obtain rfl := oi hx10
    refine b5 (Sub.env ⟨Z, Z, Y⟩)
  ·refine AWP.ret ?_
   obtain rfl := oi h
   exact Done.ret Z Z
theorem V6 {l : LL} {r : LL} (h : r7 l = some r) : FnOk Tryz.prog 100 [.c (.own 0 0 l.length), .c (.fn 82 [])] (v6 l) (fun tt ss => tt = .c (.own 1 0 r.length) ∧ ss = [.dead, .one (vec 1 d4 r)]) := by
 refine FnOk.enter (rs := [.t 4]) Tryz.func100 Z Tryz.ntmps100 Tryz.results100 Z ⟨trivial, Y⟩ (by kernel_rfl) Z ?_
 refine AWP.weak ?_
 unfold r7 at h
 refine AWP.a (env' := [(0, .c (.own 1 0 l.length)), (1, .c (.fn 82 []))]) (σ' := [.dead, .one (vec 1 d4 l)]) 1 0 Z Z Z ⟨Z, Z, Y⟩ Z ⟨trivial, ⟨Blk.im_ok _ _ _, k7 Z⟩, Y⟩ (.d (.f (.e Z Z (.nil (b5 (.d (.d (.f (.a Z Z (S.lenO Z Z Z (fun hl9 => .j Z Z Z (.nil (b5 (.ite Z h (fun hc53 h => ?_) (fun hc53 h => ?_)))))))))))))))
 ·refine AWP.d (.f (.a Z Z (.e Z Z (.nil (b5 (.ret (d8 ?_)))))))
  obtain rfl := oi h
  exact ⟨⟨[(4, .c (.own 1 0 l.length))], [.dead, .one (vec 1 d4 l)]⟩, Sub.env ⟨Z, Y⟩, Done.ret Z ⟨Z, Z⟩⟩
 ·refine AWP.skip (b5 (.d (.d (.f (.e Z Z (.nil (b5 (.l ?_))))))))
  obtain ⟨oo, ho1, h⟩ := b7 h
  refine AWP.rngS ho1 (fun kv54 _ => ⟨[(0, .c (.own 1 0 l.length)), (1, .c (.fn 82 [])), (5, .c (int kv54))], [.dead, .one (vec 1 d4 l)]⟩) (fun o e st => match o with | .inl _ => e = .exit 0 ∧ Sub (v6 l) st ⟨[(0, .c (.own 1 0 l.length))], [.dead, .one (vec 1 d4 l)]⟩ | .inr x => e = .ret ∧ ∃ J, Sub (v6 l) st J ∧ Done [.t 4] (fun tt ss => tt = .c (.own 1 0 x.length) ∧ ss = [.dead, .one (vec 1 d4 x)]) .ret J) ?_ ?_ ?_ ?_
  ·try dsimp only
   exact Sub.env ⟨Z, Z, Z, Y⟩
  ·intro kv54 s hlokv54 hltkv54 _
   try dsimp only
   refine AWP.d (.d (.f (.a Z Z (.a Z Z (S.lenO Z Z Z (fun hl14 => .j Z Z Z (.nil (b5 (.q Z hltkv54 (.exit (d6 (d6 ⟨Z, ?_⟩))))))))))))
   exact Sub.env ⟨Z, Y⟩
  ·intro kv54 s o hlokv54 hltkv54 h
   unfold n5 at h
   try dsimp only at h ⊢
   refine AWP.d (.d (.f (.a Z Z (.a Z Z (S.lenO Z Z Z (fun hl14 => .j Z Z Z (.nil (b5 (.r Z hltkv54 (.skip (b5 (.d (.l (.d ?_))))))))))))))
   obtain ⟨a21, ha21, a26, ha26, a28, ha28, h⟩ := b3 h
   refine AWP.drawI mixed Z ?_
   refine g9.consF Z (fun E => AOps.a Z Z (.nil ⟨Z, Z⟩)) Z (.consF Z (fun E => AOps.a Z Z (.nil ⟨Z, Z⟩)) Z (.consF Z (fun E => AOps.a Z Z (.nil ⟨Z, Z⟩)) Z (.consF Z (fun E => S.idxO ha21 Z Z Z Z Z (.nil ⟨Z, Z⟩)) Z (.consF Z (fun E => S.loadO ha21 Z Z Z Z Z (.nil ⟨Z, Z⟩)) Z (.consF Z (fun E => AOps.a Z Z (.nil ⟨Z, Z⟩)) Z (.consF Z (fun E => AOps.a Z Z (.nil ⟨Z, Z⟩)) Z (.consF Z (fun E => AOps.sub' Z Z Z (by omega) (.nil ⟨Z, Z⟩)) Z (.consF Z (fun E => S.idxO ha26 Z Z Z Z Z (.nil ⟨Z, Z⟩)) Z (.consF Z (fun E => S.loadO ha26 Z Z Z Z Z (.nil ⟨Z, Z⟩)) Z (.consF Z (fun E => AOps.k Z Z Z Z (I6 ha28) Z (.nil ⟨Z, Z⟩)) Z ?_))))))))))
   refine g9.done ?_
   dsimp only [i9]
   refine b5 (.s Z h (fun hc55 h => ?_) (fun hc55 h => ?_))
   ·refine AWP.d ?_
    obtain ⟨u31, hu31, h⟩ := b7 h
    refine AWP.f (.a Z Z (.a Z Z (S.vFrom (V2 l) hu31 Z Z Z Z Z Z (.e Z Z (.nil (b5 (.d (.d (.f (.e Z Z (.nil (b5 (.l ?_)))))))))))))
    obtain ⟨⟨c56, kv57⟩, ho2, h⟩ := b7 h
    try dsimp only at h
    refine AWP.forS ho2 (fun k258 (c56, kv57) => ⟨[(0, .c (.own 1 0 c56.length)), (1, .c (.fn 82 [])), (5, .c (int kv57)), (6, .c (.own 1 ((0 + kv54).toNat) (((l.length : Int) - kv54).toNat))), (7, .c (int k258))], [.dead, .one (vec 1 d4 c56)]⟩) (fun (c56, kv57) e st => e = .exit 2 ∧ Sub (v6 l) st ⟨[(0, .c (.own 1 0 c56.length)), (5, .c (int kv57))], [.dead, .one (vec 1 d4 c56)]⟩) ?_ ?_ ?_ ?_
    ·try dsimp only
     exact Sub.env ⟨Z, Z, Z, Z, Z, Y⟩
    ·intro k258 s hlok258 hltk258 _
     obtain ⟨c56, kv57⟩ := s
     try dsimp only
     refine AWP.d (.d (.f (.a Z Z (.a Z Z (S.lenV (P5 (vw_cut (V2 l) hu31)).2.1 Z Z Z (fun hl34 => .j Z Z Z (.nil (b5 (.q Z hltk258 (.exit (d6 (d6 ⟨Z, ?_⟩))))))))))))
     exact Sub.env ⟨Z, Z, Y⟩
    ·intro k258 s o hlok258 hltk258 h
     obtain ⟨c56, kv57⟩ := s
     unfold o8 at h
     try dsimp only at h ⊢
     refine AWP.d (.d (.f (.a Z Z (.a Z Z (S.lenV (P5 (vw_cut (V2 l) hu31)).2.1 Z Z Z (fun hl34 => .j Z Z Z (.nil (b5 (.r Z hltk258 (.skip (b5 ?_)))))))))))
     obtain ⟨⟨c59, kv60⟩, hx61, h⟩ := b7 h
     refine AWP.seqJ (⟨[(0, .c (.own 1 0 c59.length)), (1, .c (.fn 82 [])), (5, .c (int kv60)), (6, .c (.own 1 ((0 + kv54).toNat) (((l.length : Int) - kv54).toNat))), (7, .c (int k258))], [.dead, .one (vec 1 d4 c59)]⟩) ?_ ?_
     ·refine AWP.l (.d ?_)
      obtain ⟨a41, ha41, a46, ha46, a48, ha48, hx61⟩ := b3 hx61
      refine AWP.drawI mixed Z ?_
      refine g9.consF Z (fun E => AOps.a Z Z (.nil ⟨Z, Z⟩)) Z (.consF Z (fun E => AOps.a Z Z (.nil ⟨Z, Z⟩)) Z (.consF Z (fun E => AOps.a Z Z (.nil ⟨Z, Z⟩)) Z (.consF Z (fun E => S.idxV ha41 Z Z Z Z (.nil ⟨Z, Z⟩)) Z (.consF Z (fun E => S.loadO (ixV_ix ha41) Z Z Z Z Z (.nil ⟨Z, Z⟩)) Z (.consF Z (fun E => AOps.a Z Z (.nil ⟨Z, Z⟩)) Z (.consF Z (fun E => AOps.a Z Z (.nil ⟨Z, Z⟩)) Z (.consF Z (fun E => AOps.sub' Z Z Z (by omega) (.nil ⟨Z, Z⟩)) Z (.consF Z (fun E => S.idxV ha46 Z Z Z Z (.nil ⟨Z, Z⟩)) Z (.consF Z (fun E => S.loadO (ixV_ix ha46) Z Z Z Z Z (.nil ⟨Z, Z⟩)) Z (.consF Z (fun E => AOps.k Z Z Z Z (I6 ha48) Z (.nil ⟨Z, Z⟩)) Z (.consF Z (fun E => AOps.v Z Z (.nil ⟨Z, Z⟩)) Z ?_)))))))))))
      refine g9.done ?_
      dsimp only [i9]
      refine b5 (.s Z hx61 (fun hc62 hx61 => ?_) (fun hc62 hx61 => ?_))
      ·refine AWP.d ?_
       obtain ⟨a54, ha54, a56, ha56, hx61⟩ := b2 hx61
       refine AWP.f (.a Z Z (.a Z Z (.a Z Z (.a Z Z (S.idxV ha54 Z Z Z Z (S.loadO (ixV_ix ha54) Z Z Z Z Z (S.idxO ha56 Z Z Z Z Z (S.storeO1 (f := d4) (a' := a54) (ix_lt ha56) (fun _ => ⟨_, Z⟩) Z Z Z Z Z ?_))))))))
       refine AOps.nil (b5 (.f (.a Z Z (S.add Z Z Z (.e Z Z (.nil (d5 ?_)))))))
       obtain ⟨ej0, ej1⟩ := o2 hx61
       subst ej0 ej1
       refine b5 (Sub.env ⟨(x8 (by first | rfl | simp only [List.length_set])), Z, Z, Z, Z, Y⟩)
      ·refine AWP.skip (d5 ?_)
       obtain ⟨ej0, ej1⟩ := o2 hx61
       subst ej0 ej1
       refine b5 (Sub.env ⟨Z, Z, Z, Z, Z, Y⟩)
     ·try dsimp only at h
      refine AWP.f (.a Z Z (.add Z Z Z (by omega) (.e Z Z (.nil ?_))))
      obtain rfl := oi h
      refine b5 (Sub.env ⟨Z, Z, Z, Z, Z, Y⟩)
    ·intro e s hq
     obtain ⟨rfl, hs⟩ := hq
     refine ⟨_, hs, ?_⟩
     refine f9 (b5 (.d ?_))
     obtain ⟨u61, hu61, h⟩ := b7 h
     refine AWP.f (.a Z Z (.a Z Z (S.vFrom (V2 c56) hu61 Z Z Z Z Z Z (S.clear (a0 := []) Z Z Z (fun _ _ _ _ => .imm .slNil) (vw_cut (V2 c56) hu61) Z Z Z Z Z ?_))))
     refine AOps.nil (b5 (.d ?_))
     obtain ⟨u64, hu64, h⟩ := b7 h
     refine AWP.f (.a Z Z (.a Z Z ?_))
     refine S.vTo (V2 (clrL c56 (0 + kv57) ((c56.length : Int) - kv57) [])) hu64 Z Z (by rw [Int.toNat_natCast]; exact (clrL_len (vw_cut (V2 c56) hu61)).symm) Z Z Z ?_
     refine AOps.e Z Z (.nil (b5 (.reown (env' := [(4, .c (.own 2 0 ((w8 (clrL c56 (0 + kv57) ((c56.length : Int) - kv57) []) 0 kv57).length)))]) 4 (vw_to (V2 (clrL c56 (0 + kv57) ((c56.length : Int) - kv57) [])) hu64) Z Z Z Z Z Z Z Z (by exact ⟨.inl ⟨Z, Z⟩, Y⟩) (.ret (g7 (d8 ?_))))))
     obtain rfl := oi h
     refine d8 ⟨_, Z, Z, ?_⟩
     exact ⟨⟨[(4, .c (.own 1 0 ((w8 (clrL c56 (0 + kv57) ((c56.length : Int) - kv57) []) 0 kv57).length)))], [.dead, .one (vec 1 d4 (w8 (clrL c56 (0 + kv57) ((c56.length : Int) - kv57) []) 0 kv57))]⟩, (Sub.move (env' := [(4, .c (.own 1 0 ((w8 (clrL c56 (0 + kv57) ((c56.length : Int) - kv57) []) 0 kv57).length)))]) (σ' := [.dead, .one (vec 1 d4 (w8 (clrL c56 (0 + kv57) ((c56.length : Int) - kv57) []) 0 kv57))]) 1 2 Z Z Z ⟨Z, Y⟩ Z ⟨trivial, ⟨Blk.im_ok _ _ _, k7 Z⟩, Y⟩).trans (Sub.env ⟨Z, Y⟩), Done.ret Z ⟨Z, Z⟩⟩
   ·refine AWP.skip (d5 (b5 (.f (.a Z Z (.add Z Z Z (by omega) (.e Z Z (.nil ?_)))))))
    obtain rfl := oi h
    refine b5 ⟨_, Z, ?_⟩
    exact Sub.env ⟨Z, Z, Z, Y⟩
  ·intro e s hq
   rcases oo with u | x
   ·try dsimp only at h hq
    obtain ⟨rfl, hs⟩ := hq
    refine ⟨_, hs, ?_⟩
    refine f9 (b5 (.d (.f (.a Z Z (.e Z Z (.nil (b5 (.ret ?_))))))))
    obtain rfl := oi h
    exact ⟨⟨[(4, .c (.own 1 0 l.length))], [.dead, .one (vec 1 d4 l)]⟩, Sub.env ⟨Z, Y⟩, Done.ret Z ⟨Z, Z⟩⟩
   ·try dsimp only at h hq
    obtain ⟨rfl, hs⟩ := hq
    refine ⟨_, Sub.refl _ _, ?_⟩
    refine g7 (d8 ?_)
    obtain rfl := oi h
    exact hs
theorem P8 {l : LL} {r : LL} (h : C1 l = some r) : FnOk Tryz.prog 83 [.c (.own 0 0 l.length)] (aj3 l) (fun tt ss => tt = .c (.own 2 0 r.length) ∧ ss = [.dead, .dead, .one (vec 1 d4 r)]) := by
 refine FnOk.enter (rs := [.t 2]) Tryz.func83 Z Tryz.ntmps83 Tryz.results83 Z ⟨trivial, Y⟩ (by kernel_rfl) Z ?_
 refine AWP.weak ?_
 unfold C1 at h
 refine AWP.a (env' := [(0, .c (.own 1 0 l.length))]) (σ' := [.dead, .one (vec 1 d4 l)]) 1 0 Z Z Z ⟨Z, Y⟩ Z ⟨trivial, ⟨Blk.im_ok _ _ _, k7 Z⟩, Y⟩ (.d (.f (.e Z Z (.nil (b5 (.d ?_))))))
 obtain ⟨a4, ha4, h⟩ := b7 h
 refine AWP.f (.a Z Z (S.sortF (fun x => .sl 1 (List.map intI x)) ha4 Z (fun hy => q9 hy) sortF_LLi64_ok (⟨_, Tryz.func72, Z, Z⟩) Z Z Z Z Z Z ?_))
 refine AOps.nil (b5 (.d ?_))
 obtain ⟨a6, ha6, h⟩ := b7 h
 refine AWP.f (.a Z Z ?_)
 refine AOps.callF (r2 := .c (.own 2 0 a6.length)) (σ'' := [.dead, .dead, .one (vec 1 d4 a6)]) Z Z Z (FnOk.lend [1] (V6 ha6) Z Z Z Z Z Z (by exact ⟨.vec, Y⟩) (by rw [(sortFL_len ha4)] <;> rfl) (by exact ⟨(.live Z .vec), Y⟩) Z Z (by exact ⟨.dead, .dead, (.new 1 Z Z .vec), Y⟩)) ?_
 refine AOps.e Z Z (.nil (b5 (.ret ?_)))
 obtain rfl := oi h
 exact ⟨⟨[(2, .c (.own 2 0 a6.length))], [.dead, .dead, .one (vec 1 d4 a6)]⟩, Sub.env ⟨Z, Y⟩, Done.ret Z ⟨Z, Z⟩⟩
theorem P0 {ov : b9} {sv : List Int} {op : Int} {r : LL × (List Int)} (h : z7 ov sv op = some r) : d9 Tryz.prog 61 [.agg (tO ov), .c (row 1 intI sv), .c (int op)] (.tup [.c (row 1 d4 r.1), .c (row 1 intI r.2)]) := by
 unfold d9
 refine FnOk.enter (rs := [.t 6, .t 7]) Tryz.func61 Z Tryz.ntmps61 Tryz.results61 Z ⟨trivial, trivial, Y⟩ (by kernel_rfl) Z ?_
 unfold z7 at h
 refine AWP.d (.f (W.box Z Z Z Z Z Z (.e Z Z (.e Z Z (.nil (b5 (.d (.f (.e Z Z (.nil (b5 (.d (.d ?_)))))))))))))
 obtain ⟨a20, ha20, h⟩ := b7 h
 refine AWP.f (W.fieldAddr Z Z Z Z (.m Z Z Z Z Z Z (.a Z Z (S.idx ha20 Z Z Z Z (W.fieldAddrI Z Z Z Z (.p Z Z Z Z (S.len Z Z (fun hl23 => .a Z Z (.nil (b5 (.l (.virtV 1 d4 8 Z Z Z ?_))))))))))))
 obtain ⟨c4, ho1, h⟩ := b7 h
 refine AWP.forS ho1 (fun t5 c4 => ⟨[(1, .c (row 1 intI sv)), (2, .c (int op)), (3, .c (.ptr 0 0 0)), (8, .c (.own 1 0 c4.length)), (22, .c (row 3 n8 a20.outcomes)), (23, .c (int (a20.outcomes.length : Int))), (24, .c (int t5))], [.one (.cells 4 [(tO ov)]), .one (vec 1 d4 c4)]⟩) (fun c4 e st => e = .exit 0 ∧ Sub [] st ⟨[(2, .c (int op)), (3, .c (.ptr 0 0 0)), (8, .c (.own 1 0 c4.length))], [.one (.cells 4 [(tO ov)]), .one (vec 1 d4 c4)]⟩) ?_ ?_ ?_ ?_
 ·try dsimp only
  exact Sub.env ⟨Z, Z, Z, (x8 (by first | rfl | simp only [List.length_set])), Z, Z, Z, Y⟩
 ·intro t5 c4 hlot5 hltt5 _
  try dsimp only
  refine AWP.d (.f (.j Z Z Z (.nil (b5 (.d (.q Z hltt5 (.exit (d6 (d6 ⟨Z, ?_⟩)))))))))
  exact Sub.env ⟨Z, Z, Z, Y⟩
 ·intro t5 c4 o hlot5 hltt5 h
  unfold K1 at h
  try dsimp only at h ⊢
  refine AWP.d (.f (.j Z Z Z (.nil (b5 (.d (.r Z hltt5 (.skip (b5 (.d (.l (.d ?_)))))))))))
  obtain ⟨a26, ha26, h⟩ := b7 h
  refine AWP.f (S.idx ha26 Z Z Z Z (W.loadIAgg Z Z Z Z Z (W.alloc Z Z Z Z (W.storeAgg Z Z Z Z Z Z Z (.nil (b5 ?_))))))
  obtain ⟨a34, ha34, a36, ha36, h⟩ := b2 h
  refine AWP.f (.a Z Z (.a Z Z (W.fieldAddr Z Z Z Z (.m Z Z Z Z Z Z (W.fieldAddr Z Z Z Z (.m Z Z Z Z Z Z (S.fresh Z Z Z Z (ak8 ha34) Z Z (.frzV (id := 3) (l := a34) (env2 := [(1, .c (row 1 intI sv)), (2, .c (int op)), (3, .c (.ptr 0 0 0)), (22, .c (row 3 n8 a20.outcomes)), (23, .c (int (a20.outcomes.length : Int))), (24, .c (int t5)), (28, .c (.own 1 0 c4.length)), (34, .c (row 1 intI a34))]) (σ2 := [.one (.cells 4 [(tO ov)]), .one (vec 1 d4 c4), .one (.cells 3 [[row 1 intI a26.add, row 1 intI a26.del, int a26.weight]]), .dead]) Z Z (by exact ⟨⟨_, Z, .inl ⟨Z, Z⟩⟩, ⟨_, Z, .inl ⟨Z, Z⟩⟩, ⟨_, Z, .inl ⟨Z, Z⟩⟩, ⟨_, Z, .inl ⟨Z, Z⟩⟩, ⟨_, Z, .inl ⟨Z, Z⟩⟩, ⟨_, Z, .inl ⟨Z, Z⟩⟩, ⟨_, Z, .inl ⟨Z, Z⟩⟩, ⟨_, Z, .inr ⟨_, Z, Z, Z⟩⟩, Y⟩) Z (by exact ⟨⟨Z, .inl ⟨Z, Z⟩, .inl ⟨Z, Z⟩, .inl ⟨Z, Z⟩, .inl ⟨Z, Z⟩, Y⟩, FrzB.vec, ⟨Z, .inl ⟨Z, Z⟩, .inl ⟨Z, Z⟩, .inl ⟨Z, Z⟩, Y⟩, trivial, Y⟩) (S.lit (f := d4) (l := [a34]) (ess := [[row 1 intI a34]]) Z Z Z Z Z Z Z ⟨⟨.inl Z, Y⟩, Y⟩ Z Z Z (S.append (f := d4) ha36 Z Z Z Z Z Z (.own Z Z) Z Z Z Z (.e Z Z (.nil (d5 (b5 (.a (env' := [(1, .c (row 1 intI sv)), (2, .c (int op)), (3, .c (.ptr 0 0 0)), (8, .c (.own 1 0 a36.length)), (22, .c (row 3 n8 a20.outcomes)), (23, .c (int (a20.outcomes.length : Int))), (24, .c (int t5))]) (σ' := [.one (.cells 4 [(tO ov)]), .one (vec 1 d4 a36), .one (.cells 3 [[row 1 intI a26.add, row 1 intI a26.del, int a26.weight]]), .dead, .one (vec 1 d4 [a34])]) 1 5 Z Z Z ⟨Z, Z, Z, Z, Z, Z, Z, Y⟩ Z ⟨⟨Z, Z⟩, ⟨Blk.im_ok _ _ _, k7 Z⟩, ⟨Z, Z⟩, trivial, ⟨Blk.im_ok _ _ _, k7 Z⟩, Y⟩ (.f (.add Z Z Z (by omega) (.a Z Z (.nil ?_)))))))))))))))))))
  obtain rfl := oi h
  refine b5 (Sub.cut ⟨Z, Z, Z, Z, Z, Z, Z, Y⟩ Z ⟨.one Z, .vec, Y⟩ Z)
 ·intro e s hq
  obtain ⟨rfl, hs⟩ := hq
  refine ⟨_, hs, ?_⟩
  refine f9 (b5 (.d ?_))
  obtain ⟨a39, ha39, a40, ha40, h⟩ := b2 h
  refine AWP.f (.a Z Z (.frzV (id := 1) (l := c4) (env2 := [(2, .c (int op)), (3, .c (.ptr 0 0 0)), (8, .c (row 1 d4 c4)), (38, .c (row 1 d4 c4))]) (σ2 := [.one (.cells 4 [(tO ov)]), .dead]) Z Z (by exact ⟨⟨_, Z, .inl ⟨Z, Z⟩⟩, ⟨_, Z, .inl ⟨Z, Z⟩⟩, ⟨_, Z, .inr ⟨_, Z, Z, Z⟩⟩, ⟨_, Z, .inr ⟨_, Z, Z, Z⟩⟩, Y⟩) Z (by exact ⟨⟨Z, .inl ⟨Z, Z⟩, .inl ⟨Z, Z⟩, .inl ⟨Z, Z⟩, .inl ⟨Z, Z⟩, Y⟩, trivial, Y⟩) (S.fresh Z Z Z Z (ac2 ha39) Z Z (.callF (r2 := .c (.own 4 0 a40.length)) (σ'' := [.one (.cells 4 [(tO ov)]), .dead, .dead, .dead, .one (vec 1 d4 a40)]) Z Z Z (FnOk.lend [2] (P8 ha40) Z Z Z Z Z Z (by exact ⟨.vec, Y⟩) Z (by exact ⟨(.live Z .vec), Y⟩) Z Z (by exact ⟨(.old Z Z Z), .dead, .dead, .dead, (.new 2 Z Z .vec), Y⟩)) (.e Z Z (.nil (b5 (.d ?_))))))))
  obtain ⟨a43, ha43, h⟩ := b7 h
  refine AWP.f (.a Z Z (S.lenO Z Z Z (fun hl42 => S.make (f := intI) ha43 (.val .nil) Z Z Z Z Z Z (.e Z Z (.nil (b5 (.d (.d ?_))))))))
  obtain ⟨a47, ha47, h⟩ := b7 h
  refine AWP.f (W.fieldAddr Z Z Z Z (.m Z Z Z Z Z Z (.a Z Z (S.idx ha47 Z Z Z Z (W.fieldAddrI Z Z Z Z (.p Z Z Z Z (S.len Z Z (fun hl50 => .a Z Z (.nil (b5 (.l ?_)))))))))))
  obtain ⟨c6, ho2, h⟩ := b7 h
  refine AWP.forS ho2 (fun t7 c6 => ⟨[(8, .c (row 1 d4 c4)), (11, .c (.own 4 0 a40.length)), (12, .c (.own 5 0 c6.length)), (49, .c (row 3 n8 a47.outcomes)), (50, .c (int (a47.outcomes.length : Int))), (51, .c (int t7))], [.dead, .dead, .dead, .dead, .one (vec 1 d4 a40), .one (vec 1 intI c6)]⟩) (fun c6 e st => e = .exit 2 ∧ Sub [] st ⟨[(11, .c (.own 4 0 a40.length)), (12, .c (.own 5 0 c6.length))], [.dead, .dead, .dead, .dead, .one (vec 1 d4 a40), .one (vec 1 intI c6)]⟩) ?_ ?_ ?_ ?_
  ·try dsimp only
   exact Sub.cut ⟨Z, Z, Z, Z, Z, Z, Y⟩ Z ⟨.dead, .dead, .dead, .dead, .vec, .vec, Y⟩ Z
  ·intro t7 c6 hlot7 hltt7 _
   try dsimp only
   refine AWP.d (.f (.j Z Z Z (.nil (b5 (.d (.q Z hltt7 (.exit (d6 (d6 ⟨Z, ?_⟩)))))))))
   exact Sub.env ⟨Z, Z, Y⟩
  ·intro t7 c6 o hlot7 hltt7 h
   unfold F9 at h
   try dsimp only at h ⊢
   refine AWP.d (.f (.j Z Z Z (.nil (b5 (.d (.r Z hltt7 (.skip (b5 (.d (.l (.d ?_)))))))))))
   obtain ⟨a54, ha54, h⟩ := b7 h
   refine AWP.f (.a Z Z (S.idx ha54 Z Z Z Z (W.loadIAgg Z Z Z Z Z (W.alloc Z Z Z Z (.e Z Z (W.storeAgg Z Z Z Z Z Z Z (.nil (b5 (.d ?_)))))))))
   obtain ⟨a60, ha60, a62, ha62, h⟩ := b2 h
   refine AWP.f (.a Z Z (.a Z Z (.a Z Z (S.idx ha60 Z Z Z Z (.p Z Z Z Z (.y Z Z (.cons (.c (.own Z Z)) (.cons (.c .imm) (.cons (.c (.fn .nil)) .nil))) Z (E1 Z (fun hy => q9 hy) ha62) Z ?_))))))
   refine AOps.a Z Z (.w Z Z Z (.w Z Z Z (.e Z Z (.e Z Z (.nil (b5 ?_))))))
   obtain ⟨a67, ha67, a72, ha72, h⟩ := b2 h
   refine AWP.drawEI [8] mixed Z Z Z ?_
   refine g8.consN Z Z (fun E => AOps.a Z Z (.nil ⟨Z, Z⟩)) Z (.consN Z Z (fun E => AOps.a Z Z (.nil ⟨Z, Z⟩)) Z (.consN Z Z (fun E => S.idxO ha67 Z Z Z Z Z (.nil ⟨Z, Z⟩)) Z (.consN Z Z (fun E => S.loadO ha67 Z Z Z Z Z (.nil ⟨Z, Z⟩)) Z (.consN Z Z (fun E => W.fieldAddr Z Z Z Z (.nil ⟨Z, Z⟩)) Z (.consN Z Z (fun E => AOps.m Z Z Z Z Z Z (.nil ⟨Z, Z⟩)) Z (.consN Z Z (fun E => S.add Z Z Z (.nil ⟨Z, Z⟩)) Z (.consN Z Z (fun E => S.idxO ha72 Z Z Z Z Z (.nil ⟨Z, Z⟩)) Z ?_)))))))
   apply g8.consE (v := .undef); exact Z; exact Z; intro E
   refine S.storeO1 (f := intI) (a' := w64 (a67 + a54.weight)) (ix_lt ha72) (fun _ => ⟨_, Z⟩) Z Z Z Z Z ?_
   exact AOps.nil ⟨Z, Z⟩
   exact Z
   exact Z
   refine g8.done Z ?_ ?_
   ·refine e8.cons Z Z ?_ ?_
    refine b8.go Z Z (fun E => AOps.a Z Z (AOps.nil ⟨Z, Z⟩)) ?_
    refine b8.skip Z (b8.nil)
    refine e8.cons Z Z ?_ ?_
    refine b8.go Z Z (fun E => AOps.a Z Z (AOps.nil ⟨Z, Z⟩)) ?_
    refine b8.skip Z (b8.nil)
    refine e8.cons Z Z ?_ ?_
    refine b8.go Z Z (fun E => S.idxO ha67 Z Z Z Z Z (AOps.nil ⟨Z, Z⟩)) ?_
    refine b8.skip Z (b8.nil)
    refine e8.cons Z Z ?_ ?_
    refine b8.go Z Z (fun E => S.loadO ha67 Z Z Z Z Z (AOps.nil ⟨Z, Z⟩)) ?_
    refine b8.skip Z (b8.nil)
    refine e8.cons Z Z ?_ ?_
    refine b8.go Z Z (fun E => W.fieldAddr Z Z Z Z (AOps.nil ⟨Z, Z⟩)) ?_
    refine b8.skip Z (b8.nil)
    refine e8.cons Z Z ?_ ?_
    refine b8.go Z Z (fun E => AOps.m Z Z Z Z Z Z (AOps.nil ⟨Z, Z⟩)) ?_
    refine b8.skip Z (b8.nil)
    refine e8.cons Z Z ?_ ?_
    refine b8.go Z Z (fun E => S.add Z Z Z (AOps.nil ⟨Z, Z⟩)) ?_
    refine b8.skip Z (b8.nil)
    refine e8.cons Z Z ?_ ?_
    refine b8.go Z Z (fun E => S.idxO ha72 Z Z Z Z Z (AOps.nil ⟨Z, Z⟩)) ?_
    refine b8.skip Z (b8.nil)
    refine e8.skip Z (e8.nil)
   dsimp only [i9]
   refine d5 (b5 (.f (.add Z Z Z (by omega) (.a Z Z (.nil ?_)))))
   obtain rfl := oi h
   refine b5 (Sub.cut ⟨Z, Z, (x8 (by first | rfl | simp only [List.length_set])), Z, Z, Z, Y⟩ Z ⟨.dead, .dead, .dead, .dead, .vec, .vec, Y⟩ Z)
  ·intro e s hq
   obtain ⟨rfl, hs⟩ := hq
   refine ⟨_, hs, ?_⟩
   refine f9 (b5 (.d (.f (.a Z Z (.a Z Z (.e Z Z (.e Z Z (.nil (b5 (.frzV (id := 4) (l := a40) (env2 := [(6, .c (row 1 d4 a40)), (7, .c (.own 5 0 c6.length))]) (σ2 := [.dead, .dead, .dead, .dead, .dead, .one (vec 1 intI c6)]) Z Z (by exact ⟨⟨_, Z, .inr ⟨_, Z, Z, Z⟩⟩, ⟨_, Z, .inl ⟨Z, Z⟩⟩, Y⟩) Z (by exact ⟨trivial, trivial, trivial, trivial, trivial, FrzB.vec, Y⟩) (.frzV (id := 5) (l := c6) (env2 := [(6, .c (row 1 d4 a40)), (7, .c (row 1 intI c6))]) (σ2 := [.dead, .dead, .dead, .dead, .dead, .dead]) Z Z (by exact ⟨⟨_, Z, .inl ⟨Z, Z⟩⟩, ⟨_, Z, .inr ⟨_, Z, Z, Z⟩⟩, Y⟩) Z (by exact ⟨trivial, trivial, trivial, trivial, trivial, trivial, Y⟩) (.ret ?_))))))))))))
   obtain rfl := oi h
   exact Done.ret Z Z
theorem open_Reach_ok {ov : b9} {r : LL × Bool} (h : A5 ov = some r) : d9 Tryz.prog 69 [.agg (tO ov)] (.tup [.c (row 1 d4 r.1), .c (bool r.2)]) := by
 unfold d9
 refine FnOk.enter (rs := [.t 2, .t 3]) Tryz.func69 Z Tryz.ntmps69 Tryz.results69 Z ⟨trivial, trivial, Y⟩ (by kernel_rfl) Z ?_
 unfold A5 at h
 refine AWP.d (.f (W.box Z Z Z Z Z Z (.e Z Z (.e Z Z (.nil (b5 (.d ?_)))))))
 obtain ⟨a15, ha15, h⟩ := b7 h
 refine AWP.f (W.fieldAddr Z Z Z Z (.m Z Z Z Z Z Z (S.fresh Z Z Z Z (I7 ha15) Z Z (.frzV (id := 1) (l := a15) (env2 := [(1, .c (.ptr 0 0 0)), (15, .c (row 1 intI a15))]) (σ2 := [.one (.cells 4 [(tO ov)]), .dead]) Z Z (by exact ⟨⟨_, Z, .inl ⟨Z, Z⟩⟩, ⟨_, Z, .inr ⟨_, Z, Z, Z⟩⟩, Y⟩) Z (by exact ⟨⟨Z, .inl ⟨Z, Z⟩, .inl ⟨Z, Z⟩, .inl ⟨Z, Z⟩, .inl ⟨Z, Z⟩, Y⟩, trivial, Y⟩) (S.lit (f := d4) (l := [a15]) (ess := [[row 1 intI a15]]) Z Z Z Z Z Z Z ⟨⟨.inl Z, Y⟩, Y⟩ Z Z Z (.e Z Z (.nil (b5 (.d ?_)))))))))
 obtain ⟨a19, ha19, h⟩ := b7 h
 refine AWP.f (W.makeMap Value.string (Value.int .i64) Z Z Z (.a Z Z (.y Z Z (.cons (.c (.own Z Z)) .nil) Z (ai1 ha19) Z (W.insert (fk := Value.string) (fv := (Value.int .i64)) (k := a19) (a := 1) keyStr Z Z Z Z Z (.a Z Z (.e Z Z (.nil (b5 (.d (.d (.f (.e Z Z (.nil (b5 (.l ?_)))))))))))))))
 obtain ⟨oo, ho1, h⟩ := b7 h
 refine AWP.loopS ho1 (fun (c2, c3, atv4) => ⟨[(1, .c (.ptr 0 0 0)), (4, .c (.own 2 0 c2.length)), (5, .c (.map 3)), (6, .c (int atv4))], [.one (.cells 4 [(tO ov)]), .dead, .one (vec 1 d4 c2), .one (mapB Value.string (Value.int .i64) c3)]⟩) (fun o e st => match o with | .inl c5 => e = .exit 0 ∧ Sub [] st ⟨[(4, .c (.own 2 0 c5.length))], [.dead, .dead, .one (vec 1 d4 c5)]⟩ | .inr x => e = .ret ∧ Done [.t 2, .t 3] (fun t _ => t = .tup [.c (row 1 d4 x.1), .c (bool x.2)]) .ret st) ?_ ?_ ?_
 ·try dsimp only
  exact Sub.env ⟨Z, Z, Z, Z, Y⟩
 ·intro s o h
  obtain ⟨c2, c3, atv4⟩ := s
  unfold x7 at h
  try dsimp only at h ⊢
  refine AWP.d (.d (.f (.a Z Z (.a Z Z (S.lenO Z Z Z (fun hl23 => .j Z Z Z (.nil (b5 (.ite Z h (fun hc6 h => ?_) (fun hc6 h => ?_))))))))))
  ·refine AWP.skip (b5 (.d (.l (.d (.f (W.fieldAddr Z Z Z Z (.m Z Z Z Z Z Z (S.len Z Z (fun hl29 => .a Z Z (.nil (b5 (.l ?_))))))))))))
   obtain ⟨oo, ho2, h⟩ := b7 h
   refine AWP.rngS ho2 (fun t9 (c7, c8) => ⟨[(1, .c (.ptr 0 0 0)), (4, .c (.own 2 0 c7.length)), (5, .c (.map 3)), (6, .c (int atv4)), (29, .c (int (ov.operators.length : Int))), (30, .c (int t9))], [.one (.cells 4 [(tO ov)]), .dead, .one (vec 1 d4 c7), .one (mapB Value.string (Value.int .i64) c8)]⟩) (fun o e st => match o with | .inl (c7, c8) => e = .exit 2 ∧ Sub [] st ⟨[(1, .c (.ptr 0 0 0)), (4, .c (.own 2 0 c7.length)), (5, .c (.map 3)), (6, .c (int atv4))], [.one (.cells 4 [(tO ov)]), .dead, .one (vec 1 d4 c7), .one (mapB Value.string (Value.int .i64) c8)]⟩ | .inr x => e = .ret ∧ Done [.t 2, .t 3] (fun t _ => t = .tup [.c (row 1 d4 x.1), .c (bool x.2)]) .ret st) ?_ ?_ ?_ ?_
   ·try dsimp only
    exact Sub.env ⟨Z, Z, Z, Z, Z, Z, Y⟩
   ·intro t9 s hlot9 hltt9 _
    obtain ⟨c7, c8⟩ := s
    try dsimp only
    refine AWP.d (.f (.j Z Z Z (.nil (b5 (.d (.q Z hltt9 (.exit (d6 (d6 ⟨Z, ?_⟩)))))))))
    exact Sub.env ⟨Z, Z, Z, Z, Y⟩
   ·intro t9 s o hlot9 hltt9 h
    obtain ⟨c7, c8⟩ := s
    unfold D6 at h
    try dsimp only at h ⊢
    refine AWP.d (.f (.j Z Z Z (.nil (b5 (.d (.r Z hltt9 (.skip (b5 (.seqF (T5) o (fun (c10, c11) => ⟨[(1, .c (.ptr 0 0 0)), (4, .c (.own 2 0 c10.length)), (5, .c (.map 3)), (6, .c (int atv4)), (29, .c (int (ov.operators.length : Int))), (30, .c (int t9))], [.one (.cells 4 [(tO ov)]), .dead, .one (vec 1 d4 c10), .one (mapB Value.string (Value.int .i64) c11)]⟩) (fun x h => ?_) ?_)))))))))
    ·obtain ⟨c10, c11⟩ := x
     unfold T5 at h
     try dsimp only at h ⊢
     refine AWP.f (.add Z Z Z (by omega) (.a Z Z (.nil ?_)))
     obtain rfl := oi h
     refine b5 ⟨_, Z, ?_⟩
     exact Sub.env ⟨Z, Z, Z, Z, Z, Z, Y⟩
    ·refine AWP.l (.d (.f (.a Z Z (.e Z Z (.nil (b5 (.d (.d ?_))))))))
     obtain ⟨a36, ha36, a39, ha39, h⟩ := b2 h
     refine AWP.drawI mixed Z ?_
     refine g9.consF Z (fun E => W.loadAgg Z Z Z Z Z Z Z (.nil ⟨Z, Z⟩)) Z (.consF Z (fun E => AOps.a Z Z (.nil ⟨Z, Z⟩)) Z (.consF Z (fun E => AOps.a Z Z (.nil ⟨Z, Z⟩)) Z (.consF Z (fun E => S.idxO ha36 Z Z Z Z Z (.nil ⟨Z, Z⟩)) Z (.consF Z (fun E => S.loadO ha36 Z Z Z Z Z (.nil ⟨Z, Z⟩)) Z (.consF Z (fun E => AOps.a Z Z (.nil ⟨Z, Z⟩)) Z (.consF Z (fun E => AOps.k Z Z Z Z (ae7 ha39) Z (.nil ⟨Z, Z⟩)) Z (.consF Z (fun E => AOps.v Z Z (.nil ⟨Z, Z⟩)) Z ?_)))))))
     refine g9.done ?_
     dsimp only [i9]
     refine b5 (.s Z h (fun hc12 h => ?_) (fun hc12 h => ?_))
     ·refine AWP.exit (d6 (f9 (b5 ⟨_, h, ?_⟩)))
      exact Sub.env ⟨Z, Z, Z, Z, Z, Z, Y⟩
     ·refine AWP.skip (b5 (.d ?_))
      obtain ⟨a45, ha45, a48, ha48, h⟩ := b2 h
      refine AWP.drawI mixed Z ?_
      refine g9.consF Z (fun E => W.loadAgg Z Z Z Z Z Z Z (.nil ⟨Z, Z⟩)) Z (.consF Z (fun E => AOps.a Z Z (.nil ⟨Z, Z⟩)) Z (.consF Z (fun E => AOps.a Z Z (.nil ⟨Z, Z⟩)) Z (.consF Z (fun E => S.idxO ha45 Z Z Z Z Z (.nil ⟨Z, Z⟩)) Z (.consF Z (fun E => S.loadO ha45 Z Z Z Z Z (.nil ⟨Z, Z⟩)) Z (.consF Z (fun E => AOps.a Z Z (.nil ⟨Z, Z⟩)) Z (.consF Z (fun E => AOps.k Z Z Z Z (P0 ha48) Z (.nil ⟨Z, Z⟩)) Z (.consF Z (fun E => AOps.a Z Z (.nil ⟨Z, Z⟩)) Z (.consF Z (fun E => AOps.w Z Z Z (.nil ⟨Z, Z⟩)) Z (.consF Z (fun E => AOps.w Z Z Z (.nil ⟨Z, Z⟩)) Z (.consF Z (fun E => AOps.e Z Z (.nil ⟨Z, Z⟩)) Z (.consF Z (fun E => AOps.e Z Z (.nil ⟨Z, Z⟩)) Z ?_)))))))))))
      refine g9.done ?_
      dsimp only [i9]
      refine b5 (.d (.f (.a Z Z (S.len Z Z (fun hl52 => .a Z Z (.nil (b5 (.l ?_))))))))
      obtain ⟨oo, ho4, h⟩ := b7 h
      refine AWP.rngS ho4 (fun t15 (c13, c14) => ⟨[(1, .c (.ptr 0 0 0)), (4, .c (.own 2 0 c13.length)), (5, .c (.map 3)), (6, .c (int atv4)), (29, .c (int (ov.operators.length : Int))), (30, .c (int t9)), (51, .c (row 1 d4 a48.1)), (52, .c (int (a48.1.length : Int))), (53, .c (int t15))], [.one (.cells 4 [(tO ov)]), .dead, .one (vec 1 d4 c13), .one (mapB Value.string (Value.int .i64) c14)]⟩) (fun o e st => match o with | .inl (c13, c14) => e = .exit 4 ∧ Sub [] st ⟨[(1, .c (.ptr 0 0 0)), (4, .c (.own 2 0 c13.length)), (5, .c (.map 3)), (6, .c (int atv4)), (29, .c (int (ov.operators.length : Int))), (30, .c (int t9))], [.one (.cells 4 [(tO ov)]), .dead, .one (vec 1 d4 c13), .one (mapB Value.string (Value.int .i64) c14)]⟩ | .inr x => e = .ret ∧ Done [.t 2, .t 3] (fun t _ => t = .tup [.c (row 1 d4 x.1), .c (bool x.2)]) .ret st) ?_ ?_ ?_ ?_
      ·try dsimp only
       exact Sub.env ⟨Z, Z, Z, Z, Z, Z, Z, Z, Z, Y⟩
      ·intro t15 s hlot15 hltt15 _
       obtain ⟨c13, c14⟩ := s
       try dsimp only
       refine AWP.d (.f (.j Z Z Z (.nil (b5 (.d (.q Z hltt15 (.exit (d6 (d6 ⟨Z, ?_⟩)))))))))
       exact Sub.env ⟨Z, Z, Z, Z, Z, Z, Y⟩
      ·intro t15 s o hlot15 hltt15 h
       obtain ⟨c13, c14⟩ := s
       unfold D5 at h
       try dsimp only at h ⊢
       refine AWP.d (.f (.j Z Z Z (.nil (b5 (.d (.r Z hltt15 (.skip (b5 (.seqF (I9) o (fun (c16, c17) => ⟨[(1, .c (.ptr 0 0 0)), (4, .c (.own 2 0 c16.length)), (5, .c (.map 3)), (6, .c (int atv4)), (29, .c (int (ov.operators.length : Int))), (30, .c (int t9)), (51, .c (row 1 d4 a48.1)), (52, .c (int (a48.1.length : Int))), (53, .c (int t15))], [.one (.cells 4 [(tO ov)]), .dead, .one (vec 1 d4 c16), .one (mapB Value.string (Value.int .i64) c17)]⟩) (fun x h => ?_) ?_)))))))))
       ·obtain ⟨c16, c17⟩ := x
        unfold I9 at h
        try dsimp only at h ⊢
        refine AWP.f (.add Z Z Z (by omega) (.a Z Z (.nil ?_)))
        obtain rfl := oi h
        refine b5 ⟨_, Z, ?_⟩
        exact Sub.env ⟨Z, Z, Z, Z, Z, Z, Z, Z, Z, Y⟩
       ·refine AWP.l (.d ?_)
        obtain ⟨a55, ha55, h⟩ := b7 h
        refine AWP.f (S.idx ha55 Z Z Z Z (.p Z Z Z Z (.e Z Z (.nil (b5 (.d ?_))))))
        obtain ⟨a59, ha59, h⟩ := b7 h
        refine AWP.f (.a Z Z (S.lit (f := d4) (l := [a55]) (ess := [[row 1 intI a55]]) Z Z Z Z Z Z Z ⟨⟨.inl Z, Y⟩, Y⟩ Z Z Z (.y Z Z (.cons (.c (.own Z Z)) .nil) Z (ai1 ha59) Z (.e Z Z (.nil (b5 (.d (.d (.f (.a Z Z (.a Z Z (W.lookup (fk := Value.string) (fv := (Value.int .i64)) (k := a59) (z := 0) keyStr Z (fun _ => Z) Z Z Z Z ?_))))))))))))
        refine AOps.gtr Z Z Z (.nil (b5 (.ite Z h (fun hc18 h => ?_) (fun hc18 h => ?_))))
        ·refine AWP.exit (d6 (f9 (b5 ⟨_, h, ?_⟩)))
         exact Sub.cut ⟨Z, Z, Z, Z, Z, Z, Z, Z, Z, Y⟩ Z ⟨.one Z, .dead, .vec, .one Z, Y⟩ Z
        ·refine AWP.skip (b5 (.d (.d (.f (.a Z Z (S.lenO Z Z Z (fun hl65 => .u Z Z Z (.nil (b5 (.ite Z h (fun hc19 h => ?_) (fun hc19 h => ?_)))))))))))
         ·refine AWP.d (.f (.e Z Z (.e Z Z (.nil (b5 (.nilrow 1 2 Z (.ret (d8 (g7 (d8 ?_))))))))))
          obtain rfl := oi h
          refine d8 ⟨_, Z, Z, ?_⟩
          exact Done.ret Z Z
         ·refine AWP.skip (b5 (.d (.f (.a Z Z (.a Z Z (W.mapUpdate (fk := Value.string) (fv := (Value.int .i64)) (k := a59) (a := 1) keyStr Z Z Z Z Z (.nil (b5 ?_))))))))
          obtain ⟨a72, ha72, h⟩ := b7 h
          refine AWP.f (.a Z Z (.a Z Z (S.lit (f := d4) (l := [a55]) (ess := [[row 1 intI a55]]) Z Z Z Z Z Z Z ⟨⟨.inl Z, Y⟩, Y⟩ Z Z Z (S.append (f := d4) ha72 Z Z Z Z Z Z (.own Z Z) Z Z Z Z (.e Z Z (.nil (d5 (b5 ⟨_, h, ?_⟩))))))))
          exact (Sub.move (env' := [(1, .c (.ptr 0 0 0)), (4, .c (.own 2 0 a72.length)), (5, .c (.map 3)), (6, .c (int atv4)), (29, .c (int (ov.operators.length : Int))), (30, .c (int t9)), (51, .c (row 1 d4 a48.1)), (52, .c (int (a48.1.length : Int))), (53, .c (int t15))]) (σ' := [.one (.cells 4 [(tO ov)]), .dead, .one (vec 1 d4 a72), .one (mapB Value.string (Value.int .i64) (mset c14 a59 1)), .one (vec 1 d4 [a55]), .one (vec 1 d4 [a55])]) 2 6 Z Z Z ⟨Z, Z, Z, Z, Z, Z, Z, Z, Z, Y⟩ Z ⟨⟨Z, Z⟩, trivial, ⟨Blk.im_ok _ _ _, k7 Z⟩, ⟨Z, Z⟩, ⟨Blk.im_ok _ _ _, k7 Z⟩, ⟨Blk.im_ok _ _ _, k7 Z⟩, Y⟩).trans (Sub.cut ⟨Z, Z, Z, Z, Z, Z, Z, Z, Z, Y⟩ Z ⟨.one Z, .dead, .vec, .one Z, Y⟩ Z)
      ·intro e s hq
       rcases oo with ⟨c13, c14⟩ | x
       ·try dsimp only at h hq
        obtain ⟨rfl, hs⟩ := hq
        refine ⟨_, hs, ?_⟩
        refine f9 (d5 (b5 ⟨_, h, ?_⟩))
        exact Sub.env ⟨Z, Z, Z, Z, Z, Z, Y⟩
       ·try dsimp only at h hq
        obtain ⟨rfl, hs⟩ := hq
        refine ⟨_, Sub.refl _ _, ?_⟩
        refine g7 (g7 (d8 ?_))
        obtain rfl := oi h
        refine d8 ⟨_, Z, Z, ?_⟩
        exact hs
   ·intro e s hq
    rcases oo with ⟨c7, c8⟩ | x
    ·try dsimp only at h hq
     obtain ⟨rfl, hs⟩ := hq
     refine ⟨_, hs, ?_⟩
     refine f9 (d5 (b5 (.f (.a Z Z (S.add Z Z Z (.e Z Z (.nil ?_)))))))
     obtain rfl := oi h
     refine b5 ⟨_, Z, ?_⟩
     exact Sub.env ⟨Z, Z, Z, Z, Y⟩
    ·try dsimp only at h hq
     obtain ⟨rfl, hs⟩ := hq
     refine ⟨_, Sub.refl _ _, ?_⟩
     refine g7 (g7 (d8 ?_))
     obtain rfl := oi h
     refine d8 ⟨_, Z, Z, ?_⟩
     exact hs
  ·refine AWP.exit (d6 ?_)
   obtain rfl := oi h
   refine d6 ⟨_, Z, Z, ?_⟩
   exact Sub.cut ⟨Z, Y⟩ Z ⟨.dead, .dead, .vec, Y⟩ Z
 ·intro e s hq
  rcases oo with c5 | x
  ·try dsimp only at h hq
   obtain ⟨rfl, hs⟩ := hq
   refine ⟨_, hs, ?_⟩
   refine f9 (b5 (.d ?_))
   obtain ⟨a76, ha76, h⟩ := b7 h
   refine AWP.f (.a Z Z (.callF (r2 := .c (.own 4 0 a76.length)) (σ'' := [.dead, .dead, .dead, .dead, .one (vec 1 d4 a76)]) Z Z Z (FnOk.lend [2] (P8 ha76) Z Z Z Z Z Z (by exact ⟨.vec, Y⟩) Z (by exact ⟨(.live Z .vec), Y⟩) Z Z (by exact ⟨.dead, .dead, .dead, .dead, (.new 2 Z Z .vec), Y⟩)) (.e Z Z (.e Z Z (.nil (b5 (.frzV (id := 4) (l := a76) (env2 := [(2, .c (row 1 d4 a76)), (3, .c (bool true))]) (σ2 := [.dead, .dead, .dead, .dead, .dead]) Z Z (by exact ⟨⟨_, Z, .inr ⟨_, Z, Z, Z⟩⟩, ⟨_, Z, .inl ⟨Z, Z⟩⟩, Y⟩) Z (by exact ⟨trivial, trivial, trivial, trivial, trivial, Y⟩) (.ret ?_))))))))
   obtain rfl := oi h
   exact Done.ret Z Z
  ·try dsimp only at h hq
   obtain ⟨rfl, hs⟩ := hq
   refine ⟨_, Sub.refl _ _, ?_⟩
   refine g7 (d8 ?_)
   obtain rfl := oi h
   exact hs
theorem open_Explore_ok {ov : b9} {r : LL × k6} (h : I1 ov = some r) : d9 Tryz.prog 28 [.agg (tO ov)] (.tup [.c (row 1 d4 r.1), .agg [int r.2.code, int r.2.index]]) := by
 unfold d9
 refine FnOk.enter (rs := [.t 2, .cell 3 28 2]) Tryz.func28 Z Tryz.ntmps28 Tryz.results28 Z ⟨trivial, rv _ Z, Y⟩ (by kernel_rfl) Z ?_
 unfold I1 at h
 refine AWP.d (.f (W.box Z Z Z Z Z Z (.e Z Z (W.alloc Z Z Z Z (.nil (b5 (.d (.d ?_))))))))
 obtain ⟨a8, ha8, h⟩ := b7 h
 refine AWP.f (W.loadAgg Z Z Z Z Z Z Z (.k Z Z Z Z (ac5 ha8) Z (W.alloc Z Z Z Z (W.storeAgg Z Z Z Z Z Z Z (.nil (b5 (.d (.f (W.loadAgg Z Z Z Z Z Z Z (W.build Z Z Z Z (.neqP Z Z Z Z Z Z Z (.nil (b5 (.s Z h (fun hc2 h => ?_) (fun hc2 h => ?_)))))))))))))))
 ·refine AWP.d (.drawEI [2] mixed Z Z Z ?_)
  refine g8.consN Z Z (fun E => W.loadAgg Z Z Z Z Z Z Z (.nil ⟨Z, Z⟩)) Z (.consN Z Z (fun E => AOps.e Z Z (.nil ⟨Z, Z⟩)) Z ?_)
  apply g8.consE (v := .undef); exact Z; exact Z; intro E
  refine W.storeAgg Z Z Z Z Z Z Z (.nil ⟨Z, Z⟩)
  exact Z
  exact Z
  refine g8.done Z ?_ ?_
  ·refine e8.cons Z Z ?_ ?_
   refine b8.go Z Z (fun E => W.loadAgg Z Z Z Z Z Z Z (AOps.nil ⟨Z, Z⟩)) ?_
   refine b8.skip Z (b8.nil)
   refine e8.cons Z Z ?_ ?_
   refine b8.go Z Z (fun E => AOps.e Z Z (AOps.nil ⟨Z, Z⟩)) ?_
   refine b8.skip Z (b8.nil)
   refine e8.skip Z (e8.nil)
  dsimp only [i9]
  refine b5 (.nilrow 1 2 Z (.ret (d8 ?_)))
  obtain rfl := oi h
  exact Done.ret Z Z
 ·refine AWP.skip (b5 (.d ?_))
  obtain ⟨a15, ha15, h⟩ := b7 h
  refine AWP.f (W.loadAgg Z Z Z Z Z Z Z (.k Z Z Z Z (open_Reach_ok ha15) Z (.a Z Z (.w Z Z Z (.w Z Z Z (.e Z Z (.e Z Z (.nil (b5 (.d (.d (.f (.a Z Z (.v Z Z (.nil (b5 (.s Z h (fun hc3 h => ?_) (fun hc3 h => ?_))))))))))))))))))
  ·refine AWP.d (.f (W.build Z Z Z Z (.e Z Z (W.storeAgg Z Z Z Z Z Z Z (.nil (b5 (.nilrow 1 2 Z (.ret (d8 ?_)))))))))
   obtain rfl := oi h
   exact Done.ret Z Z
  ·refine AWP.skip (b5 (.d (.f (.a Z Z (W.build Z Z Z Z (.e Z Z (W.storeAgg Z Z Z Z Z Z Z (.nil (b5 (.ret ?_))))))))))
   obtain rfl := oi h
   exact Done.ret Z Z
theorem ac7 {all : LL} {sv : List Int} {r : Int} (h : K8 all sv = some r) : d9 Tryz.prog 30 [.c (row 1 d4 all), .c (row 1 intI sv)] (.c (int r)) := by
 unfold d9
 refine FnOk.enter (rs := [.t 4]) Tryz.func30 Z Tryz.ntmps30 Tryz.results30 Z ⟨trivial, Y⟩ (by kernel_rfl) Z ?_
 unfold K8 at h
 refine AWP.d (.f (.e Z Z (.nil (b5 (.d ?_)))))
 obtain ⟨a10, ha10, h⟩ := b7 h
 refine AWP.f (.a Z Z (.a Z Z (.k Z Z Z Z (E1 Z (fun hy => q9 hy) ha10) Z ?_)))
 refine AOps.a Z Z (.w Z Z Z (.w Z Z Z (.e Z Z (.e Z Z (.nil (b5 (.d (.f (.a Z Z (.e Z Z (.nil (b5 (.ret ?_)))))))))))))
 obtain rfl := oi h
 exact Done.ret Z Z
theorem ae1 {ov : b9} {all : LL} {rank : List Int} {sv : List Int} {op : Int} {r : Int} (h : A4 ov all rank sv op = some r) : d9 Tryz.prog 56 [.agg (tO ov), .c (row 1 d4 all), .c (row 1 intI rank), .c (row 1 intI sv), .c (int op)] (.c (int r)) := by
 unfold d9
 refine FnOk.enter (rs := [.t 10]) Tryz.func56 Z Tryz.ntmps56 Tryz.results56 Z ⟨trivial, Y⟩ (by kernel_rfl) Z ?_
 unfold A4 at h
 refine AWP.d (.f (W.box Z Z Z Z Z Z (.e Z Z (.nil (b5 (.d (.f (.e Z Z (.nil (b5 (.d ?_)))))))))))
 obtain ⟨a21, ha21, h⟩ := b7 h
 refine AWP.f (W.loadAgg Z Z Z Z Z Z Z (.a Z Z (.a Z Z (.k Z Z Z Z (P0 ha21) Z (.a Z Z (.w Z Z Z (.w Z Z Z (.e Z Z (.e Z Z (.nil (b5 (.d (.d (.f (.a Z Z (S.len Z Z (fun hl25 => .a Z Z (.nil (b5 (.l ?_))))))))))))))))))))
 obtain ⟨oo, ho1, h⟩ := b7 h
 refine AWP.rngS ho1 (fun t7 nv6 => ⟨[(1, .c (row 1 d4 all)), (2, .c (row 1 intI rank)), (11, .c (int nv6)), (24, .c (row 1 d4 a21.1)), (25, .c (int (a21.1.length : Int))), (26, .c (int t7))], []⟩) (fun o e st => match o with | .inl nv6 => e = .exit 0 ∧ Sub [] st ⟨[(11, .c (int nv6))], []⟩ | .inr x => e = .ret ∧ Done [.t 10] (fun t _ => t = .c (int x)) .ret st) ?_ ?_ ?_ ?_
 ·try dsimp only
  exact Sub.cut ⟨Z, Z, Z, Z, Z, Z, Y⟩ Z trivial Z
 ·intro t7 nv6 hlot7 hltt7 _
  try dsimp only
  refine AWP.d (.f (.j Z Z Z (.nil (b5 (.d (.q Z hltt7 (.exit (d6 (d6 ⟨Z, ?_⟩)))))))))
  exact Sub.env ⟨Z, Y⟩
 ·intro t7 nv6 o hlot7 hltt7 h
  unfold C7 at h
  try dsimp only at h ⊢
  refine AWP.d (.f (.j Z Z Z (.nil (b5 (.d (.r Z hltt7 (.skip (b5 (.d (.l (.d ?_)))))))))))
  obtain ⟨a28, ha28, h⟩ := b7 h
  refine AWP.f (S.idx ha28 Z Z Z Z (.p Z Z Z Z (.e Z Z (.nil (b5 (.d ?_))))))
  obtain ⟨a33, ha33, a34, ha34, h⟩ := b2 h
  refine AWP.f (.a Z Z (.a Z Z (.a Z Z (.k Z Z Z Z (ac7 ha33) Z (S.idx ha34 Z Z Z Z (.p Z Z Z Z (.e Z Z (.nil (b5 (.d (.d (.f (.a Z Z (.j Z Z Z (.nil (b5 (.ite Z h (fun hc8 h => ?_) (fun hc8 h => ?_))))))))))))))))))
  ·refine AWP.d (.f (.e Z Z (.nil (b5 (.ret (d8 (g7 (d8 ?_))))))))
   obtain rfl := oi h
   refine d8 ⟨_, Z, Z, ?_⟩
   exact Done.ret Z Z
  ·refine AWP.skip (b5 (.f (.a Z Z (.a Z Z (.max2 Z Z Z (.e Z Z (.nil (d5 (b5 (.f (.add Z Z Z (by omega) (.a Z Z (.nil ?_)))))))))))))
   obtain rfl := oi h
   refine b5 ⟨_, Z, ?_⟩
   exact Sub.env ⟨Z, Z, Z, Z, Z, Z, Y⟩
 ·intro e s hq
  rcases oo with nv6 | x
  ·try dsimp only at h hq
   obtain ⟨rfl, hs⟩ := hq
   refine ⟨_, hs, ?_⟩
   refine f9 (b5 (.d (.f (.a Z Z (.e Z Z (.nil (b5 (.ret ?_))))))))
   obtain rfl := oi h
   exact Done.ret Z Z
  ·try dsimp only at h hq
   obtain ⟨rfl, hs⟩ := hq
   refine ⟨_, Sub.refl _ _, ?_⟩
   refine g7 (d8 ?_)
   obtain rfl := oi h
   exact hs
theorem af4 {ov : b9} {all : LL} {rank : List Int} {sv : List Int} {r : Int} (h : n9 ov all rank sv = some r) : d9 Tryz.prog 33 [.agg (tO ov), .c (row 1 d4 all), .c (row 1 intI rank), .c (row 1 intI sv)] (.c (int r)) := by
 unfold d9
 refine FnOk.enter (rs := [.t 8]) Tryz.func33 Z Tryz.ntmps33 Tryz.results33 Z ⟨trivial, Y⟩ (by kernel_rfl) Z ?_
 unfold n9 at h
 refine AWP.d (.f (W.box Z Z Z Z Z Z (.e Z Z (.nil (b5 (.d (.f (.e Z Z (.e Z Z (.nil (b5 (.d (.d (.f (W.fieldAddr Z Z Z Z (.m Z Z Z Z Z Z (S.len Z Z (fun hl15 => .a Z Z (.nil (b5 (.l ?_)))))))))))))))))))))
 obtain ⟨⟨out5, least6⟩, ho1, h⟩ := b7 h
 try dsimp only at h
 refine AWP.forS ho1 (fun t7 (out5, least6) => ⟨[(1, .c (row 1 d4 all)), (2, .c (row 1 intI rank)), (3, .c (row 1 intI sv)), (4, .c (.ptr 0 0 0)), (9, .c (int out5)), (10, .c (int least6)), (15, .c (int (ov.operators.length : Int))), (16, .c (int t7))], [.one (.cells 4 [(tO ov)])]⟩) (fun (out5, least6) e st => e = .exit 0 ∧ Sub [] st ⟨[(9, .c (int out5))], [.one (.cells 4 [(tO ov)])]⟩) ?_ ?_ ?_ ?_
 ·try dsimp only
  exact Sub.env ⟨Z, Z, Z, Z, Z, Z, Z, Z, Y⟩
 ·intro t7 s hlot7 hltt7 _
  obtain ⟨out5, least6⟩ := s
  try dsimp only
  refine AWP.d (.f (.j Z Z Z (.nil (b5 (.d (.q Z hltt7 (.exit (d6 (d6 ⟨Z, ?_⟩)))))))))
  exact Sub.env ⟨Z, Y⟩
 ·intro t7 s o hlot7 hltt7 h
  obtain ⟨out5, least6⟩ := s
  unfold L7 at h
  try dsimp only at h ⊢
  refine AWP.d (.f (.j Z Z Z (.nil (b5 (.d (.r Z hltt7 (.skip (b5 ?_))))))))
  obtain ⟨⟨out8, least9⟩, hx10, h⟩ := b7 h
  refine AWP.seqJ (⟨[(1, .c (row 1 d4 all)), (2, .c (row 1 intI rank)), (3, .c (row 1 intI sv)), (4, .c (.ptr 0 0 0)), (9, .c (int out8)), (10, .c (int least9)), (15, .c (int (ov.operators.length : Int))), (16, .c (int t7))], [.one (.cells 4 [(tO ov)])]⟩) ?_ ?_
  ·refine AWP.l (.d (.f (.a Z Z (.e Z Z (.nil (b5 (.d (.d ?_))))))))
   obtain ⟨a22, ha22, hx10⟩ := b7 hx10
   refine AWP.f (W.loadAgg Z Z Z Z Z Z Z (.a Z Z (.a Z Z (.k Z Z Z Z (ae7 ha22) Z (.v Z Z (.nil (b5 (.s Z hx10 (fun hc11 hx10 => ?_) (fun hc11 hx10 => ?_)))))))))
   ·refine AWP.exit (d6 (f9 ?_))
    obtain ⟨ej0, ej1⟩ := o2 hx10
    subst ej0 ej1
    refine b5 (Sub.env ⟨Z, Z, Z, Z, Z, Z, Z, Z, Y⟩)
   ·refine AWP.skip (b5 (.d ?_))
    obtain ⟨a29, ha29, hx10⟩ := b7 hx10
    refine AWP.f (W.loadAgg Z Z Z Z Z Z Z (.a Z Z (.a Z Z (.a Z Z (.a Z Z (.k Z Z Z Z (ae1 ha29) Z (.e Z Z (.nil (b5 (.seqJ (⟨[(1, .c (row 1 d4 all)), (2, .c (row 1 intI rank)), (3, .c (row 1 intI sv)), (4, .c (.ptr 0 0 0)), (9, .c (int out5)), (10, .c (int least6)), (11, .c (int t7)), (12, .c (int a29)), (15, .c (int (ov.operators.length : Int))), (16, .c (int t7)), (40, .c (bool ((decide (0 ≤ a29)) && ((decide (out5 < 0)) || (decide (a29 < least6))))))], [.one (.cells 4 [(tO ov)])]⟩) ?_ ?_))))))))))
    ·rcases bft (decide (0 ≤ a29)) with hb1 | hb1
     ·rcases bft (decide (out5 < 0)) with hb2 | hb2
      ·refine AWP.f (.a Z Z (.geq Z Z Z (.a Z Z (.g Z Z Z hb1 (.a Z Z (.g Z Z Z hb1 (.j Z Z Z (.g Z Z Z hb1 (.a Z Z (.i Z Z Z hb2 (.i Z Z Z hb2 (.i Z Z Z hb2 (.g Z Z Z hb1 (.o Z hb2 Z Z (.o Z hb1 Z Z (.nil (b5 ?_)))))))))))))))))
       simp only [T4 hb1, or_t hb1, T4 hb2, or_t hb2, Bool.false_or, Bool.true_or, Bool.false_and, Bool.true_and]
       exact Sub.env ⟨Z, Z, Z, Z, Z, Z, Z, Z, Z, Z, Z, Y⟩
      ·refine AWP.f (.a Z Z (.geq Z Z Z (.a Z Z (.g Z Z Z hb1 (.a Z Z (.g Z Z Z hb1 (.j Z Z Z (.g Z Z Z hb1 (.a Z Z (.g Z Z Z hb2 (.a Z Z (.g Z Z Z hb2 (.a Z Z (.g Z Z Z hb2 (.j Z Z Z (.g Z Z Z hb1 (.n Z hb2 Z Z (.o Z hb1 Z Z (.nil (b5 ?_))))))))))))))))))))
       simp only [T4 hb1, or_t hb1, and_f hb2, or_f hb2, Bool.false_or, Bool.true_or, Bool.false_and, Bool.true_and]
       exact Sub.env ⟨Z, Z, Z, Z, Z, Z, Z, Z, Z, Z, Z, Y⟩
     ·refine AWP.f (.a Z Z (.geq Z Z Z (.a Z Z (.i Z Z Z hb1 (.i Z Z Z hb1 (.i Z Z Z hb1 (.x Z Z Z (.x Z Z Z (.x Z Z Z (.i Z Z Z hb1 (.n Z hb1 Z Z (.nil (b5 ?_)))))))))))))
      simp only [and_f hb1, or_f hb1, Bool.false_or, Bool.true_or, Bool.false_and, Bool.true_and]
      exact Sub.env ⟨Z, Z, Z, Z, Z, Z, Z, Z, Z, Z, Z, Y⟩
    ·refine AWP.s Z hx10 (fun hc12 hx10 => ?_) (fun hc12 hx10 => ?_)
     ·refine AWP.f (.a Z Z (.a Z Z (.e Z Z (.e Z Z (.nil (d5 ?_))))))
      obtain ⟨ej0, ej1⟩ := o2 hx10
      subst ej0 ej1
      refine b5 (Sub.env ⟨Z, Z, Z, Z, Z, Z, Z, Z, Y⟩)
     ·refine AWP.skip (d5 ?_)
      obtain ⟨ej0, ej1⟩ := o2 hx10
      subst ej0 ej1
      refine b5 (Sub.env ⟨Z, Z, Z, Z, Z, Z, Z, Z, Y⟩)
  ·try dsimp only at h
   refine AWP.f (.add Z Z Z (by omega) (.a Z Z (.nil ?_)))
   obtain rfl := oi h
   refine b5 (Sub.env ⟨Z, Z, Z, Z, Z, Z, Z, Z, Y⟩)
 ·intro e s hq
  obtain ⟨rfl, hs⟩ := hq
  refine ⟨_, hs, ?_⟩
  refine f9 (b5 (.d (.f (.a Z Z (.e Z Z (.nil (b5 (.ret ?_))))))))
  obtain rfl := oi h
  exact Done.ret Z Z
theorem strong_ranks_ok {ov : b9} {all : LL} {r : (List Int)} (h : H5 ov all = some r) : m5 Tryz.prog 29 [.agg (tO ov), .c (row 1 d4 all)] 1 (List.map intI r) := by
 unfold m5
 refine FnOk.enter (rs := [.t 4]) Tryz.func29 Z Tryz.ntmps29 Tryz.results29 Z ⟨trivial, Y⟩ (by kernel_rfl) Z ?_
 unfold H5 at h
 refine AWP.d (.f (W.box Z Z Z Z Z Z (.e Z Z (.nil (b5 (.d ?_))))))
 obtain ⟨a17, ha17, h⟩ := b7 h
 refine AWP.f (S.lit (f := intI) (l := [-1]) (ess := [[int (-1)]]) Z Z Z Z Z Z Z ⟨⟨.inl Z, Y⟩, Y⟩ Z Z Z (.a Z Z (S.len Z Z (fun hl16 => S.freshL (fun _ => Z) Z Z (.cons (.c (.own Z Z)) (.cons (.c .imm) .nil)) Z (ac0 ha17) Z Z ?_))))
 refine AOps.e Z Z (.nil (b5 (.d (.d (.f (.a Z Z (S.len Z Z (fun hl19 => .a Z Z (.nil (b5 (.l ?_)))))))))))
 obtain ⟨c3, ho1, h⟩ := b7 h
 refine AWP.forS ho1 (fun t4 c3 => ⟨[(1, .c (row 1 d4 all)), (2, .c (.ptr 0 0 0)), (5, .c (.own 2 0 c3.length)), (18, .c (row 1 d4 all)), (19, .c (int (all.length : Int))), (20, .c (int t4))], [.one (.cells 4 [(tO ov)]), .dead, .one (vec 1 intI c3)]⟩) (fun c3 e st => e = .exit 0 ∧ Sub [] st ⟨[(1, .c (row 1 d4 all)), (2, .c (.ptr 0 0 0)), (5, .c (.own 2 0 c3.length))], [.one (.cells 4 [(tO ov)]), .dead, .one (vec 1 intI c3)]⟩) ?_ ?_ ?_ ?_
 ·try dsimp only
  exact Sub.cut ⟨Z, Z, Z, Z, Z, Z, Y⟩ Z ⟨.one Z, .dead, .vec, Y⟩ Z
 ·intro t4 c3 hlot4 hltt4 _
  try dsimp only
  refine AWP.d (.f (.j Z Z Z (.nil (b5 (.d (.q Z hltt4 (.exit (d6 (d6 ⟨Z, ?_⟩)))))))))
  exact Sub.env ⟨Z, Z, Z, Y⟩
 ·intro t4 c3 o hlot4 hltt4 h
  unfold F8 at h
  try dsimp only at h ⊢
  refine AWP.d (.f (.j Z Z Z (.nil (b5 (.d (.r Z hltt4 (.skip (b5 ?_))))))))
  obtain ⟨c5, hx6, h⟩ := b7 h
  refine AWP.seqJ (⟨[(1, .c (row 1 d4 all)), (2, .c (.ptr 0 0 0)), (5, .c (.own 2 0 c5.length)), (18, .c (row 1 d4 all)), (19, .c (int (all.length : Int))), (20, .c (int t4))], [.one (.cells 4 [(tO ov)]), .dead, .one (vec 1 intI c5)]⟩) ?_ ?_
  ·refine AWP.l (.d ?_)
   obtain ⟨a23, ha23, hx6⟩ := b7 hx6
   refine AWP.f (.a Z Z (S.idx ha23 Z Z Z Z (.p Z Z Z Z (.e Z Z (.e Z Z (.nil (b5 (.d ?_))))))))
   obtain ⟨a28, ha28, hx6⟩ := b7 hx6
   refine AWP.f (.a Z Z (W.fieldAddr Z Z Z Z (.m Z Z Z Z Z Z (.k Z Z Z Z (B1 ha28) Z (.nil (b5 (.s Z hx6 (fun hc7 hx6 => ?_) (fun hc7 hx6 => ?_))))))))
   ·obtain ⟨a31, ha31, hx6⟩ := b7 hx6
    refine AWP.f (.a Z Z (.a Z Z (S.idxO ha31 Z Z Z Z Z (S.storeO1 (f := intI) (a' := 0) (ix_lt ha31) (fun _ => ⟨_, Z⟩) Z Z Z Z Z ?_))))
    refine AOps.nil (d5 ?_)
    obtain rfl := oi hx6
    refine b5 (Sub.env ⟨Z, Z, (x8 (by first | rfl | simp only [List.length_set])), Z, Z, Z, Y⟩)
   ·refine AWP.skip (d5 ?_)
    obtain rfl := oi hx6
    refine b5 (Sub.env ⟨Z, Z, Z, Z, Z, Z, Y⟩)
  ·refine AWP.f (.add Z Z Z (by omega) (.a Z Z (.nil ?_)))
   obtain rfl := oi h
   refine b5 (Sub.env ⟨Z, Z, Z, Z, Z, Z, Y⟩)
 ·intro e s hq
  obtain ⟨rfl, hs⟩ := hq
  refine ⟨_, hs, ?_⟩
  refine f9 (b5 (.d (.f (.e Z Z (.nil (b5 (.l ?_)))))))
  obtain ⟨x, ho2, h⟩ := b7 h
  refine AWP.loopS ho2 (fun (c8, layer9) => ⟨[(1, .c (row 1 d4 all)), (2, .c (.ptr 0 0 0)), (5, .c (.own 2 0 c8.length)), (8, .c (int layer9))], [.one (.cells 4 [(tO ov)]), .dead, .one (vec 1 intI c8)]⟩) (fun x e st => e = .ret ∧ Done [.t 4] (fun t s => ∃ id, t = .c (.own id 0 (List.map intI x).length) ∧ s[id]? = some (some (Blk.im 1 (List.map intI x)))) .ret st) ?_ ?_ ?_
  ·try dsimp only
   exact Sub.env ⟨Z, Z, Z, Z, Y⟩
  ·intro s o h
   obtain ⟨c8, layer9⟩ := s
   unfold y7 at h
   try dsimp only at h ⊢
   refine AWP.d (.l (.d (.f (.e Z Z (.nil (b5 (.d (.d (.f (.a Z Z (S.len Z Z (fun hl36 => .a Z Z (.nil (b5 (.l (.virtV 1 intI 9 Z Z Z ?_))))))))))))))))
   obtain ⟨c10, ho3, h⟩ := b7 h
   refine AWP.forS ho3 (fun t11 c10 => ⟨[(1, .c (row 1 d4 all)), (2, .c (.ptr 0 0 0)), (5, .c (.own 2 0 c8.length)), (8, .c (int layer9)), (9, .c (.own 3 0 c10.length)), (35, .c (row 1 d4 all)), (36, .c (int (all.length : Int))), (37, .c (int t11))], [.one (.cells 4 [(tO ov)]), .dead, .one (vec 1 intI c8), .one (vec 1 intI c10)]⟩) (fun c10 e st => e = .exit 4 ∧ Sub [] st ⟨[(1, .c (row 1 d4 all)), (2, .c (.ptr 0 0 0)), (5, .c (.own 2 0 c8.length)), (8, .c (int layer9)), (9, .c (.own 3 0 c10.length))], [.one (.cells 4 [(tO ov)]), .dead, .one (vec 1 intI c8), .one (vec 1 intI c10)]⟩) ?_ ?_ ?_ ?_
   ·try dsimp only
    exact Sub.env ⟨Z, Z, Z, Z, (x8 (by first | rfl | simp only [List.length_set])), Z, Z, Z, Y⟩
   ·intro t11 c10 hlot11 hltt11 _
    try dsimp only
    refine AWP.d (.f (.j Z Z Z (.nil (b5 (.d (.q Z hltt11 (.exit (d6 (d6 ⟨Z, ?_⟩)))))))))
    exact Sub.env ⟨Z, Z, Z, Z, Z, Y⟩
   ·intro t11 c10 o hlot11 hltt11 h
    unfold K4 at h
    try dsimp only at h ⊢
    refine AWP.d (.f (.j Z Z Z (.nil (b5 (.d (.r Z hltt11 (.skip (b5 ?_))))))))
    obtain ⟨c12, hx13, h⟩ := b7 h
    refine AWP.seqJ (⟨[(1, .c (row 1 d4 all)), (2, .c (.ptr 0 0 0)), (5, .c (.own 2 0 c8.length)), (8, .c (int layer9)), (9, .c (.own 5 0 c12.length)), (35, .c (row 1 d4 all)), (36, .c (int (all.length : Int))), (37, .c (int t11))], [.one (.cells 4 [(tO ov)]), .dead, .one (vec 1 intI c8), .dead, .dead, .one (vec 1 intI c12)]⟩) ?_ ?_
    ·refine AWP.l (.d ?_)
     obtain ⟨a40, ha40, hx13⟩ := b7 hx13
     refine AWP.f (.a Z Z (S.idx ha40 Z Z Z Z (.p Z Z Z Z (.e Z Z (.e Z Z (.nil (b5 ?_)))))))
     obtain ⟨t14, hx15, hx13⟩ := b7 hx13
     refine AWP.seqJ (⟨[(1, .c (row 1 d4 all)), (2, .c (.ptr 0 0 0)), (5, .c (.own 2 0 c8.length)), (8, .c (int layer9)), (9, .c (.own 3 0 c10.length)), (10, .c (int t11)), (35, .c (row 1 d4 all)), (36, .c (int (all.length : Int))), (37, .c (int t11)), (54, .c (bool t14))], [.one (.cells 4 [(tO ov)]), .dead, .one (vec 1 intI c8), .one (vec 1 intI c10)]⟩) ?_ ?_
     ·obtain ⟨a44, ha44, hx15⟩ := b7 hx15
      rcases bft (decide (a44 < 0)) with hb16 | hb16
      ·replace hx15 := B4 hb16 hx15
       obtain ⟨a52, ha52, hx15⟩ := b7 hx15
       refine AWP.f (.a Z Z (.a Z Z (S.idxO ha44 Z Z Z Z Z (S.loadO ha44 Z Z Z Z Z (.j Z Z Z (.a Z Z (.g Z Z Z hb16 (W.loadAgg Z Z Z Z Z Z Z (.g Z Z Z hb16 (.a Z Z (.g Z Z Z hb16 (.a Z Z (.g Z Z Z hb16 (.a Z Z (.g Z Z Z hb16 (.y Z Z (.cons (.agg (.cons .imm (.cons .imm (.cons .imm (.cons .imm .nil))))) (.cons (.c .imm) (.cons (.c (.own Z Z)) (.cons (.c .imm) .nil)))) Z (af4 ha52) Z (.g Z Z Z hb16 (.geq Z Z Z (.o Z hb16 Z Z (.nil ?_))))))))))))))))))))
       obtain rfl := oi hx15
       refine b5 (Sub.env ⟨Z, Z, Z, Z, Z, Z, Z, Z, Z, Z, Y⟩)
      ·replace hx15 := B5 hb16 hx15
       refine AWP.f (.a Z Z (.a Z Z (S.idxO ha44 Z Z Z Z Z (S.loadO ha44 Z Z Z Z Z (.j Z Z Z (.a Z Z (.i Z Z Z hb16 (.i Z Z Z hb16 (.i Z Z Z hb16 (.i Z Z Z hb16 (.i Z Z Z hb16 (.i Z Z Z hb16 (.n Z hb16 Z Z (.nil ?_))))))))))))))
       obtain rfl := oi hx15
       refine b5 (Sub.env ⟨Z, Z, Z, Z, Z, Z, Z, Z, Z, Z, Y⟩)
     ·refine AWP.s Z hx13 (fun hc17 hx13 => ?_) (fun hc17 hx13 => ?_)
      ·obtain ⟨a58, ha58, hx13⟩ := b7 hx13
       refine AWP.f (.a Z Z (.a Z Z (S.lit (f := intI) (l := [t11]) (ess := [[int t11]]) Z Z Z Z Z Z Z ⟨⟨.inl Z, Y⟩, Y⟩ Z Z Z (S.append (f := intI) ha58 Z Z Z Z Z Z (.own Z Z) Z Z Z Z (.e Z Z (.nil (d5 ?_)))))))
       obtain rfl := oi hx13
       refine b5 (Sub.cut ⟨Z, Z, Z, Z, Z, Z, Z, Z, Y⟩ Z ⟨.one Z, .dead, .vec, .dead, .dead, .vec, Y⟩ Z)
      ·refine AWP.skip (d5 ?_)
       obtain rfl := oi hx13
       refine b5 ((Sub.move (env' := [(1, .c (row 1 d4 all)), (2, .c (.ptr 0 0 0)), (5, .c (.own 2 0 c8.length)), (8, .c (int layer9)), (9, .c (.own 5 0 c10.length)), (35, .c (row 1 d4 all)), (36, .c (int (all.length : Int))), (37, .c (int t11))]) (σ' := [.one (.cells 4 [(tO ov)]), .dead, .one (vec 1 intI c8), .dead, .dead, .one (vec 1 intI c10)]) 5 3 Z Z Z ⟨Z, Z, Z, Z, Z, Z, Z, Z, Y⟩ Z ⟨⟨Z, Z⟩, trivial, ⟨Blk.im_ok _ _ _, k7 Z⟩, trivial, trivial, ⟨Blk.im_ok _ _ _, k7 Z⟩, Y⟩).trans (Sub.env ⟨Z, Z, Z, Z, Z, Z, Z, Z, Y⟩))
    ·refine AWP.f (.add Z Z Z (by omega) (.a Z Z (.nil ?_)))
     obtain rfl := oi h
     refine b5 ((Sub.move (env' := [(1, .c (row 1 d4 all)), (2, .c (.ptr 0 0 0)), (5, .c (.own 2 0 c8.length)), (8, .c (int layer9)), (9, .c (.own 3 0 c12.length)), (35, .c (row 1 d4 all)), (36, .c (int (all.length : Int))), (37, .c (int (t11 + 1)))]) (σ' := [.one (.cells 4 [(tO ov)]), .dead, .one (vec 1 intI c8), .one (vec 1 intI c12), .dead]) 3 5 Z Z Z ⟨Z, Z, Z, Z, Z, Z, Z, Z, Y⟩ Z ⟨⟨Z, Z⟩, trivial, ⟨Blk.im_ok _ _ _, k7 Z⟩, ⟨Blk.im_ok _ _ _, k7 Z⟩, trivial, Y⟩).trans (Sub.cut ⟨Z, Z, Z, Z, Z, Z, Z, Z, Y⟩ Z ⟨.one Z, .dead, .vec, .vec, Y⟩ Z))
   ·intro e s hq
    obtain ⟨rfl, hs⟩ := hq
    refine ⟨_, hs, ?_⟩
    refine f9 (b5 (.d (.d (.f (.a Z Z (S.lenO Z Z Z (fun hl61 => .u Z Z Z (.nil (b5 (.ite Z h (fun hc18 h => ?_) (fun hc18 h => ?_)))))))))))
    ·refine AWP.d (.f (.a Z Z (.e Z Z (.nil (b5 (.ret (d8 (g7 (d8 ?_)))))))))
     obtain rfl := oi h
     refine d8 ⟨_, Z, Z, ?_⟩
     exact Done.ret Z (Fresh.mk Z Z)
    ·refine AWP.skip (b5 (.d (.f (.a Z Z (S.lenO Z Z Z (fun hl65 => .a Z Z (.nil (b5 (.l ?_)))))))))
     obtain ⟨c19, ho4, h⟩ := b7 h
     refine AWP.forS ho4 (fun t20 c19 => ⟨[(1, .c (row 1 d4 all)), (2, .c (.ptr 0 0 0)), (5, .c (.own 2 0 c19.length)), (8, .c (int layer9)), (64, .c (.own 3 0 c10.length)), (65, .c (int (c10.length : Int))), (66, .c (int t20))], [.one (.cells 4 [(tO ov)]), .dead, .one (vec 1 intI c19), .one (vec 1 intI c10)]⟩) (fun c19 e st => e = .exit 6 ∧ Sub [] st ⟨[(1, .c (row 1 d4 all)), (2, .c (.ptr 0 0 0)), (5, .c (.own 2 0 c19.length)), (8, .c (int layer9))], [.one (.cells 4 [(tO ov)]), .dead, .one (vec 1 intI c19), .one (vec 1 intI c10)]⟩) ?_ ?_ ?_ ?_
     ·try dsimp only
      exact Sub.env ⟨Z, Z, Z, Z, Z, Z, Z, Y⟩
     ·intro t20 c19 hlot20 hltt20 _
      try dsimp only
      refine AWP.d (.f (.j Z Z Z (.nil (b5 (.d (.q Z hltt20 (.exit (d6 (d6 ⟨Z, ?_⟩)))))))))
      exact Sub.env ⟨Z, Z, Z, Z, Y⟩
     ·intro t20 c19 o hlot20 hltt20 h
      unfold P3 at h
      try dsimp only at h ⊢
      refine AWP.d (.f (.j Z Z Z (.nil (b5 (.d (.r Z hltt20 (.skip (b5 (.d (.l (.d ?_)))))))))))
      obtain ⟨a68, ha68, h⟩ := b7 h
      refine AWP.f (S.idxO ha68 Z Z Z Z Z (S.loadO ha68 Z Z Z Z Z (.e Z Z (.nil (b5 ?_)))))
      obtain ⟨a73, ha73, h⟩ := b7 h
      refine AWP.f (.a Z Z (.a Z Z (.a Z Z (S.idxO ha73 Z Z Z Z Z (S.storeO1 (f := intI) (a' := layer9) (ix_lt ha73) (fun _ => ⟨_, Z⟩) Z Z Z Z Z ?_)))))
      refine AOps.nil (d5 (b5 (.f (.add Z Z Z (by omega) (.a Z Z (.nil ?_))))))
      obtain rfl := oi h
      refine b5 (Sub.env ⟨Z, Z, (x8 (by first | rfl | simp only [List.length_set])), Z, Z, Z, Z, Y⟩)
     ·intro e s hq
      obtain ⟨rfl, hs⟩ := hq
      refine ⟨_, hs, ?_⟩
      refine f9 (d5 (b5 (.f (.a Z Z (S.add Z Z Z (.e Z Z (.nil ?_)))))))
      obtain rfl := oi h
      refine b5 ⟨_, Z, ?_⟩
      exact Sub.cut ⟨Z, Z, Z, Z, Y⟩ Z ⟨.one Z, .dead, .vec, Y⟩ Z
  ·intro e s hq
   obtain ⟨rfl, hs⟩ := hq
   refine ⟨_, Sub.refl _ _, ?_⟩
   refine g7 ?_
   obtain rfl := oi h
   exact hs
theorem aj0 {sv : List Int} {c2 : b9} {c3 : LL} {c4 : List Int} {r : Int} (h : q7 sv c2 c3 c4 = some r) : d9 Tryz.prog 32 [.c (row 1 intI sv), .c (.imm (.ipt [.val (.int .i64 c2.facts), .sl 1 (List.map intI c2.init), .sl 1 (List.map intI c2.goal), .sl 3 (List.map m9 c2.operators)])), .c (.imm (.ipt [.sl 1 (List.map d4 c3)])), .c (.imm (.ipt [.sl 1 (List.map intI c4)]))] (.c (int r)) := by
 unfold d9
 refine FnOk.enter (rs := [.t 5]) Tryz.func32 Z Tryz.ntmps32 Tryz.results32 Z ⟨trivial, Y⟩ (by kernel_rfl) Z ?_
 unfold q7 at h
 refine AWP.d (.f (.e Z Z (.nil (b5 (.d ?_)))))
 obtain ⟨a10, ha10, h⟩ := b7 h
 refine AWP.f (W.loadIAgg Z Z Z Z Z (.p Z Z Z Z (.p Z Z Z Z (.a Z Z (.k Z Z Z Z (af4 ha10) Z (.e Z Z (.nil (b5 (.ret ?_)))))))))
 obtain rfl := oi h
 exact Done.ret Z Z
theorem u9 {xv : List d7} {target : List Int} {cmp : d7 → (List Int) → Option Int} {r : Int × Bool} {fvcmp : FuncId} {cvcmp : List C} (hcvcmp : C.okL 0 cvcmp = true) (hcmp : ∀ {y1 : d7} {y2 : List Int} {z : Int}, cmp y1 y2 = some z → d9 Tryz.prog fvcmp ([.agg [row 1 intI y1.state, int y1.operator], .c (row 1 intI y2)] ++ cvcmp.map T.c) (.c (int z))) (h : i7 xv target cmp = some r) : d9 Tryz.prog 73 [.c (row 2 e9 xv), .c (row 1 intI target), .c (.fn fvcmp cvcmp)] (.tup [.c (int r.1), .c (bool r.2)]) := by
 unfold d9
 refine FnOk.enter (rs := [.t 6, .t 7]) Tryz.func73 Z Tryz.ntmps73 Tryz.results73 Z ⟨trivial, trivial, Y⟩ (by kernel_rfl) Z ?_
 unfold i7 at h
 refine AWP.d (.f (.e Z Z (.e Z Z (.nil (b5 (.d (.f (.a Z Z (S.len Z Z (fun hl13 => .e Z Z (.nil (b5 (.d (.f (.a Z Z (.e Z Z (.e Z Z (.nil (b5 (.d (.l ?_)))))))))))))))))))))
 obtain ⟨iv6, ho1, h⟩ := b7 h
 refine AWP.loopS ho1 (fun (iv4, j5) => ⟨[(0, .c (row 2 e9 xv)), (1, .c (row 1 intI target)), (2, .c (.fn fvcmp cvcmp)), (8, .c (int (xv.length : Int))), (9, .c (int iv4)), (10, .c (int j5))], []⟩) (fun iv6 e st => e = .exit 0 ∧ Sub [] st ⟨[(0, .c (row 2 e9 xv)), (1, .c (row 1 intI target)), (2, .c (.fn fvcmp cvcmp)), (8, .c (int (xv.length : Int))), (9, .c (int iv6))], []⟩) ?_ ?_ ?_
 ·try dsimp only
  exact Sub.env ⟨Z, Z, Z, Z, Z, Z, Y⟩
 ·intro s o h
  obtain ⟨iv4, j5⟩ := s
  unfold u7 at h
  try dsimp only at h ⊢
  refine AWP.d (.d (.f (.a Z Z (.a Z Z (.j Z Z Z (.nil (b5 (.ite Z h (fun hc7 h => ?_) (fun hc7 h => ?_)))))))))
  ·refine AWP.skip (b5 (.l (.d (.f (.a Z Z (.a Z Z (S.add Z Z Z (.z Z Z (.shr Z Z Z (by decide) Z (.z Z Z (.e Z Z (.nil (b5 (.d ?_))))))))))))))
   obtain ⟨a27, ha27, a30, ha30, h⟩ := b2 h
   refine AWP.f (.a Z Z (.a Z Z (.a Z Z (S.idx ha27 Z Z Z Z (W.loadIAgg Z Z Z Z Z (.a Z Z (.k Z Z (X4 Z hcvcmp) Z (hcmp ha30) Z (.j Z Z Z (.nil (b5 (.ite Z h (fun hc8 h => ?_) (fun hc8 h => ?_))))))))))))
   ·refine AWP.f (.a Z Z (S.add Z Z Z (.e Z Z (.nil (d5 ?_)))))
    obtain rfl := oi h
    refine b5 ⟨_, Z, ?_⟩
    exact Sub.env ⟨Z, Z, Z, Z, Z, Z, Y⟩
   ·refine AWP.f (.a Z Z (.e Z Z (.nil (d5 ?_))))
    obtain rfl := oi h
    refine b5 ⟨_, Z, ?_⟩
    exact Sub.env ⟨Z, Z, Z, Z, Z, Z, Y⟩
  ·refine AWP.exit (d6 ?_)
   obtain rfl := oi h
   refine d6 ⟨_, Z, Z, ?_⟩
   exact Sub.env ⟨Z, Z, Z, Z, Z, Y⟩
 ·intro e s hq
  obtain ⟨rfl, hs⟩ := hq
  refine ⟨_, hs, ?_⟩
  refine f9 (b5 ?_)
  obtain ⟨t9, hx10, h⟩ := b7 h
  refine AWP.seqJ (⟨[(6, .c (int iv6)), (7, .c (bool t9))], []⟩) ?_ ?_
  ·rcases bft (decide (iv6 < (xv.length : Int))) with hb11 | hb11
   ·replace hx10 := B4 hb11 hx10
    obtain ⟨a43, ha43, a46, ha46, hx10⟩ := b2 hx10
    refine AWP.f (.a Z Z (.a Z Z (.a Z Z (.j Z Z Z (.a Z Z (.g Z Z Z hb11 (.a Z Z (.g Z Z Z hb11 (.a Z Z (.g Z Z Z hb11 (.a Z Z (.g Z Z Z hb11 (S.idx ha43 Z Z Z Z (.g Z Z Z hb11 (W.loadIAgg Z Z Z Z Z (.g Z Z Z hb11 (.a Z Z (.g Z Z Z hb11 (.k Z Z (X4 Z hcvcmp) Z (hcmp ha46) Z (.g Z Z Z hb11 (.u Z Z Z (.o Z hb11 Z Z (.e Z Z (.e Z Z (.nil ?_)))))))))))))))))))))))))
    obtain rfl := oi hx10
    refine b5 (Sub.env ⟨Z, Z, Y⟩)
   ·replace hx10 := B5 hb11 hx10
    refine AWP.f (.a Z Z (.a Z Z (.a Z Z (.j Z Z Z (.a Z Z (.i Z Z Z hb11 (.i Z Z Z hb11 (.i Z Z Z hb11 (.i Z Z Z hb11 (.i Z Z Z hb11 (.i Z Z Z hb11 (.i Z Z Z hb11 (.i Z Z Z hb11 (.n Z hb11 Z Z (.e Z Z (.e Z Z (.nil ?_)))))))))))))))))
    obtain rfl := oi hx10
    refine b5 (Sub.env ⟨Z, Z, Y⟩)
  ·refine AWP.ret ?_
   obtain rfl := oi h
   exact Done.ret Z Z
theorem al1 {c : d7} {sv : List Int} {r : Int} (h : open_Chosen_1 c sv = some r) : d9 Tryz.prog 84 [.agg [row 1 intI c.state, int c.operator], .c (row 1 intI sv)] (.c (int r)) := by
 unfold d9
 refine FnOk.enter (rs := [.t 4]) Tryz.func84 Z Tryz.ntmps84 Tryz.results84 Z ⟨trivial, Y⟩ (by kernel_rfl) Z ?_
 unfold open_Chosen_1 at h
 refine AWP.d (.f (W.box Z Z Z Z Z Z (.e Z Z (.nil (b5 (.d ?_))))))
 obtain ⟨a8, ha8, h⟩ := b7 h
 refine AWP.f (W.fieldAddr Z Z Z Z (.m Z Z Z Z Z Z (.a Z Z (.k Z Z Z Z (q9 ha8) Z (.e Z Z (.nil (b5 (.ret ?_))))))))
 obtain rfl := oi h
 exact Done.ret Z Z
theorem Y3 {policy : List d7} {sv : List Int} {r : Int} (h : E7 policy sv = some r) : d9 Tryz.prog 55 [.c (row 2 e9 policy), .c (row 1 intI sv)] (.c (int r)) := by
 unfold d9
 refine FnOk.enter (rs := [.t 4]) Tryz.func55 Z Tryz.ntmps55 Tryz.results55 Z ⟨trivial, Y⟩ (by kernel_rfl) Z ?_
 unfold E7 at h
 refine AWP.d (.f (.e Z Z (.nil (b5 (.d ?_)))))
 obtain ⟨a10, ha10, h⟩ := b7 h
 refine AWP.f (.a Z Z (.a Z Z (.k Z Z Z Z (u9 Z (fun hy => al1 hy) ha10) Z ?_)))
 refine AOps.a Z Z (.w Z Z Z (.w Z Z Z (.e Z Z (.e Z Z (.nil (b5 (.d (.d (.f (.a Z Z (.v Z Z (.nil (b5 (.s Z h (fun hc3 h => ?_) (fun hc3 h => ?_)))))))))))))))
 ·refine AWP.d (.f (.e Z Z (.nil (b5 (.ret (d8 ?_))))))
  obtain rfl := oi h
  exact Done.ret Z Z
 ·refine AWP.skip (b5 (.d ?_))
  obtain ⟨a17, ha17, h⟩ := b7 h
  refine AWP.f (.a Z Z (.a Z Z (S.idx ha17 Z Z Z Z (W.fieldAddrI Z Z Z Z (.p Z Z Z Z (.e Z Z (.nil (b5 (.ret ?_)))))))))
  obtain rfl := oi h
  exact Done.ret Z Z
theorem ak2 {c : d7} {sv : List Int} {r : Int} (h : y4 c sv = some r) : d9 Tryz.prog 74 [.agg [row 1 intI c.state, int c.operator], .c (row 1 intI sv)] (.c (int r)) := by
 unfold d9
 refine FnOk.enter (rs := [.t 4]) Tryz.func74 Z Tryz.ntmps74 Tryz.results74 Z ⟨trivial, Y⟩ (by kernel_rfl) Z ?_
 unfold y4 at h
 refine AWP.d (.f (W.box Z Z Z Z Z Z (.e Z Z (.nil (b5 (.d ?_))))))
 obtain ⟨a8, ha8, h⟩ := b7 h
 refine AWP.f (W.fieldAddr Z Z Z Z (.m Z Z Z Z Z Z (.a Z Z (.k Z Z Z Z (q9 ha8) Z (.e Z Z (.nil (b5 (.ret ?_))))))))
 obtain rfl := oi h
 exact Done.ret Z Z
theorem strong_Build_ok {ov : b9} {choose : (List Int) → Option Int} {r : (List d7) × Bool} {fvchoose : FuncId} {cvchoose : List C} (hcvchoose : C.okL 0 cvchoose = true) (hchoose : ∀ {y1 : List Int} {z : Int}, choose y1 = some z → d9 Tryz.prog fvchoose ([.c (row 1 intI y1)] ++ cvchoose.map T.c) (.c (int z))) (h : I4 ov choose = some r) : d9 Tryz.prog 31 [.agg (tO ov), .c (.fn fvchoose cvchoose)] (.tup [.c (row 2 e9 r.1), .c (bool r.2)]) := by
 unfold d9
 refine FnOk.enter (rs := [.t 4, .t 5]) Tryz.func31 Z Tryz.ntmps31 Tryz.results31 Z ⟨trivial, trivial, Y⟩ (by kernel_rfl) Z ?_
 unfold I4 at h
 refine AWP.d (.f (W.box Z Z Z Z Z Z (.e Z Z (.e Z Z (.nil (b5 (.d (.f (.e Z Z (.nil (b5 (.d (.f (W.fieldAddr Z Z Z Z (.m Z Z Z Z Z Z (S.lit (f := d4) (l := [ov.init]) (ess := [[row 1 intI ov.init]]) Z Z Z Z Z Z Z ⟨⟨.inl Z, Y⟩, Y⟩ Z Z Z (.e Z Z (.nil (b5 (.d (.d (.f (.e Z Z (.nil (b5 (.l (.virtV 2 e9 6 Z Z Z ?_)))))))))))))))))))))))))))
 obtain ⟨oo, ho1, h⟩ := b7 h
 refine AWP.loopS ho1 (fun (c3, c4, atv5) => ⟨[(1, .c (.fn fvchoose cvchoose)), (2, .c (.ptr 0 0 0)), (6, .c (.own 2 0 c4.length)), (7, .c (.own 1 0 c3.length)), (8, .c (int atv5))], [.one (.cells 4 [(tO ov)]), .one (vec 1 d4 c3), .one (vec 2 e9 c4)]⟩) (fun o e st => match o with | .inl c6 => e = .exit 0 ∧ Sub [] st ⟨[(6, .c (.own 2 0 c6.length))], [.dead, .dead, .one (vec 2 e9 c6)]⟩ | .inr x => e = .ret ∧ Done [.t 4, .t 5] (fun t _ => t = .tup [.c (row 2 e9 x.1), .c (bool x.2)]) .ret st) ?_ ?_ ?_
 ·try dsimp only
  exact Sub.env ⟨Z, Z, (x8 (by first | rfl | simp only [List.length_set])), Z, Z, Y⟩
 ·intro s o h
  obtain ⟨c3, c4, atv5⟩ := s
  unfold s5 at h
  try dsimp only at h ⊢
  refine AWP.d (.d (.f (.a Z Z (.a Z Z (S.lenO Z Z Z (fun hl20 => .j Z Z Z (.nil (b5 (.ite Z h (fun hc7 h => ?_) (fun hc7 h => ?_))))))))))
  ·refine AWP.skip (b5 (.seqF ((F6 atv5)) o (fun (c8, c9) => ⟨[(1, .c (.fn fvchoose cvchoose)), (2, .c (.ptr 0 0 0)), (6, .c (.own 2 0 c9.length)), (7, .c (.own 1 0 c8.length)), (8, .c (int atv5))], [.one (.cells 4 [(tO ov)]), .one (vec 1 d4 c8), .one (vec 2 e9 c9)]⟩) (fun x h => ?_) ?_))
   ·obtain ⟨c8, c9⟩ := x
    unfold F6 at h
    try dsimp only at h ⊢
    refine AWP.f (.a Z Z (S.add Z Z Z (.e Z Z (.nil ?_))))
    obtain rfl := oi h
    refine b5 ⟨_, Z, ?_⟩
    exact Sub.env ⟨Z, Z, Z, Z, Z, Y⟩
   ·refine AWP.l (.d ?_)
    obtain ⟨a26, ha26, h⟩ := b7 h
    refine AWP.f (.a Z Z (.a Z Z (S.idxO ha26 Z Z Z Z Z (S.loadO ha26 Z Z Z Z Z (.e Z Z (.nil (b5 (.d ?_))))))))
    obtain ⟨t10, hx11, h⟩ := b7 h
    refine AWP.seqJ (⟨[(1, .c (.fn fvchoose cvchoose)), (2, .c (.ptr 0 0 0)), (6, .c (.own 2 0 c4.length)), (7, .c (.own 1 0 c3.length)), (8, .c (int atv5)), (9, .c (row 1 intI a26)), (37, .c (bool t10))], [.one (.cells 4 [(tO ov)]), .one (vec 1 d4 c3), .one (vec 2 e9 c4)]⟩) ?_ ?_
    ·obtain ⟨a31, ha31, hx11⟩ := b7 hx11
     rcases bft (a31) with hb12 | hb12
     ·replace hx11 := B8 hb12 hx11
      refine AWP.f (.a Z Z (W.fieldAddr Z Z Z Z (.m Z Z Z Z Z Z (.k Z Z Z Z (B1 ha31) Z (.a Z Z (.i Z Z Z hb12 (.i Z Z Z hb12 (.i Z Z Z hb12 (.i Z Z Z hb12 (.o Z hb12 Z Z (.nil ?_)))))))))))
      obtain rfl := oi hx11
      refine b5 (Sub.env ⟨Z, Z, Z, Z, Z, Z, Z, Y⟩)
     ·replace hx11 := B9 hb12 hx11
      obtain ⟨a35, ha35, hx11⟩ := b7 hx11
      refine AWP.f (.a Z Z (W.fieldAddr Z Z Z Z (.m Z Z Z Z Z Z (.k Z Z Z Z (B1 ha31) Z (.a Z Z (.g Z Z Z hb12 (.a Z Z (.g Z Z Z hb12 (.a Z Z (.g Z Z Z hb12 (.y Z Z (.cons (.c (.own Z Z)) (.cons (.c .imm) .nil)) Z (Y3 ha35) Z (.g Z Z Z hb12 (.geq Z Z Z (.n Z hb12 Z Z (.nil ?_)))))))))))))))
      obtain rfl := oi hx11
      refine b5 (Sub.env ⟨Z, Z, Z, Z, Z, Z, Z, Y⟩)
    ·refine AWP.s Z h (fun hc13 h => ?_) (fun hc13 h => ?_)
     ·refine AWP.exit (d6 (f9 (b5 ⟨_, h, ?_⟩)))
      exact Sub.env ⟨Z, Z, Z, Z, Z, Y⟩
     ·refine AWP.skip (b5 (.d (.d (.f (.a Z Z (S.lenO Z Z Z (fun hl39 => .u Z Z Z (.nil (b5 (.ite Z h (fun hc14 h => ?_) (fun hc14 h => ?_)))))))))))
      ·refine AWP.d (.f (.e Z Z (.e Z Z (.nil (b5 (.nilrow 2 4 Z (.ret (d8 (g7 (d8 ?_))))))))))
       obtain rfl := oi h
       refine d8 ⟨_, Z, Z, ?_⟩
       exact Done.ret Z Z
      ·refine AWP.skip (b5 (.d ?_))
       obtain ⟨a43, ha43, h⟩ := b7 h
       refine AWP.f (.a Z Z (.a Z Z (.k Z Z (X4 Z hcvchoose) Z (hchoose ha43) Z (.e Z Z (.nil (b5 (.d ?_)))))))
       obtain ⟨a47, ha47, h⟩ := b7 h
       refine AWP.f (.a Z Z (.a Z Z (.y Z Z (.cons (.c (.own Z Z)) (.cons (.c .imm) (.cons (.c (.fn .nil)) .nil))) Z (u9 Z (fun hy => ak2 hy) ha47) Z ?_)))
       refine AOps.a Z Z (.w Z Z Z (.w Z Z Z (.e Z Z (.e Z Z (.nil (b5 (.d ?_)))))))
       obtain ⟨a53, ha53, a57, ha57, h⟩ := b2 h
       refine AWP.f (.a Z Z (.a Z Z (.a Z Z (S.fresh Z Z Z Z (I7 ha53) Z Z (.a Z Z (W.build Z Z Z Z (.frzV (id := 3) (l := a53) (env2 := [(1, .c (.fn fvchoose cvchoose)), (2, .c (.ptr 0 0 0)), (7, .c (.own 1 0 c3.length)), (8, .c (int atv5)), (9, .c (row 1 intI a26)), (10, .c (int a43)), (50, .c (.own 2 0 c4.length)), (51, .c (int a47.1)), (55, .agg [row 1 intI a53, int a43])]) (σ2 := [.one (.cells 4 [(tO ov)]), .one (vec 1 d4 c3), .one (vec 2 e9 c4), .dead]) Z Z (by exact ⟨⟨_, Z, .inl ⟨Z, fnNo hcvchoose⟩⟩, ⟨_, Z, .inl ⟨Z, Z⟩⟩, ⟨_, Z, .inl ⟨Z, Z⟩⟩, ⟨_, Z, .inl ⟨Z, Z⟩⟩, ⟨_, Z, .inl ⟨Z, Z⟩⟩, ⟨_, Z, .inl ⟨Z, Z⟩⟩, ⟨_, Z, .inl ⟨Z, Z⟩⟩, ⟨_, Z, .inl ⟨Z, Z⟩⟩, ⟨_, Z, ⟨.inr ⟨_, Z, Z, Z⟩, .inl ⟨Z, Z⟩, Y⟩⟩, Y⟩) Z (by exact ⟨⟨Z, .inl ⟨Z, Z⟩, .inl ⟨Z, Z⟩, .inl ⟨Z, Z⟩, .inl ⟨Z, Z⟩, Y⟩, FrzB.vec, FrzB.vec, trivial, Y⟩) (S.lit (f := e9) (l := [(⟨a53, a43⟩ : d7)]) (ess := [[row 1 intI a53, int a43]]) Z Z Z Z Z Z Z ⟨⟨.inl Z, .inl Z, Y⟩, Y⟩ Z Z Z (S.insert (f := e9) ha57 Z Z Z Z Z Z Z Z Z Z Z (.e Z Z (.nil (b5 (.d (.a (env' := [(1, .c (.fn fvchoose cvchoose)), (2, .c (.ptr 0 0 0)), (6, .c (.own 2 0 a57.length)), (7, .c (.own 1 0 c3.length)), (8, .c (int atv5)), (9, .c (row 1 intI a26)), (10, .c (int a43))]) (σ' := [.one (.cells 4 [(tO ov)]), .one (vec 1 d4 c3), .one (vec 2 e9 a57), .dead, .one (vec 2 e9 [(⟨a53, a43⟩ : d7)])]) 2 5 Z Z Z ⟨fnMv hcvchoose Z, Z, Z, Z, Z, Z, Z, Y⟩ (eOk1 (fnOk (f := fvchoose) hcvchoose) (eOk1 Z (eOk1 Z (eOk1 Z (eOk1 Z (eOk1 Z (eOk1 Z Z))))))) ⟨⟨Z, Z⟩, ⟨Blk.im_ok _ _ _, k7 Z⟩, ⟨Blk.im_ok _ _ _, k7 Z⟩, trivial, ⟨Blk.im_ok _ _ _, k7 Z⟩, Y⟩ ?_))))))))))))))
       obtain ⟨a62, ha62, h⟩ := b7 h
       refine AWP.f (W.loadAgg Z Z Z Z Z Z Z (.a Z Z (.a Z Z (.k Z Z Z Z (P0 ha62) Z (.a Z Z (.w Z Z Z (.w Z Z Z (.e Z Z (.e Z Z (.nil (b5 ?_)))))))))))
       obtain ⟨a67, ha67, h⟩ := b7 h
       refine AWP.f (.a Z Z (.a Z Z (S.append (f := d4) ha67 Z Z Z Z Z Z .row Z Z Z Z (.e Z Z (.nil (d5 (b5 ⟨_, h, ?_⟩)))))))
       exact (Sub.move (env' := [(1, .c (.fn fvchoose cvchoose)), (2, .c (.ptr 0 0 0)), (6, .c (.own 2 0 a57.length)), (7, .c (.own 1 0 a67.length)), (8, .c (int atv5))]) (σ' := [.one (.cells 4 [(tO ov)]), .one (vec 1 d4 a67), .one (vec 2 e9 a57), .dead, .one (vec 2 e9 [(⟨a53, a43⟩ : d7)])]) 1 5 Z Z Z ⟨fnMv hcvchoose Z, Z, Z, Z, Z, Y⟩ (eOk1 (fnOk (f := fvchoose) hcvchoose) (eOk1 Z (eOk1 Z (eOk1 Z (eOk1 Z Z))))) ⟨⟨Z, Z⟩, ⟨Blk.im_ok _ _ _, k7 Z⟩, ⟨Blk.im_ok _ _ _, k7 Z⟩, trivial, ⟨Blk.im_ok _ _ _, k7 Z⟩, Y⟩).trans (Sub.cut ⟨Z, Z, Z, Z, Z, Y⟩ Z ⟨.one Z, .vec, .vec, Y⟩ (eOk1 (fnOk (f := fvchoose) hcvchoose) (eOk1 Z (eOk1 Z (eOk1 Z (eOk1 Z Z))))))
  ·refine AWP.exit (d6 ?_)
   obtain rfl := oi h
   refine d6 ⟨_, Z, Z, ?_⟩
   exact Sub.cut ⟨Z, Y⟩ Z ⟨.dead, .dead, .vec, Y⟩ Z
 ·intro e s hq
  rcases oo with c6 | x
  ·try dsimp only at h hq
   obtain ⟨rfl, hs⟩ := hq
   refine ⟨_, hs, ?_⟩
   refine f9 (b5 (.d (.f (.a Z Z (.e Z Z (.e Z Z (.nil (b5 (.frzV (id := 2) (l := c6) (env2 := [(4, .c (row 2 e9 c6)), (5, .c (bool true))]) (σ2 := [.dead, .dead, .dead]) Z Z (by exact ⟨⟨_, Z, .inr ⟨_, Z, Z, Z⟩⟩, ⟨_, Z, .inl ⟨Z, Z⟩⟩, Y⟩) Z (by exact ⟨trivial, trivial, trivial, Y⟩) (.ret ?_))))))))))
   obtain rfl := oi h
   exact Done.ret Z Z
  ·try dsimp only at h hq
   obtain ⟨rfl, hs⟩ := hq
   refine ⟨_, Sub.refl _ _, ?_⟩
   refine g7 (d8 ?_)
   obtain rfl := oi h
   exact hs
theorem ac1 {ov : b9} {r : (List d7) × Bool × k6} (h : o6 ov = some r) : d9 Tryz.prog 12 [.agg (tO ov)] (.tup [.c (row 2 e9 r.1), .c (bool r.2.1), .agg [int r.2.2.code, int r.2.2.index]]) := by
 unfold d9
 refine FnOk.enter (rs := [.t 2, .t 3, .cell 4 28 2]) Tryz.func12 Z Tryz.ntmps12 Tryz.results12 Z ⟨trivial, trivial, rv _ Z, Y⟩ (by kernel_rfl) Z ?_
 unfold o6 at h
 refine AWP.d (.f (W.box Z Z Z Z Z Z (.e Z Z (.e Z Z (W.alloc Z Z Z Z (.nil (b5 (.d ?_))))))))
 obtain ⟨a12, ha12, h⟩ := b7 h
 refine AWP.f (W.loadAgg Z Z Z Z Z Z Z (.k Z Z Z Z (open_Explore_ok ha12) Z (.a Z Z (.w Z Z Z (.w Z Z Z (W.alloc Z Z Z Z (W.alloc Z Z Z Z (W.store Z Z Z Z Z (W.storeAgg Z Z Z Z Z Z Z (.nil (b5 (.d (.d (.f (W.loadAgg Z Z Z Z Z Z Z (W.build Z Z Z Z (.neqP Z Z Z Z Z Z Z (.nil (b5 (.s Z h (fun hc2 h => ?_) (fun hc2 h => ?_)))))))))))))))))))))
 ·refine AWP.d (.drawEI [3] mixed Z Z Z ?_)
  refine g8.consN Z Z (fun E => W.loadAgg Z Z Z Z Z Z Z (.nil ⟨Z, Z⟩)) Z (.consN Z Z (fun E => AOps.e Z Z (.nil ⟨Z, Z⟩)) Z (.consN Z Z (fun E => AOps.e Z Z (.nil ⟨Z, Z⟩)) Z ?_))
  apply g8.consE (v := .undef); exact Z; exact Z; intro E
  refine W.storeAgg Z Z Z Z Z Z Z (.nil ⟨Z, Z⟩)
  exact Z
  exact Z
  refine g8.done Z ?_ ?_
  ·refine e8.cons Z Z ?_ ?_
   refine b8.go Z Z (fun E => W.loadAgg Z Z Z Z Z Z Z (AOps.nil ⟨Z, Z⟩)) ?_
   refine b8.skip Z (b8.nil)
   refine e8.cons Z Z ?_ ?_
   refine b8.go Z Z (fun E => AOps.e Z Z (AOps.nil ⟨Z, Z⟩)) ?_
   refine b8.skip Z (b8.nil)
   refine e8.cons Z Z ?_ ?_
   refine b8.go Z Z (fun E => AOps.e Z Z (AOps.nil ⟨Z, Z⟩)) ?_
   refine b8.skip Z (b8.nil)
   refine e8.skip Z (e8.nil)
  dsimp only [i9]
  refine b5 (.nilrow 2 2 Z (.ret (d8 ?_)))
  obtain rfl := oi h
  exact Done.ret Z Z
 ·refine AWP.skip (b5 (.d ?_))
  obtain ⟨a21, ha21, h⟩ := b7 h
  refine AWP.f (W.loadAgg Z Z Z Z Z Z Z (.m Z Z Z Z Z Z (S.fresh Z Z Z Z (strong_ranks_ok ha21) Z Z (W.alloc Z Z Z Z (W.store Z Z Z Z Z (.nil (b5 (.d (.d ?_)))))))))
  obtain ⟨a26, ha26, a27, ha27, h⟩ := b2 h
  refine AWP.drawI mixed Z ?_
  refine g9.consF Z (fun E => AOps.m Z Z Z Z Z Z (.nil ⟨Z, Z⟩)) Z (.consF Z (fun E => AOps.m Z Z Z Z Z Z (.nil ⟨Z, Z⟩)) Z (.consF Z (fun E => W.fieldAddr Z Z Z Z (.nil ⟨Z, Z⟩)) Z (.consF Z (fun E => AOps.m Z Z Z Z Z Z (.nil ⟨Z, Z⟩)) Z (.consF Z (fun E => AOps.k Z Z Z Z (ac7 ha26) Z (.nil ⟨Z, Z⟩)) Z (.consF Z (fun E => S.idxO ha27 Z Z Z Z Z (.nil ⟨Z, Z⟩)) Z (.consF Z (fun E => S.loadO ha27 Z Z Z Z Z (.nil ⟨Z, Z⟩)) Z (.consF Z (fun E => AOps.j Z Z Z (.nil ⟨Z, Z⟩)) Z ?_)))))))
  refine g9.done ?_
  dsimp only [i9]
  refine b5 (.ite Z h (fun hc3 h => ?_) (fun hc3 h => ?_))
  ·refine AWP.d (.f (W.build Z Z Z Z (.e Z Z (.e Z Z (W.storeAgg Z Z Z Z Z Z Z (.nil (b5 (.nilrow 2 2 Z (.ret (d8 ?_))))))))))
   obtain rfl := oi h
   exact Done.ret Z Z
  ·refine AWP.skip (b5 (.d ?_))
   obtain ⟨a34, ha34, h⟩ := b7 h
   refine AWP.f (W.loadAgg Z Z Z Z Z Z Z (.makeFunc Z Z ?_))
   refine AOps.frzB (id := 0) (e := [.val (.int .i64 ov.facts), .sl 1 (List.map intI ov.init), .sl 1 (List.map intI ov.goal), .sl 3 (List.map m9 ov.operators)]) (env2 := [(4, .c (.ptr 1 0 0)), (32, .agg (tO ov)), (33, .c (.fn 32 [.imm (.ipt [.val (.int .i64 ov.facts), .sl 1 (List.map intI ov.init), .sl 1 (List.map intI ov.goal), .sl 3 (List.map m9 ov.operators)]), .ptr 2 0 0, .ptr 5 0 0]))]) (σ2 := [.dead, .one (.cells 2 [[int 0, int 0]]), .one (.cells 1 [[row 1 d4 a12.1]]), .one (.cells 2 [[int a12.2.code, int a12.2.index]]), .one (vec 1 intI a21), .one (.cells 1 [[.own 4 0 a21.length]])]) Z Z (by exact ⟨⟨_, Z, .inl ⟨Z, Z⟩⟩, ⟨_, Z, ⟨.inl ⟨Z, Z⟩, .inl ⟨Z, Z⟩, .inl ⟨Z, Z⟩, .inl ⟨Z, Z⟩, Y⟩⟩, ⟨_, Z, .inr Z⟩, Y⟩) Z (by exact ⟨trivial, ⟨Z, .inl ⟨Z, Z⟩, .inl ⟨Z, Z⟩, Y⟩, ⟨Z, .inl ⟨Z, Z⟩, Y⟩, ⟨Z, .inl ⟨Z, Z⟩, .inl ⟨Z, Z⟩, Y⟩, FrzB.vec, ⟨Z, .inl ⟨Z, Z⟩, Y⟩, Y⟩) ?_; refine AOps.frzB (id := 2) (e := [.sl 1 (List.map d4 a12.1)]) (env2 := [(4, .c (.ptr 1 0 0)), (32, .agg (tO ov)), (33, .c (.fn 32 [.imm (.ipt [.val (.int .i64 ov.facts), .sl 1 (List.map intI ov.init), .sl 1 (List.map intI ov.goal), .sl 3 (List.map m9 ov.operators)]), .imm (.ipt [.sl 1 (List.map d4 a12.1)]), .ptr 5 0 0]))]) (σ2 := [.dead, .one (.cells 2 [[int 0, int 0]]), .dead, .one (.cells 2 [[int a12.2.code, int a12.2.index]]), .one (vec 1 intI a21), .one (.cells 1 [[.own 4 0 a21.length]])]) Z Z (by exact ⟨⟨_, Z, .inl ⟨Z, Z⟩⟩, ⟨_, Z, ⟨.inl ⟨Z, Z⟩, .inl ⟨Z, Z⟩, .inl ⟨Z, Z⟩, .inl ⟨Z, Z⟩, Y⟩⟩, ⟨_, Z, .inr Z⟩, Y⟩) Z (by exact ⟨trivial, ⟨Z, .inl ⟨Z, Z⟩, .inl ⟨Z, Z⟩, Y⟩, trivial, ⟨Z, .inl ⟨Z, Z⟩, .inl ⟨Z, Z⟩, Y⟩, FrzB.vec, ⟨Z, .inl ⟨Z, Z⟩, Y⟩, Y⟩) ?_; refine AOps.frzV (id := 4) (l := a21) (env2 := [(4, .c (.ptr 1 0 0)), (32, .agg (tO ov)), (33, .c (.fn 32 [.imm (.ipt [.val (.int .i64 ov.facts), .sl 1 (List.map intI ov.init), .sl 1 (List.map intI ov.goal), .sl 3 (List.map m9 ov.operators)]), .imm (.ipt [.sl 1 (List.map d4 a12.1)]), .ptr 5 0 0]))]) (σ2 := [.dead, .one (.cells 2 [[int 0, int 0]]), .dead, .one (.cells 2 [[int a12.2.code, int a12.2.index]]), .dead, .one (.cells 1 [[row 1 intI a21]])]) Z Z (by exact ⟨⟨_, Z, .inl ⟨Z, Z⟩⟩, ⟨_, Z, ⟨.inl ⟨Z, Z⟩, .inl ⟨Z, Z⟩, .inl ⟨Z, Z⟩, .inl ⟨Z, Z⟩, Y⟩⟩, ⟨_, Z, .inl ⟨Z, Z⟩⟩, Y⟩) Z (by exact ⟨trivial, ⟨Z, .inl ⟨Z, Z⟩, .inl ⟨Z, Z⟩, Y⟩, trivial, ⟨Z, .inl ⟨Z, Z⟩, .inl ⟨Z, Z⟩, Y⟩, trivial, ⟨Z, .inr ⟨_, Z, Z, Z⟩, Y⟩, Y⟩) ?_; refine AOps.frzB (id := 5) (e := [.sl 1 (List.map intI a21)]) (env2 := [(4, .c (.ptr 1 0 0)), (32, .agg (tO ov)), (33, .c (.fn 32 [.imm (.ipt [.val (.int .i64 ov.facts), .sl 1 (List.map intI ov.init), .sl 1 (List.map intI ov.goal), .sl 3 (List.map m9 ov.operators)]), .imm (.ipt [.sl 1 (List.map d4 a12.1)]), .imm (.ipt [.sl 1 (List.map intI a21)])]))]) (σ2 := [.dead, .one (.cells 2 [[int 0, int 0]]), .dead, .one (.cells 2 [[int a12.2.code, int a12.2.index]]), .dead, .dead]) Z Z (by exact ⟨⟨_, Z, .inl ⟨Z, Z⟩⟩, ⟨_, Z, ⟨.inl ⟨Z, Z⟩, .inl ⟨Z, Z⟩, .inl ⟨Z, Z⟩, .inl ⟨Z, Z⟩, Y⟩⟩, ⟨_, Z, .inr Z⟩, Y⟩) Z (by exact ⟨trivial, ⟨Z, .inl ⟨Z, Z⟩, .inl ⟨Z, Z⟩, Y⟩, trivial, ⟨Z, .inl ⟨Z, Z⟩, .inl ⟨Z, Z⟩, Y⟩, trivial, trivial, Y⟩) ?_; refine AOps.k Z Z Z Z (strong_Build_ok Z (fun hy => aj0 hy) ha34) Z ?_
   refine AOps.a Z Z (.w Z Z Z (.w Z Z Z (.e Z Z (.e Z Z (.nil (b5 (.d (.d (.f (.a Z Z (.v Z Z (.nil (b5 (.s Z h (fun hc4 h => ?_) (fun hc4 h => ?_)))))))))))))))
   ·refine AWP.d (.f (W.build Z Z Z Z (.e Z Z (.e Z Z (W.storeAgg Z Z Z Z Z Z Z (.nil (b5 (.nilrow 2 2 Z (.ret (d8 ?_))))))))))
    obtain rfl := oi h
    exact Done.ret Z Z
   ·refine AWP.skip (b5 (.d (.f (.a Z Z (W.build Z Z Z Z (.e Z Z (.e Z Z (W.storeAgg Z Z Z Z Z Z Z (.nil (b5 (.ret ?_)))))))))))
    obtain rfl := oi h
    exact Done.ret Z Z
theorem M9 {nv : Int} {low : Int} {high : Int} {r : Bool} (h : O4 nv low high = some r) : d9 Tryz.prog 34 [.c (int nv), .c (int low), .c (int high)] (.c (bool r)) := by
 unfold d9
 refine FnOk.enter (rs := [.t 6]) Tryz.func34 Z Tryz.ntmps34 Tryz.results34 Z ⟨trivial, Y⟩ (by kernel_rfl) Z ?_
 unfold O4 at h
 refine AWP.d (.f (.e Z Z (.nil (b5 (.seqJ (⟨[(6, .c (bool ((decide (low ≤ nv)) && (decide (nv ≤ high)))))], []⟩) ?_ ?_)))))
 ·rcases bft (decide (low ≤ nv)) with hb1 | hb1
  ·refine AWP.f (.a Z Z (.a Z Z (.geq Z Z Z (.a Z Z (.g Z Z Z hb1 (.a Z Z (.g Z Z Z hb1 (.a Z Z (.g Z Z Z hb1 (.leq Z Z Z (.o Z hb1 Z Z (.e Z Z (.nil (b5 ?_))))))))))))))
   simp only [T4 hb1, or_t hb1, Bool.false_or, Bool.true_or, Bool.false_and, Bool.true_and]
   exact Sub.env ⟨Z, Y⟩
  ·refine AWP.f (.a Z Z (.a Z Z (.geq Z Z Z (.a Z Z (.i Z Z Z hb1 (.i Z Z Z hb1 (.i Z Z Z hb1 (.n Z hb1 Z Z (.e Z Z (.nil (b5 ?_)))))))))))
   simp only [and_f hb1, or_f hb1, Bool.false_or, Bool.true_or, Bool.false_and, Bool.true_and]
   exact Sub.env ⟨Z, Y⟩
 ·refine AWP.ret ?_
  obtain rfl := oi h
  exact Done.ret Z Z
theorem X1 {code : Int} {index : Int} {r : k6} (h : J0 code index = some r) : d9 Tryz.prog 35 [.c (int code), .c (int index)] (.agg [int r.code, int r.index]) := by
 unfold d9
 refine FnOk.enter (rs := [.cell 4 28 2]) Tryz.func35 Z Tryz.ntmps35 Tryz.results35 Z ⟨rv _ Z, Y⟩ (by kernel_rfl) Z ?_
 unfold J0 at h
 refine AWP.d (.f (W.alloc Z Z Z Z (.nil (b5 (.d (.f (.a Z Z (.a Z Z (W.build Z Z Z Z (W.storeAgg Z Z Z Z Z Z Z (.nil (b5 (.ret ?_)))))))))))))
 obtain rfl := oi h
 exact Done.ret Z Z
theorem D4 {l : List Int} {nv : Int} {r : Bool} (h : E9 l nv = some r) : d9 Tryz.prog 36 [.c (row 1 intI l), .c (int nv)] (.c (bool r)) := by
 unfold d9
 refine FnOk.enter (rs := [.t 4]) Tryz.func36 Z Tryz.ntmps36 Tryz.results36 Z ⟨trivial, Y⟩ (by kernel_rfl) Z ?_
 unfold E9 at h
 refine AWP.d (.f (.e Z Z (.nil (b5 (.d (.d (.f (.e Z Z (.nil (b5 (.l ?_)))))))))))
 obtain ⟨oo, ho1, h⟩ := b7 h
 refine AWP.rngS ho1 (fun iv3 _ => ⟨[(0, .c (row 1 intI l)), (1, .c (int nv)), (5, .c (int iv3))], []⟩) (fun o e st => match o with | .inl _ => e = .exit 0 ∧ Sub [] st ⟨[], []⟩ | .inr x => e = .ret ∧ Done [.t 4] (fun t _ => t = .c (bool x)) .ret st) ?_ ?_ ?_ ?_
 ·try dsimp only
  exact Sub.env ⟨Z, Z, Z, Y⟩
 ·intro iv3 s hloiv3 hltiv3 _
  try dsimp only
  refine AWP.d (.d (.f (.a Z Z (.a Z Z (S.len Z Z (fun hl8 => .j Z Z Z (.nil (b5 (.q Z hltiv3 (.exit (d6 (d6 ⟨Z, ?_⟩))))))))))))
  exact Sub.env trivial
 ·intro iv3 s o hloiv3 hltiv3 h
  unfold T7 at h
  try dsimp only at h ⊢
  refine AWP.d (.d (.f (.a Z Z (.a Z Z (S.len Z Z (fun hl8 => .j Z Z Z (.nil (b5 (.r Z hltiv3 (.skip (b5 (.d (.l ?_)))))))))))))
  obtain ⟨t4, hx5, h⟩ := b7 h
  refine AWP.seqJ (⟨[(0, .c (row 1 intI l)), (1, .c (int nv)), (5, .c (int iv3)), (35, .c (bool t4))], []⟩) ?_ ?_
  ·obtain ⟨a14, ha14, a18, ha18, hx5⟩ := b2 hx5
   rcases bft (!a18) with hb6 | hb6
   ·replace hx5 := B8 hb6 hx5
    refine AWP.drawI mixed Z ?_
    refine g9.consF Z (fun E => AOps.a Z Z (.nil ⟨Z, Z⟩)) Z (.consF Z (fun E => AOps.a Z Z (.nil ⟨Z, Z⟩)) Z (.consF Z (fun E => S.idx ha14 Z Z Z Z (.nil ⟨Z, Z⟩)) Z (.consF Z (fun E => AOps.p Z Z Z Z (.nil ⟨Z, Z⟩)) Z (.consF Z (fun E => AOps.a Z Z (.nil ⟨Z, Z⟩)) Z (.consF Z (fun E => S.sub Z Z Z (.nil ⟨Z, Z⟩)) Z (.consF Z (fun E => AOps.k Z Z Z Z (M9 ha18) Z (.nil ⟨Z, Z⟩)) Z (.consF Z (fun E => AOps.v Z Z (.nil ⟨Z, Z⟩)) Z (.consF Z (fun E => AOps.a Z Z (.nil ⟨Z, Z⟩)) Z (.consF Z (fun E => AOps.i Z Z Z hb6 (.nil ⟨Z, Z⟩)) Z (.consF Z (fun E => AOps.i Z Z Z hb6 (.nil ⟨Z, Z⟩)) Z (.consF Z (fun E => AOps.i Z Z Z hb6 (.nil ⟨Z, Z⟩)) Z (.consF Z (fun E => AOps.x Z Z Z (.nil ⟨Z, Z⟩)) Z (.consF Z (fun E => AOps.x Z Z Z (.nil ⟨Z, Z⟩)) Z (.consF Z (fun E => AOps.x Z Z Z (.nil ⟨Z, Z⟩)) Z (.consF Z (fun E => AOps.x Z Z Z (.nil ⟨Z, Z⟩)) Z (.consF Z (fun E => AOps.x Z Z Z (.nil ⟨Z, Z⟩)) Z (.consF Z (fun E => AOps.x Z Z Z (.nil ⟨Z, Z⟩)) Z (.consF Z (fun E => AOps.x Z Z Z (.nil ⟨Z, Z⟩)) Z (.consF Z (fun E => AOps.x Z Z Z (.nil ⟨Z, Z⟩)) Z (.consF Z (fun E => AOps.x Z Z Z (.nil ⟨Z, Z⟩)) Z (.consF Z (fun E => AOps.x Z Z Z (.nil ⟨Z, Z⟩)) Z (.consF Z (fun E => AOps.i Z Z Z hb6 (.nil ⟨Z, Z⟩)) Z (.consF Z (fun E => AOps.o Z hb6 Z Z (.nil ⟨Z, Z⟩)) Z ?_)))))))))))))))))))))))
    refine g9.done ?_
    dsimp only [i9]
    obtain rfl := oi hx5
    refine b5 (Sub.env ⟨Z, Z, Z, Z, Y⟩)
   ·replace hx5 := B9 hb6 hx5
    rcases bft (decide (0 < iv3)) with hb7 | hb7
    ·replace hx5 := B4 hb7 hx5
     obtain ⟨a26, ha26, a31, ha31, hx5⟩ := b2 hx5
     refine AWP.drawI mixed Z ?_
     refine g9.consF Z (fun E => AOps.a Z Z (.nil ⟨Z, Z⟩)) Z (.consF Z (fun E => AOps.a Z Z (.nil ⟨Z, Z⟩)) Z (.consF Z (fun E => S.idx ha14 Z Z Z Z (.nil ⟨Z, Z⟩)) Z (.consF Z (fun E => AOps.p Z Z Z Z (.nil ⟨Z, Z⟩)) Z (.consF Z (fun E => AOps.a Z Z (.nil ⟨Z, Z⟩)) Z (.consF Z (fun E => S.sub Z Z Z (.nil ⟨Z, Z⟩)) Z (.consF Z (fun E => AOps.k Z Z Z Z (M9 ha18) Z (.nil ⟨Z, Z⟩)) Z (.consF Z (fun E => AOps.v Z Z (.nil ⟨Z, Z⟩)) Z (.consF Z (fun E => AOps.a Z Z (.nil ⟨Z, Z⟩)) Z (.consF Z (fun E => AOps.g Z Z Z hb6 (.a Z Z (.nil ⟨Z, Z⟩))) Z (.consF Z (fun E => AOps.g Z Z Z hb6 (.gtr Z Z Z (.nil ⟨Z, Z⟩))) Z (.consF Z (fun E => AOps.g Z Z Z hb6 (.a Z Z (.nil ⟨Z, Z⟩))) Z (.consF Z (fun E => AOps.g Z Z Z hb7 (.a Z Z (.nil ⟨Z, Z⟩))) Z (.consF Z (fun E => AOps.g Z Z Z hb7 (.a Z Z (.nil ⟨Z, Z⟩))) Z (.consF Z (fun E => AOps.g Z Z Z hb7 (S.idx ha26 Z Z Z Z (.nil ⟨Z, Z⟩))) Z (.consF Z (fun E => AOps.g Z Z Z hb7 (.p Z Z Z Z (.nil ⟨Z, Z⟩))) Z (.consF Z (fun E => AOps.g Z Z Z hb7 (.a Z Z (.nil ⟨Z, Z⟩))) Z (.consF Z (fun E => AOps.g Z Z Z hb7 (.a Z Z (.nil ⟨Z, Z⟩))) Z (.consF Z (fun E => AOps.g Z Z Z hb7 (.sub' Z Z Z (by omega) (.nil ⟨Z, Z⟩))) Z (.consF Z (fun E => AOps.g Z Z Z hb7 (S.idx ha31 Z Z Z Z (.nil ⟨Z, Z⟩))) Z (.consF Z (fun E => AOps.g Z Z Z hb7 (.p Z Z Z Z (.nil ⟨Z, Z⟩))) Z (.consF Z (fun E => AOps.g Z Z Z hb7 (.leq Z Z Z (.nil ⟨Z, Z⟩))) Z (.consF Z (fun E => AOps.g Z Z Z hb6 (.o Z hb7 Z Z (.nil ⟨Z, Z⟩))) Z (.consF Z (fun E => AOps.n Z hb6 Z Z (.nil ⟨Z, Z⟩)) Z ?_)))))))))))))))))))))))
     refine g9.done ?_
     dsimp only [i9]
     obtain rfl := oi hx5
     refine b5 (Sub.env ⟨Z, Z, Z, Z, Y⟩)
    ·replace hx5 := B5 hb7 hx5
     refine AWP.drawI mixed Z ?_
     refine g9.consF Z (fun E => AOps.a Z Z (.nil ⟨Z, Z⟩)) Z (.consF Z (fun E => AOps.a Z Z (.nil ⟨Z, Z⟩)) Z (.consF Z (fun E => S.idx ha14 Z Z Z Z (.nil ⟨Z, Z⟩)) Z (.consF Z (fun E => AOps.p Z Z Z Z (.nil ⟨Z, Z⟩)) Z (.consF Z (fun E => AOps.a Z Z (.nil ⟨Z, Z⟩)) Z (.consF Z (fun E => S.sub Z Z Z (.nil ⟨Z, Z⟩)) Z (.consF Z (fun E => AOps.k Z Z Z Z (M9 ha18) Z (.nil ⟨Z, Z⟩)) Z (.consF Z (fun E => AOps.v Z Z (.nil ⟨Z, Z⟩)) Z (.consF Z (fun E => AOps.a Z Z (.nil ⟨Z, Z⟩)) Z (.consF Z (fun E => AOps.g Z Z Z hb6 (.a Z Z (.nil ⟨Z, Z⟩))) Z (.consF Z (fun E => AOps.g Z Z Z hb6 (.gtr Z Z Z (.nil ⟨Z, Z⟩))) Z (.consF Z (fun E => AOps.g Z Z Z hb6 (.a Z Z (.nil ⟨Z, Z⟩))) Z (.consF Z (fun E => AOps.i Z Z Z hb7 (.nil ⟨Z, Z⟩)) Z (.consF Z (fun E => AOps.i Z Z Z hb7 (.nil ⟨Z, Z⟩)) Z (.consF Z (fun E => AOps.i Z Z Z hb7 (.nil ⟨Z, Z⟩)) Z (.consF Z (fun E => AOps.i Z Z Z hb7 (.nil ⟨Z, Z⟩)) Z (.consF Z (fun E => AOps.i Z Z Z hb7 (.nil ⟨Z, Z⟩)) Z (.consF Z (fun E => AOps.i Z Z Z hb7 (.nil ⟨Z, Z⟩)) Z (.consF Z (fun E => AOps.i Z Z Z hb7 (.nil ⟨Z, Z⟩)) Z (.consF Z (fun E => AOps.i Z Z Z hb7 (.nil ⟨Z, Z⟩)) Z (.consF Z (fun E => AOps.i Z Z Z hb7 (.nil ⟨Z, Z⟩)) Z (.consF Z (fun E => AOps.i Z Z Z hb7 (.nil ⟨Z, Z⟩)) Z (.consF Z (fun E => AOps.g Z Z Z hb6 (.n Z hb7 Z Z (.nil ⟨Z, Z⟩))) Z (.consF Z (fun E => AOps.n Z hb6 Z Z (.nil ⟨Z, Z⟩)) Z ?_)))))))))))))))))))))))
     refine g9.done ?_
     dsimp only [i9]
     obtain rfl := oi hx5
     refine b5 (Sub.env ⟨Z, Z, Z, Z, Y⟩)
  ·refine AWP.s Z h (fun hc8 h => ?_) (fun hc8 h => ?_)
   ·refine AWP.d (.f (.e Z Z (.nil (b5 (.ret (g7 (d8 ?_)))))))
    obtain rfl := oi h
    refine d8 ⟨_, Z, Z, ?_⟩
    exact Done.ret Z Z
   ·refine AWP.skip (d5 (b5 (.f (.a Z Z (.add Z Z Z (by omega) (.e Z Z (.nil ?_)))))))
    obtain rfl := oi h
    refine b5 ⟨_, Z, ?_⟩
    exact Sub.env ⟨Z, Z, Z, Y⟩
 ·intro e s hq
  rcases oo with u | x
  ·try dsimp only at h hq
   obtain ⟨rfl, hs⟩ := hq
   refine ⟨_, hs, ?_⟩
   refine f9 (b5 (.d (.f (.e Z Z (.nil (b5 (.ret ?_)))))))
   obtain rfl := oi h
   exact Done.ret Z Z
  ·try dsimp only at h hq
   obtain ⟨rfl, hs⟩ := hq
   refine ⟨_, Sub.refl _ _, ?_⟩
   refine g7 (d8 ?_)
   obtain rfl := oi h
   exact hs
theorem E4 {l : List Int} {nv : Int} {r : Bool} (h : H9 l nv = some r) : d9 Tryz.prog 42 [.c (row 1 intI l), .c (int nv)] (.c (bool r)) := by
 unfold d9
 refine FnOk.enter (rs := [.t 4]) Tryz.func42 Z Tryz.ntmps42 Tryz.results42 Z ⟨trivial, Y⟩ (by kernel_rfl) Z ?_
 unfold H9 at h
 refine AWP.d (.f (.e Z Z (.nil (b5 (.d (.d (.f (.e Z Z (.nil (b5 (.l ?_)))))))))))
 obtain ⟨oo, ho1, h⟩ := b7 h
 refine AWP.rngS ho1 (fun iv3 _ => ⟨[(0, .c (row 1 intI l)), (1, .c (int nv)), (5, .c (int iv3))], []⟩) (fun o e st => match o with | .inl _ => e = .exit 0 ∧ Sub [] st ⟨[], []⟩ | .inr x => e = .ret ∧ Done [.t 4] (fun t _ => t = .c (bool x)) .ret st) ?_ ?_ ?_ ?_
 ·try dsimp only
  exact Sub.env ⟨Z, Z, Z, Y⟩
 ·intro iv3 s hloiv3 hltiv3 _
  try dsimp only
  refine AWP.d (.d (.f (.a Z Z (.a Z Z (S.len Z Z (fun hl8 => .j Z Z Z (.nil (b5 (.q Z hltiv3 (.exit (d6 (d6 ⟨Z, ?_⟩))))))))))))
  exact Sub.env trivial
 ·intro iv3 s o hloiv3 hltiv3 h
  unfold af0 at h
  try dsimp only at h ⊢
  refine AWP.d (.d (.f (.a Z Z (.a Z Z (S.len Z Z (fun hl8 => .j Z Z Z (.nil (b5 (.r Z hltiv3 (.skip (b5 (.d (.l (.d ?_))))))))))))))
  obtain ⟨a14, ha14, h⟩ := b7 h
  refine AWP.f (.a Z Z (.a Z Z (S.idx ha14 Z Z Z Z (.p Z Z Z Z (.a Z Z (.u Z Z Z (.nil (b5 (.ite Z h (fun hc4 h => ?_) (fun hc4 h => ?_))))))))))
  ·refine AWP.d (.f (.e Z Z (.nil (b5 (.ret (g7 (d8 ?_)))))))
   obtain rfl := oi h
   refine d8 ⟨_, Z, Z, ?_⟩
   exact Done.ret Z Z
  ·refine AWP.skip (d5 (b5 (.f (.a Z Z (.add Z Z Z (by omega) (.e Z Z (.nil ?_)))))))
   obtain rfl := oi h
   refine b5 ⟨_, Z, ?_⟩
   exact Sub.env ⟨Z, Z, Z, Y⟩
 ·intro e s hq
  rcases oo with u | x
  ·try dsimp only at h hq
   obtain ⟨rfl, hs⟩ := hq
   refine ⟨_, hs, ?_⟩
   refine f9 (b5 (.d (.f (.e Z Z (.nil (b5 (.ret ?_)))))))
   obtain rfl := oi h
   exact Done.ret Z Z
  ·try dsimp only at h hq
   obtain ⟨rfl, hs⟩ := hq
   refine ⟨_, Sub.refl _ _, ?_⟩
   refine g7 (d8 ?_)
   obtain rfl := oi h
   exact hs
theorem al0 {av : List Int} {bv : List Int} {r : Bool} (h : N4 av bv = some r) : d9 Tryz.prog 37 [.c (row 1 intI av), .c (row 1 intI bv)] (.c (bool r)) := by
 unfold d9
 refine FnOk.enter (rs := [.t 4]) Tryz.func37 Z Tryz.ntmps37 Tryz.results37 Z ⟨trivial, Y⟩ (by kernel_rfl) Z ?_
 unfold N4 at h
 refine AWP.d (.f (.e Z Z (.nil (b5 (.d (.d (.f (.e Z Z (.nil (b5 (.l ?_)))))))))))
 obtain ⟨oo, ho1, h⟩ := b7 h
 refine AWP.rngS ho1 (fun iv3 _ => ⟨[(0, .c (row 1 intI av)), (1, .c (row 1 intI bv)), (5, .c (int iv3))], []⟩) (fun o e st => match o with | .inl _ => e = .exit 0 ∧ Sub [] st ⟨[], []⟩ | .inr x => e = .ret ∧ Done [.t 4] (fun t _ => t = .c (bool x)) .ret st) ?_ ?_ ?_ ?_
 ·try dsimp only
  exact Sub.env ⟨Z, Z, Z, Y⟩
 ·intro iv3 s hloiv3 hltiv3 _
  try dsimp only
  refine AWP.d (.d (.f (.a Z Z (.a Z Z (S.len Z Z (fun hl8 => .j Z Z Z (.nil (b5 (.q Z hltiv3 (.exit (d6 (d6 ⟨Z, ?_⟩))))))))))))
  exact Sub.env trivial
 ·intro iv3 s o hloiv3 hltiv3 h
  unfold U9 at h
  try dsimp only at h ⊢
  refine AWP.d (.d (.f (.a Z Z (.a Z Z (S.len Z Z (fun hl8 => .j Z Z Z (.nil (b5 (.r Z hltiv3 (.skip (b5 (.d (.l (.d ?_))))))))))))))
  obtain ⟨a15, ha15, a17, ha17, h⟩ := b2 h
  refine AWP.f (.a Z Z (.a Z Z (.a Z Z (S.idx ha15 Z Z Z Z (.p Z Z Z Z (.k Z Z Z Z (E4 ha17) Z (.nil (b5 (.s Z h (fun hc4 h => ?_) (fun hc4 h => ?_))))))))))
  ·refine AWP.d (.f (.e Z Z (.nil (b5 (.ret (g7 (d8 ?_)))))))
   obtain rfl := oi h
   refine d8 ⟨_, Z, Z, ?_⟩
   exact Done.ret Z Z
  ·refine AWP.skip (d5 (b5 (.f (.a Z Z (.add Z Z Z (by omega) (.e Z Z (.nil ?_)))))))
   obtain rfl := oi h
   refine b5 ⟨_, Z, ?_⟩
   exact Sub.env ⟨Z, Z, Z, Y⟩
 ·intro e s hq
  rcases oo with u | x
  ·try dsimp only at h hq
   obtain ⟨rfl, hs⟩ := hq
   refine ⟨_, hs, ?_⟩
   refine f9 (b5 (.d (.f (.e Z Z (.nil (b5 (.ret ?_)))))))
   obtain rfl := oi h
   exact Done.ret Z Z
  ·try dsimp only at h hq
   obtain ⟨rfl, hs⟩ := hq
   refine ⟨_, Sub.refl _ _, ?_⟩
   refine g7 (d8 ?_)
   obtain rfl := oi h
   exact hs
theorem ak3 {ov : b9} {r : k6} (h : H3 ov = some r) : d9 Tryz.prog 13 [.agg (tO ov)] (.agg [int r.code, int r.index]) := by
 unfold d9
 refine FnOk.enter (rs := [.cell 2 28 2]) Tryz.func13 Z Tryz.ntmps13 Tryz.results13 Z ⟨rv _ Z, Y⟩ (by kernel_rfl) Z ?_
 unfold H3 at h
 refine AWP.d (.f (W.box Z Z Z Z Z Z (W.alloc Z Z Z Z (.nil (b5 (.d (.d ?_)))))))
 obtain ⟨a10, ha10, h⟩ := b7 h
 refine AWP.f (W.fieldAddr Z Z Z Z (.m Z Z Z Z Z Z (.k Z Z Z Z (M9 ha10) Z (.v Z Z (.nil (b5 (.s Z h (fun hc2 h => ?_) (fun hc2 h => ?_))))))))
 ·refine AWP.d ?_
  obtain ⟨a12, ha12, h⟩ := b7 h
  refine AWP.f (.k Z Z Z Z (X1 ha12) Z (W.storeAgg Z Z Z Z Z Z Z (.nil (b5 (.ret (d8 ?_))))))
  obtain rfl := oi h
  exact Done.ret Z Z
 ·refine AWP.skip (b5 (.d (.d ?_)))
  obtain ⟨a17, ha17, h⟩ := b7 h
  refine AWP.f (W.fieldAddr Z Z Z Z (.m Z Z Z Z Z Z (W.fieldAddr Z Z Z Z (.m Z Z Z Z Z Z (.k Z Z Z Z (D4 ha17) Z (.v Z Z (.nil (b5 (.s Z h (fun hc3 h => ?_) (fun hc3 h => ?_))))))))))
  ·refine AWP.d ?_
   obtain ⟨a19, ha19, h⟩ := b7 h
   refine AWP.f (.k Z Z Z Z (X1 ha19) Z (W.storeAgg Z Z Z Z Z Z Z (.nil (b5 (.ret (d8 ?_))))))
   obtain rfl := oi h
   exact Done.ret Z Z
  ·refine AWP.skip (b5 (.d (.d ?_)))
   obtain ⟨a24, ha24, h⟩ := b7 h
   refine AWP.f (W.fieldAddr Z Z Z Z (.m Z Z Z Z Z Z (W.fieldAddr Z Z Z Z (.m Z Z Z Z Z Z (.k Z Z Z Z (D4 ha24) Z (.v Z Z (.nil (b5 (.s Z h (fun hc4 h => ?_) (fun hc4 h => ?_))))))))))
   ·refine AWP.d ?_
    obtain ⟨a26, ha26, h⟩ := b7 h
    refine AWP.f (.k Z Z Z Z (X1 ha26) Z (W.storeAgg Z Z Z Z Z Z Z (.nil (b5 (.ret (d8 ?_))))))
    obtain rfl := oi h
    exact Done.ret Z Z
   ·refine AWP.skip (b5 (.d (.d (.f (W.fieldAddr Z Z Z Z (.m Z Z Z Z Z Z (S.len Z Z (fun hl29 => .gtr Z Z Z (.nil (b5 (.ite Z h (fun hc5 h => ?_) (fun hc5 h => ?_))))))))))))
    ·refine AWP.d ?_
     obtain ⟨a31, ha31, h⟩ := b7 h
     refine AWP.f (.k Z Z Z Z (X1 ha31) Z (W.storeAgg Z Z Z Z Z Z Z (.nil (b5 (.ret (d8 ?_))))))
     obtain rfl := oi h
     exact Done.ret Z Z
    ·refine AWP.skip (b5 (.d (.d (.f (.e Z Z (.nil (b5 (.l ?_))))))))
     obtain ⟨oo, ho1, h⟩ := b7 h
     refine AWP.rngS ho1 (fun iv6 _ => ⟨[(1, .c (.ptr 0 0 0)), (2, .c (.ptr 1 0 0)), (3, .c (int iv6))], [.one (.cells 4 [(tO ov)]), .one (.cells 2 [[int 0, int 0]])]⟩) (fun o e st => match o with | .inl _ => e = .exit 0 ∧ Sub [] st ⟨[(2, .c (.ptr 1 0 0))], [.one (.cells 4 [(tO ov)]), .one (.cells 2 [[int 0, int 0]])]⟩ | .inr x => e = .ret ∧ Done [.cell 2 28 2] (fun t _ => t = .agg [int x.code, int x.index]) .ret st) ?_ ?_ ?_ ?_
     ·try dsimp only
      exact Sub.env ⟨Z, Z, Z, Y⟩
     ·intro iv6 s hloiv6 hltiv6 _
      try dsimp only
      refine AWP.d (.d (.f (.a Z Z (W.fieldAddr Z Z Z Z (.m Z Z Z Z Z Z (S.len Z Z (fun hl35 => .j Z Z Z (.nil (b5 (.q Z hltiv6 (.exit (d6 (d6 ⟨Z, ?_⟩)))))))))))))
      exact Sub.env ⟨Z, Y⟩
     ·intro iv6 s o hloiv6 hltiv6 h
      unfold D0 at h
      try dsimp only at h ⊢
      refine AWP.d (.d (.f (.a Z Z (W.fieldAddr Z Z Z Z (.m Z Z Z Z Z Z (S.len Z Z (fun hl35 => .j Z Z Z (.nil (b5 (.r Z hltiv6 (.skip (b5 (.d (.l (.d ?_)))))))))))))))
      obtain ⟨a42, ha42, h⟩ := b7 h
      refine AWP.f (W.fieldAddr Z Z Z Z (.m Z Z Z Z Z Z (.a Z Z (S.idx ha42 Z Z Z Z (W.loadIAgg Z Z Z Z Z (W.alloc Z Z Z Z (W.storeAgg Z Z Z Z Z Z Z (.nil (b5 (.d (.f (.e Z Z (.nil (b5 ?_))))))))))))))
      obtain ⟨ev7, hx8, h⟩ := b7 h
      refine AWP.seqJ (⟨[(1, .c (.ptr 0 0 0)), (2, .c (.ptr 1 0 0)), (3, .c (int iv6)), (4, .c (.ptr 2 0 0)), (5, .c (int ev7))], [.one (.cells 4 [(tO ov)]), .one (.cells 2 [[int 0, int 0]]), .one (.cells 3 [[row 1 intI a42.pre, row 3 n8 a42.outcomes, int a42.cost]])]⟩) ?_ ?_
      ·refine AWP.d ?_
       obtain ⟨a48, ha48, hx8⟩ := b7 hx8
       refine AWP.f (W.fieldAddr Z Z Z Z (.m Z Z Z Z Z Z (W.fieldAddr Z Z Z Z (.m Z Z Z Z Z Z (.k Z Z Z Z (D4 ha48) Z (.v Z Z (.nil (b5 (.s Z hx8 (fun hc9 hx8 => ?_) (fun hc9 hx8 => ?_))))))))))
       ·refine AWP.f (.e Z Z (.nil ?_))
        obtain rfl := oi hx8
        refine b5 (Sub.env ⟨Z, Z, Z, Z, Z, Y⟩)
       ·refine AWP.d ?_
        obtain ⟨a52, ha52, hx8⟩ := b7 hx8
        refine AWP.f (W.fieldAddr Z Z Z Z (.m Z Z Z Z Z Z (.k Z Z Z Z (M9 ha52) Z (.v Z Z (.nil (b5 (.s Z hx8 (fun hc10 hx8 => ?_) (fun hc10 hx8 => ?_))))))))
        ·refine AWP.f (.e Z Z (.nil ?_))
         obtain rfl := oi hx8
         refine b5 (Sub.env ⟨Z, Z, Z, Z, Z, Y⟩)
        ·refine AWP.d ?_
         obtain ⟨a57, ha57, hx8⟩ := b7 hx8
         refine AWP.f (W.fieldAddr Z Z Z Z (.m Z Z Z Z Z Z (S.len Z Z (fun hl56 => .k Z Z Z Z (M9 ha57) Z (.v Z Z (.nil (b5 (.s Z hx8 (fun hc11 hx8 => ?_) (fun hc11 hx8 => ?_)))))))))
         ·refine AWP.f (.e Z Z (.nil ?_))
          obtain rfl := oi hx8
          refine b5 (Sub.env ⟨Z, Z, Z, Z, Z, Y⟩)
         ·refine AWP.skip ?_
          obtain rfl := oi hx8
          refine b5 (Sub.env ⟨Z, Z, Z, Z, Z, Y⟩)
      ·refine AWP.d (.d (.f (.e Z Z (.nil (b5 (.l ?_))))))
       obtain ⟨ev14, ho2, h⟩ := b7 h
       refine AWP.loopS ho2 (fun (ev12, kv13) => ⟨[(1, .c (.ptr 0 0 0)), (2, .c (.ptr 1 0 0)), (3, .c (int iv6)), (4, .c (.ptr 2 0 0)), (5, .c (int ev12)), (6, .c (int kv13))], [.one (.cells 4 [(tO ov)]), .one (.cells 2 [[int 0, int 0]]), .one (.cells 3 [[row 1 intI a42.pre, row 3 n8 a42.outcomes, int a42.cost]])]⟩) (fun ev14 e st => e = .exit 2 ∧ Sub [] st ⟨[(1, .c (.ptr 0 0 0)), (2, .c (.ptr 1 0 0)), (3, .c (int iv6)), (5, .c (int ev14))], [.one (.cells 4 [(tO ov)]), .one (.cells 2 [[int 0, int 0]])]⟩) ?_ ?_ ?_
       ·try dsimp only
        exact Sub.env ⟨Z, Z, Z, Z, Z, Z, Y⟩
       ·intro s o h
        obtain ⟨ev12, kv13⟩ := s
        unfold v7 at h
        try dsimp only at h ⊢
        refine AWP.d (.seqJ (⟨[(1, .c (.ptr 0 0 0)), (2, .c (.ptr 1 0 0)), (3, .c (int iv6)), (4, .c (.ptr 2 0 0)), (5, .c (int ev12)), (6, .c (int kv13)), (67, .c (bool ((decide (kv13 < (a42.outcomes.length : Int))) && (decide (ev12 = 0)))))], [.one (.cells 4 [(tO ov)]), .one (.cells 2 [[int 0, int 0]]), .one (.cells 3 [[row 1 intI a42.pre, row 3 n8 a42.outcomes, int a42.cost]])]⟩) ?_ ?_)
        ·rcases bft (decide (kv13 < (a42.outcomes.length : Int))) with hb1 | hb1
         ·refine AWP.f (.a Z Z (W.fieldAddr Z Z Z Z (.m Z Z Z Z Z Z (S.len Z Z (fun hl62 => .j Z Z Z (.a Z Z (.g Z Z Z hb1 (.a Z Z (.g Z Z Z hb1 (.u Z Z Z (.o Z hb1 Z Z (.nil (b5 ?_)))))))))))))
          simp only [T4 hb1, or_t hb1, Bool.false_or, Bool.true_or, Bool.false_and, Bool.true_and]
          exact Sub.env ⟨Z, Z, Z, Z, Z, Z, Z, Y⟩
         ·refine AWP.f (.a Z Z (W.fieldAddr Z Z Z Z (.m Z Z Z Z Z Z (S.len Z Z (fun hl62 => .j Z Z Z (.a Z Z (.i Z Z Z hb1 (.i Z Z Z hb1 (.n Z hb1 Z Z (.nil (b5 ?_)))))))))))
          simp only [and_f hb1, or_f hb1, Bool.false_or, Bool.true_or, Bool.false_and, Bool.true_and]
          exact Sub.env ⟨Z, Z, Z, Z, Z, Z, Z, Y⟩
        ·refine AWP.s Z h (fun hc15 h => ?_) (fun hc15 h => ?_)
         ·refine AWP.skip (b5 ?_)
          obtain ⟨ev16, hx17, h⟩ := b7 h
          refine AWP.seqJ (⟨[(1, .c (.ptr 0 0 0)), (2, .c (.ptr 1 0 0)), (3, .c (int iv6)), (4, .c (.ptr 2 0 0)), (5, .c (int ev16)), (6, .c (int kv13))], [.one (.cells 4 [(tO ov)]), .one (.cells 2 [[int 0, int 0]]), .one (.cells 3 [[row 1 intI a42.pre, row 3 n8 a42.outcomes, int a42.cost]])]⟩) ?_ ?_
          ·refine AWP.l (.d ?_)
           obtain ⟨a73, ha73, hx17⟩ := b7 hx17
           refine AWP.f (W.fieldAddr Z Z Z Z (.m Z Z Z Z Z Z (.a Z Z (S.idx ha73 Z Z Z Z (W.loadIAgg Z Z Z Z Z (W.alloc Z Z Z Z (W.storeAgg Z Z Z Z Z Z Z (.nil (b5 ?_)))))))))
           obtain ⟨t18, hx19, hx17⟩ := b7 hx17
           refine AWP.seqJ (⟨[(1, .c (.ptr 0 0 0)), (2, .c (.ptr 1 0 0)), (3, .c (int iv6)), (4, .c (.ptr 2 0 0)), (5, .c (int ev12)), (6, .c (int kv13)), (7, .c (.ptr 3 0 0)), (96, .c (bool t18))], [.one (.cells 4 [(tO ov)]), .one (.cells 2 [[int 0, int 0]]), .one (.cells 3 [[row 1 intI a42.pre, row 3 n8 a42.outcomes, int a42.cost]]), .one (.cells 3 [[row 1 intI a73.add, row 1 intI a73.del, int a73.weight]])]⟩) ?_ ?_
           ·obtain ⟨a79, ha79, hx19⟩ := b7 hx19
            rcases bft (!a79) with hb20 | hb20
            ·replace hx19 := B8 hb20 hx19
             refine AWP.f (W.fieldAddr Z Z Z Z (.m Z Z Z Z Z Z (W.fieldAddr Z Z Z Z (.m Z Z Z Z Z Z (.k Z Z Z Z (D4 ha79) Z (.v Z Z (.a Z Z (.i Z Z Z hb20 (.i Z Z Z hb20 (.i Z Z Z hb20 (.i Z Z Z hb20 (.i Z Z Z hb20 (.i Z Z Z hb20 (.o Z hb20 Z Z (.a Z Z (.i Z Z Z Z (.i Z Z Z Z (.i Z Z Z Z (.i Z Z Z Z (.i Z Z Z Z (.i Z Z Z Z (.o Z Z Z Z (.nil ?_)))))))))))))))))))))))
             obtain rfl := oi hx19
             refine b5 (Sub.env ⟨Z, Z, Z, Z, Z, Z, Z, Z, Y⟩)
            ·replace hx19 := B9 hb20 hx19
             obtain ⟨a86, ha86, hx19⟩ := b7 hx19
             rcases bft (!a86) with hb21 | hb21
             ·replace hx19 := B8 hb21 hx19
              refine AWP.f (W.fieldAddr Z Z Z Z (.m Z Z Z Z Z Z (W.fieldAddr Z Z Z Z (.m Z Z Z Z Z Z (.k Z Z Z Z (D4 ha79) Z (.v Z Z (.a Z Z (.g Z Z Z hb20 (W.fieldAddr Z Z Z Z (.g Z Z Z hb20 (.m Z Z Z Z Z Z (.g Z Z Z hb20 (W.fieldAddr Z Z Z Z (.g Z Z Z hb20 (.m Z Z Z Z Z Z (.g Z Z Z hb20 (.k Z Z Z Z (D4 ha86) Z (.g Z Z Z hb20 (.v Z Z (.n Z hb20 Z Z (.a Z Z (.i Z Z Z hb21 (.i Z Z Z hb21 (.i Z Z Z hb21 (.i Z Z Z hb21 (.i Z Z Z hb21 (.i Z Z Z hb21 (.o Z hb21 Z Z (.nil ?_)))))))))))))))))))))))))))))
              obtain rfl := oi hx19
              refine b5 (Sub.env ⟨Z, Z, Z, Z, Z, Z, Z, Z, Y⟩)
             ·replace hx19 := B9 hb21 hx19
              obtain ⟨a94, ha94, hx19⟩ := b7 hx19
              refine AWP.f (W.fieldAddr Z Z Z Z (.m Z Z Z Z Z Z (W.fieldAddr Z Z Z Z (.m Z Z Z Z Z Z (.k Z Z Z Z (D4 ha79) Z (.v Z Z (.a Z Z (.g Z Z Z hb20 (W.fieldAddr Z Z Z Z (.g Z Z Z hb20 (.m Z Z Z Z Z Z (.g Z Z Z hb20 (W.fieldAddr Z Z Z Z (.g Z Z Z hb20 (.m Z Z Z Z Z Z (.g Z Z Z hb20 (.k Z Z Z Z (D4 ha86) Z (.g Z Z Z hb20 (.v Z Z (.n Z hb20 Z Z (.a Z Z (.g Z Z Z hb21 (W.fieldAddr Z Z Z Z (.g Z Z Z hb21 (.m Z Z Z Z Z Z (.g Z Z Z hb21 (W.fieldAddr Z Z Z Z (.g Z Z Z hb21 (.m Z Z Z Z Z Z (.g Z Z Z hb21 (.k Z Z Z Z (al0 ha94) Z (.g Z Z Z hb21 (.v Z Z (.n Z hb21 Z Z (.nil ?_)))))))))))))))))))))))))))))))))))
              obtain rfl := oi hx19
              refine b5 (Sub.env ⟨Z, Z, Z, Z, Z, Z, Z, Z, Y⟩)
           ·refine AWP.s Z hx17 (fun hc22 hx17 => ?_) (fun hc22 hx17 => ?_)
            ·refine AWP.f (.e Z Z (.nil (d5 ?_)))
             obtain rfl := oi hx17
             refine b5 (Sub.cut ⟨Z, Z, Z, Z, Z, Z, Y⟩ Z ⟨.one Z, .one Z, .one Z, Y⟩ Z)
            ·refine AWP.d ?_
             obtain ⟨a99, ha99, hx17⟩ := b7 hx17
             refine AWP.f (W.fieldAddr Z Z Z Z (.m Z Z Z Z Z Z (.k Z Z Z Z (M9 ha99) Z (.v Z Z (.nil (b5 (.s Z hx17 (fun hc23 hx17 => ?_) (fun hc23 hx17 => ?_))))))))
             ·refine AWP.f (.e Z Z (.nil (d5 ?_)))
              obtain rfl := oi hx17
              refine b5 (Sub.cut ⟨Z, Z, Z, Z, Z, Z, Y⟩ Z ⟨.one Z, .one Z, .one Z, Y⟩ Z)
             ·refine AWP.skip (d5 ?_)
              obtain rfl := oi hx17
              refine b5 (Sub.cut ⟨Z, Z, Z, Z, Z, Z, Y⟩ Z ⟨.one Z, .one Z, .one Z, Y⟩ Z)
          ·refine AWP.f (.a Z Z (S.add Z Z Z (.e Z Z (.nil ?_))))
           obtain rfl := oi h
           refine b5 ⟨_, Z, ?_⟩
           exact Sub.env ⟨Z, Z, Z, Z, Z, Z, Y⟩
         ·refine AWP.exit (d6 ?_)
          obtain rfl := oi h
          refine d6 ⟨_, Z, Z, ?_⟩
          exact Sub.cut ⟨Z, Z, Z, Z, Y⟩ Z ⟨.one Z, .one Z, Y⟩ Z
       ·intro e s hq
        obtain ⟨rfl, hs⟩ := hq
        refine ⟨_, hs, ?_⟩
        refine f9 (b5 (.d (.f (.a Z Z (.neq Z Z Z (.nil (b5 (.iteN Z h (fun hc24 h => ?_) (fun hc24 h => ?_)))))))))
        ·refine AWP.d ?_
         obtain ⟨a105, ha105, h⟩ := b7 h
         refine AWP.f (.a Z Z (.a Z Z (.k Z Z Z Z (X1 ha105) Z (W.storeAgg Z Z Z Z Z Z Z (.nil (b5 (.ret (g7 (d8 ?_)))))))))
         obtain rfl := oi h
         refine d8 ⟨_, Z, Z, ?_⟩
         exact Done.ret Z Z
        ·refine AWP.skip (d5 (b5 (.f (.a Z Z (.add Z Z Z (by omega) (.e Z Z (.nil ?_)))))))
         obtain rfl := oi h
         refine b5 ⟨_, Z, ?_⟩
         exact Sub.env ⟨Z, Z, Z, Y⟩
     ·intro e s hq
      rcases oo with u | x
      ·try dsimp only at h hq
       obtain ⟨rfl, hs⟩ := hq
       refine ⟨_, hs, ?_⟩
       refine f9 (b5 (.d (.f (W.build Z Z Z Z (W.storeAgg Z Z Z Z Z Z Z (.nil (b5 (.ret ?_))))))))
       obtain rfl := oi h
       exact Done.ret Z Z
      ·try dsimp only at h hq
       obtain ⟨rfl, hs⟩ := hq
       refine ⟨_, Sub.refl _ _, ?_⟩
       refine g7 (d8 ?_)
       obtain rfl := oi h
       exact hs
theorem aj6 {r : b9} (h : aa1 = some r) : d9 Tryz.prog 38 [] (.agg (tO r)) := by
 unfold d9
 refine FnOk.enter (rs := [.cell 0 25 4]) Tryz.func38 Z Tryz.ntmps38 Tryz.results38 Z ⟨rv _ Z, Y⟩ (by kernel_rfl) Z ?_
 unfold aa1 at h
 refine AWP.d (.f (W.alloc Z Z Z Z (.nil (b5 (.d (.f (S.lit (f := intI) (l := [0]) (ess := [[int 0]]) Z Z Z Z Z Z Z ⟨⟨.inl Z, Y⟩, Y⟩ Z Z Z (S.lit (f := intI) (l := [0]) (ess := [[int 0]]) Z Z Z Z Z Z Z ⟨⟨.inl Z, Y⟩, Y⟩ Z Z Z (W.build Z Z Z Z (.frzV (id := 2) (l := [0]) (env2 := [(0, .c (.ptr 0 0 0)), (1, .c (.own 1 0 ([0].length))), (3, .agg [row 1 intI [0], .imm (.val (.slice none 0 0)), int 1])]) (σ2 := [.one (.cells 4 [[int 0, .imm (.val (.slice none 0 0)), .imm (.val (.slice none 0 0)), .imm (.val (.slice none 0 0))]]), .one (vec 1 intI [0]), .dead]) Z Z (by exact ⟨⟨_, Z, .inl ⟨Z, Z⟩⟩, ⟨_, Z, .inl ⟨Z, Z⟩⟩, ⟨_, Z, ⟨.inr ⟨_, Z, Z, Z⟩, .inl ⟨Z, Z⟩, .inl ⟨Z, Z⟩, Y⟩⟩, Y⟩) Z (by exact ⟨⟨Z, .inl ⟨Z, Z⟩, .inl ⟨Z, Z⟩, .inl ⟨Z, Z⟩, .inl ⟨Z, Z⟩, Y⟩, FrzB.vec, trivial, Y⟩) (S.lit (f := n8) (l := [(⟨[0], [], 1⟩ : l4)]) (ess := [[row 1 intI [0], .imm (.val (.slice none 0 0)), int 1]]) Z Z Z Z Z Z Z ⟨⟨.inl Z, .inr ⟨Z, _, Z⟩, .inl Z, Y⟩, Y⟩ Z Z Z (W.build Z Z Z Z (.frzV (id := 3) (l := [(⟨[0], [], 1⟩ : l4)]) (env2 := [(0, .c (.ptr 0 0 0)), (1, .c (.own 1 0 ([0].length))), (5, .agg [.imm (.val (.slice none 0 0)), row 3 n8 ([(⟨[0], [], 1⟩ : l4)]), int 1])]) (σ2 := [.one (.cells 4 [[int 0, .imm (.val (.slice none 0 0)), .imm (.val (.slice none 0 0)), .imm (.val (.slice none 0 0))]]), .one (vec 1 intI [0]), .dead, .dead]) Z Z (by exact ⟨⟨_, Z, .inl ⟨Z, Z⟩⟩, ⟨_, Z, .inl ⟨Z, Z⟩⟩, ⟨_, Z, ⟨.inl ⟨Z, Z⟩, .inr ⟨_, Z, Z, Z⟩, .inl ⟨Z, Z⟩, Y⟩⟩, Y⟩) Z (by exact ⟨⟨Z, .inl ⟨Z, Z⟩, .inl ⟨Z, Z⟩, .inl ⟨Z, Z⟩, .inl ⟨Z, Z⟩, Y⟩, FrzB.vec, trivial, trivial, Y⟩) (S.lit (f := m9) (l := [(⟨[], [(⟨[0], [], 1⟩ : l4)], 1⟩ : i6)]) (ess := [[.imm (.val (.slice none 0 0)), row 3 n8 ([(⟨[0], [], 1⟩ : l4)]), int 1]]) Z Z Z Z Z Z Z ⟨⟨.inr ⟨Z, _, Z⟩, .inl Z, .inl Z, Y⟩, Y⟩ Z Z Z (W.build Z Z Z Z (W.storeAgg Z Z Z Z Z Z Z (.nil (b5 (.frzV (id := 1) (l := [0]) (env2 := [(0, .c (.ptr 0 0 0))]) (σ2 := [.one (.cells 4 [[int 1, .imm (.val (.slice none 0 0)), row 1 intI [0], .own 4 0 (([(⟨[], [(⟨[0], [], 1⟩ : l4)], 1⟩ : i6)]).length)]]), .dead, .dead, .dead, .one (vec 3 m9 ([(⟨[], [(⟨[0], [], 1⟩ : l4)], 1⟩ : i6)]))]) Z Z (by exact ⟨⟨_, Z, .inl ⟨Z, Z⟩⟩, Y⟩) Z (by exact ⟨⟨Z, .inl ⟨Z, Z⟩, .inl ⟨Z, Z⟩, .inr ⟨_, Z, Z, Z⟩, .inl ⟨Z, Z⟩, Y⟩, trivial, trivial, trivial, FrzB.vec, Y⟩) (.frzV (id := 4) (l := [(⟨[], [(⟨[0], [], 1⟩ : l4)], 1⟩ : i6)]) (env2 := [(0, .c (.ptr 0 0 0))]) (σ2 := [.one (.cells 4 [[int 1, .imm (.val (.slice none 0 0)), row 1 intI [0], row 3 m9 ([(⟨[], [(⟨[0], [], 1⟩ : l4)], 1⟩ : i6)])]]), .dead, .dead, .dead, .dead]) Z Z (by exact ⟨⟨_, Z, .inl ⟨Z, Z⟩⟩, Y⟩) Z (by exact ⟨⟨Z, .inl ⟨Z, Z⟩, .inl ⟨Z, Z⟩, .inl ⟨Z, Z⟩, .inr ⟨_, Z, Z, Z⟩, Y⟩, trivial, trivial, trivial, trivial, Y⟩) (.nilB (b := 0) [int 1, row 1 intI [], row 1 intI [0], row 3 m9 ([(⟨[], [(⟨[0], [], 1⟩ : l4)], 1⟩ : i6)])] Z (by exact ⟨.inl Z, .inr ⟨Z, _, Z⟩, .inl Z, .inl Z, Y⟩) Z Z (.ret ?_))))))))))))))))))))))
 obtain rfl := oi h
 exact Done.ret Z Z
theorem ae9 {ov : b9} {policy : List d7} {r : k6} (h : E0 ov policy = some r) : d9 Tryz.prog 52 [.agg (tO ov), .c (row 2 e9 policy)] (.agg [int r.code, int r.index]) := by
 unfold d9
 refine FnOk.enter (rs := [.cell 4 28 2]) Tryz.func52 Z Tryz.ntmps52 Tryz.results52 Z ⟨rv _ Z, Y⟩ (by kernel_rfl) Z ?_
 unfold E0 at h
 refine AWP.d (.f (W.box Z Z Z Z Z Z (W.alloc Z Z Z Z (.nil (b5 (.d (.d ?_)))))))
 obtain ⟨a10, ha10, h⟩ := b7 h
 refine AWP.f (W.loadAgg Z Z Z Z Z Z Z (.k Z Z Z Z (ac5 ha10) Z (W.alloc Z Z Z Z (W.storeAgg Z Z Z Z Z Z Z (.nil (b5 (.d (.f (W.loadAgg Z Z Z Z Z Z Z (W.build Z Z Z Z (.neqP Z Z Z Z Z Z Z (.nil (b5 (.s Z h (fun hc3 h => ?_) (fun hc3 h => ?_)))))))))))))))
 ·refine AWP.d (.f (W.loadAgg Z Z Z Z Z Z Z (W.storeAgg Z Z Z Z Z Z Z (.nil (b5 (.ret (d8 ?_)))))))
  obtain rfl := oi h
  exact Done.ret Z Z
 ·refine AWP.skip (b5 (.d (.d (.f (.a Z Z (S.len Z Z (fun hl16 => .gtr Z Z Z (.nil (b5 (.ite Z h (fun hc4 h => ?_) (fun hc4 h => ?_)))))))))))
  ·refine AWP.d (.f (W.build Z Z Z Z (W.storeAgg Z Z Z Z Z Z Z (.nil (b5 (.ret (d8 ?_)))))))
   obtain rfl := oi h
   exact Done.ret Z Z
  ·refine AWP.skip (b5 (.d (.d (.f (.a Z Z (S.len Z Z (fun hl20 => .a Z Z (.nil (b5 (.l ?_))))))))))
   obtain ⟨oo, ho1, h⟩ := b7 h
   refine AWP.rngS ho1 (fun t5 _ => ⟨[(1, .c (row 2 e9 policy)), (2, .c (.ptr 0 0 0)), (4, .c (.ptr 1 0 0)), (19, .c (row 2 e9 policy)), (20, .c (int (policy.length : Int))), (21, .c (int t5))], [.one (.cells 4 [(tO ov)]), .one (.cells 2 [[int 0, int 0]])]⟩) (fun o e st => match o with | .inl _ => e = .exit 0 ∧ Sub [] st ⟨[(4, .c (.ptr 1 0 0))], [.one (.cells 4 [(tO ov)]), .one (.cells 2 [[int 0, int 0]])]⟩ | .inr x => e = .ret ∧ Done [.cell 4 28 2] (fun t _ => t = .agg [int x.code, int x.index]) .ret st) ?_ ?_ ?_ ?_
   ·try dsimp only
    exact Sub.cut ⟨Z, Z, Z, Z, Z, Z, Y⟩ Z ⟨.one Z, .one Z, Y⟩ Z
   ·intro t5 s hlot5 hltt5 _
    try dsimp only
    refine AWP.d (.f (.j Z Z Z (.nil (b5 (.d (.q Z hltt5 (.exit (d6 (d6 ⟨Z, ?_⟩)))))))))
    exact Sub.env ⟨Z, Y⟩
   ·intro t5 s o hlot5 hltt5 h
    unfold z8 at h
    try dsimp only at h ⊢
    refine AWP.d (.f (.j Z Z Z (.nil (b5 (.d (.r Z hltt5 (.skip (b5 (.d (.l (.d ?_)))))))))))
    obtain ⟨a24, ha24, h⟩ := b7 h
    refine AWP.f (.a Z Z (S.idx ha24 Z Z Z Z (W.loadIAgg Z Z Z Z Z (W.alloc Z Z Z Z (.e Z Z (W.storeAgg Z Z Z Z Z Z Z (.nil (b5 (.d (.f (.e Z Z (.nil (b5 ?_)))))))))))))
    obtain ⟨ev6, hx7, h⟩ := b7 h
    refine AWP.seqJ (⟨[(1, .c (row 2 e9 policy)), (2, .c (.ptr 0 0 0)), (4, .c (.ptr 1 0 0)), (6, .c (int t5)), (8, .c (int ev6)), (19, .c (row 2 e9 policy)), (20, .c (int (policy.length : Int))), (21, .c (int t5))], [.one (.cells 4 [(tO ov)]), .one (.cells 2 [[int 0, int 0]])]⟩) ?_ ?_
    ·refine AWP.l ?_
     obtain ⟨t8, hx9, hx7⟩ := b7 hx7
     refine AWP.seqJ (⟨[(1, .c (row 2 e9 policy)), (2, .c (.ptr 0 0 0)), (4, .c (.ptr 1 0 0)), (6, .c (int t5)), (7, .c (.ptr 2 0 0)), (8, .c (int 0)), (19, .c (row 2 e9 policy)), (20, .c (int (policy.length : Int))), (21, .c (int t5)), (26, .c (bool t8))], [.one (.cells 4 [(tO ov)]), .one (.cells 2 [[int 0, int 0]]), .one (.cells 2 [[row 1 intI a24.state, int a24.operator]])]⟩) ?_ ?_
     ·obtain ⟨a31, ha31, hx9⟩ := b7 hx9
      rcases bft (!a31) with hb10 | hb10
      ·replace hx9 := B8 hb10 hx9
       refine AWP.drawI mixed Z ?_
       refine g9.consF Z (fun E => W.fieldAddr Z Z Z Z (.nil ⟨Z, Z⟩)) Z (.consF Z (fun E => AOps.m Z Z Z Z Z Z (.nil ⟨Z, Z⟩)) Z (.consF Z (fun E => W.fieldAddr Z Z Z Z (.nil ⟨Z, Z⟩)) Z (.consF Z (fun E => AOps.m Z Z Z Z Z Z (.nil ⟨Z, Z⟩)) Z (.consF Z (fun E => AOps.k Z Z Z Z (p9 ha31) Z (.nil ⟨Z, Z⟩)) Z (.consF Z (fun E => AOps.v Z Z (.nil ⟨Z, Z⟩)) Z (.consF Z (fun E => AOps.a Z Z (.nil ⟨Z, Z⟩)) Z (.consF Z (fun E => AOps.i Z Z Z hb10 (.nil ⟨Z, Z⟩)) Z (.consF Z (fun E => AOps.i Z Z Z hb10 (.nil ⟨Z, Z⟩)) Z (.consF Z (fun E => AOps.i Z Z Z hb10 (.nil ⟨Z, Z⟩)) Z (.consF Z (fun E => AOps.x Z Z Z (.nil ⟨Z, Z⟩)) Z (.consF Z (fun E => AOps.x Z Z Z (.nil ⟨Z, Z⟩)) Z (.consF Z (fun E => AOps.x Z Z Z (.nil ⟨Z, Z⟩)) Z (.consF Z (fun E => AOps.x Z Z Z (.nil ⟨Z, Z⟩)) Z (.consF Z (fun E => AOps.x Z Z Z (.nil ⟨Z, Z⟩)) Z (.consF Z (fun E => AOps.x Z Z Z (.nil ⟨Z, Z⟩)) Z (.consF Z (fun E => AOps.x Z Z Z (.nil ⟨Z, Z⟩)) Z (.consF Z (fun E => AOps.x Z Z Z (.nil ⟨Z, Z⟩)) Z (.consF Z (fun E => AOps.x Z Z Z (.nil ⟨Z, Z⟩)) Z (.consF Z (fun E => AOps.x Z Z Z (.nil ⟨Z, Z⟩)) Z (.consF Z (fun E => AOps.i Z Z Z hb10 (.nil ⟨Z, Z⟩)) Z (.consF Z (fun E => AOps.o Z hb10 Z Z (.nil ⟨Z, Z⟩)) Z (.consF Z (fun E => AOps.e Z Z (.nil ⟨Z, Z⟩)) Z ?_))))))))))))))))))))))
       refine g9.done ?_
       dsimp only [i9]
       obtain rfl := oi hx9
       refine b5 (Sub.env ⟨Z, Z, Z, Z, Z, Z, Z, Z, Z, Z, Y⟩)
      ·replace hx9 := B9 hb10 hx9
       rcases bft (decide (0 < t5)) with hb11 | hb11
       ·replace hx9 := B4 hb11 hx9
        obtain ⟨a40, ha40, a45, ha45, hx9⟩ := b2 hx9
        refine AWP.drawI mixed Z ?_
        refine g9.consF Z (fun E => W.fieldAddr Z Z Z Z (.nil ⟨Z, Z⟩)) Z (.consF Z (fun E => AOps.m Z Z Z Z Z Z (.nil ⟨Z, Z⟩)) Z (.consF Z (fun E => W.fieldAddr Z Z Z Z (.nil ⟨Z, Z⟩)) Z (.consF Z (fun E => AOps.m Z Z Z Z Z Z (.nil ⟨Z, Z⟩)) Z (.consF Z (fun E => AOps.k Z Z Z Z (p9 ha31) Z (.nil ⟨Z, Z⟩)) Z (.consF Z (fun E => AOps.v Z Z (.nil ⟨Z, Z⟩)) Z (.consF Z (fun E => AOps.a Z Z (.nil ⟨Z, Z⟩)) Z (.consF Z (fun E => AOps.g Z Z Z hb10 (.a Z Z (.nil ⟨Z, Z⟩))) Z (.consF Z (fun E => AOps.g Z Z Z hb10 (.gtr Z Z Z (.nil ⟨Z, Z⟩))) Z (.consF Z (fun E => AOps.g Z Z Z hb10 (.a Z Z (.nil ⟨Z, Z⟩))) Z (.consF Z (fun E => AOps.g Z Z Z hb11 (.a Z Z (.nil ⟨Z, Z⟩))) Z (.consF Z (fun E => AOps.g Z Z Z hb11 (.a Z Z (.nil ⟨Z, Z⟩))) Z (.consF Z (fun E => AOps.g Z Z Z hb11 (.sub' Z Z Z (by omega) (.nil ⟨Z, Z⟩))) Z (.consF Z (fun E => AOps.g Z Z Z hb11 (S.idx ha40 Z Z Z Z (.nil ⟨Z, Z⟩))) Z (.consF Z (fun E => AOps.g Z Z Z hb11 (W.fieldAddrI Z Z Z Z (.nil ⟨Z, Z⟩))) Z (.consF Z (fun E => AOps.g Z Z Z hb11 (.p Z Z Z Z (.nil ⟨Z, Z⟩))) Z (.consF Z (fun E => AOps.g Z Z Z hb11 (W.fieldAddr Z Z Z Z (.nil ⟨Z, Z⟩))) Z (.consF Z (fun E => AOps.g Z Z Z hb11 (.m Z Z Z Z Z Z (.nil ⟨Z, Z⟩))) Z (.consF Z (fun E => AOps.g Z Z Z hb11 (.k Z Z Z Z (q9 ha45) Z (.nil ⟨Z, Z⟩))) Z (.consF Z (fun E => AOps.g Z Z Z hb11 (.geq Z Z Z (.nil ⟨Z, Z⟩))) Z (.consF Z (fun E => AOps.g Z Z Z hb10 (.o Z hb11 Z Z (.nil ⟨Z, Z⟩))) Z (.consF Z (fun E => AOps.n Z hb10 Z Z (.nil ⟨Z, Z⟩)) Z (.consF Z (fun E => AOps.e Z Z (.nil ⟨Z, Z⟩)) Z ?_))))))))))))))))))))))
        refine g9.done ?_
        dsimp only [i9]
        obtain rfl := oi hx9
        refine b5 (Sub.env ⟨Z, Z, Z, Z, Z, Z, Z, Z, Z, Z, Y⟩)
       ·replace hx9 := B5 hb11 hx9
        refine AWP.drawI mixed Z ?_
        refine g9.consF Z (fun E => W.fieldAddr Z Z Z Z (.nil ⟨Z, Z⟩)) Z (.consF Z (fun E => AOps.m Z Z Z Z Z Z (.nil ⟨Z, Z⟩)) Z (.consF Z (fun E => W.fieldAddr Z Z Z Z (.nil ⟨Z, Z⟩)) Z (.consF Z (fun E => AOps.m Z Z Z Z Z Z (.nil ⟨Z, Z⟩)) Z (.consF Z (fun E => AOps.k Z Z Z Z (p9 ha31) Z (.nil ⟨Z, Z⟩)) Z (.consF Z (fun E => AOps.v Z Z (.nil ⟨Z, Z⟩)) Z (.consF Z (fun E => AOps.a Z Z (.nil ⟨Z, Z⟩)) Z (.consF Z (fun E => AOps.g Z Z Z hb10 (.a Z Z (.nil ⟨Z, Z⟩))) Z (.consF Z (fun E => AOps.g Z Z Z hb10 (.gtr Z Z Z (.nil ⟨Z, Z⟩))) Z (.consF Z (fun E => AOps.g Z Z Z hb10 (.a Z Z (.nil ⟨Z, Z⟩))) Z (.consF Z (fun E => AOps.i Z Z Z hb11 (.nil ⟨Z, Z⟩)) Z (.consF Z (fun E => AOps.i Z Z Z hb11 (.nil ⟨Z, Z⟩)) Z (.consF Z (fun E => AOps.i Z Z Z hb11 (.nil ⟨Z, Z⟩)) Z (.consF Z (fun E => AOps.i Z Z Z hb11 (.nil ⟨Z, Z⟩)) Z (.consF Z (fun E => AOps.i Z Z Z hb11 (.nil ⟨Z, Z⟩)) Z (.consF Z (fun E => AOps.i Z Z Z hb11 (.nil ⟨Z, Z⟩)) Z (.consF Z (fun E => AOps.i Z Z Z hb11 (.nil ⟨Z, Z⟩)) Z (.consF Z (fun E => AOps.i Z Z Z hb11 (.nil ⟨Z, Z⟩)) Z (.consF Z (fun E => AOps.i Z Z Z hb11 (.nil ⟨Z, Z⟩)) Z (.consF Z (fun E => AOps.i Z Z Z hb11 (.nil ⟨Z, Z⟩)) Z (.consF Z (fun E => AOps.g Z Z Z hb10 (.n Z hb11 Z Z (.nil ⟨Z, Z⟩))) Z (.consF Z (fun E => AOps.n Z hb10 Z Z (.nil ⟨Z, Z⟩)) Z (.consF Z (fun E => AOps.e Z Z (.nil ⟨Z, Z⟩)) Z ?_))))))))))))))))))))))
        refine g9.done ?_
        dsimp only [i9]
        obtain rfl := oi hx9
        refine b5 (Sub.env ⟨Z, Z, Z, Z, Z, Z, Z, Z, Z, Z, Y⟩)
     ·refine AWP.s Z hx7 (fun hc12 hx7 => ?_) (fun hc12 hx7 => ?_)
      ·refine AWP.f (.e Z Z (.nil (d5 ?_)))
       obtain rfl := oi hx7
       refine b5 (Sub.cut ⟨Z, Z, Z, Z, Z, Z, Z, Z, Y⟩ Z ⟨.one Z, .one Z, Y⟩ Z)
      ·refine AWP.seqJ (⟨[(1, .c (row 2 e9 policy)), (2, .c (.ptr 0 0 0)), (4, .c (.ptr 1 0 0)), (6, .c (int t5)), (7, .c (.ptr 2 0 0)), (8, .c (int 0)), (19, .c (row 2 e9 policy)), (20, .c (int (policy.length : Int))), (21, .c (int t5)), (49, .c (bool ((decide (a24.operator < 0)) || (decide ((ov.operators.length : Int) ≤ a24.operator)))))], [.one (.cells 4 [(tO ov)]), .one (.cells 2 [[int 0, int 0]]), .one (.cells 2 [[row 1 intI a24.state, int a24.operator]])]⟩) ?_ ?_
       ·rcases bft (decide (a24.operator < 0)) with hb1 | hb1
        ·refine AWP.f (W.fieldAddr Z Z Z Z (.m Z Z Z Z Z Z (.j Z Z Z (.a Z Z (.i Z Z Z hb1 (.i Z Z Z hb1 (.i Z Z Z hb1 (.i Z Z Z hb1 (.i Z Z Z hb1 (.i Z Z Z hb1 (.o Z hb1 Z Z (.e Z Z (.nil (b5 ?_))))))))))))))
         simp only [T4 hb1, or_t hb1, Bool.false_or, Bool.true_or, Bool.false_and, Bool.true_and]
         exact Sub.env ⟨Z, Z, Z, Z, Z, Z, Z, Z, Z, Z, Y⟩
        ·refine AWP.f (W.fieldAddr Z Z Z Z (.m Z Z Z Z Z Z (.j Z Z Z (.a Z Z (.g Z Z Z hb1 (W.fieldAddr Z Z Z Z (.g Z Z Z hb1 (.m Z Z Z Z Z Z (.g Z Z Z hb1 (W.fieldAddr Z Z Z Z (.g Z Z Z hb1 (.m Z Z Z Z Z Z ?_))))))))))))
         refine AOps.g Z Z Z hb1 ?_; refine S.len Z Z (fun hl58 => ?_)
         refine AOps.g Z Z Z hb1 (.geq Z Z Z (.n Z hb1 Z Z (.e Z Z (.nil (b5 ?_)))))
         simp only [and_f hb1, or_f hb1, Bool.false_or, Bool.true_or, Bool.false_and, Bool.true_and]
         exact Sub.env ⟨Z, Z, Z, Z, Z, Z, Z, Z, Z, Z, Y⟩
       ·refine AWP.s Z hx7 (fun hc13 hx7 => ?_) (fun hc13 hx7 => ?_)
        ·refine AWP.f (.e Z Z (.nil (d5 ?_)))
         obtain rfl := oi hx7
         refine b5 (Sub.cut ⟨Z, Z, Z, Z, Z, Z, Z, Z, Y⟩ Z ⟨.one Z, .one Z, Y⟩ Z)
        ·refine AWP.d ?_
         obtain ⟨a67, ha67, hx7⟩ := b7 hx7
         refine AWP.f (W.loadAgg Z Z Z Z Z Z Z (W.fieldAddr Z Z Z Z (.m Z Z Z Z Z Z (W.fieldAddr Z Z Z Z (.m Z Z Z Z Z Z (.k Z Z Z Z (ae7 ha67) Z (.v Z Z (.e Z Z (.nil (b5 (.s Z hx7 (fun hc14 hx7 => ?_) (fun hc14 hx7 => ?_))))))))))))
         ·refine AWP.f (.e Z Z (.nil (d5 ?_)))
          obtain rfl := oi hx7
          refine b5 (Sub.cut ⟨Z, Z, Z, Z, Z, Z, Z, Z, Y⟩ Z ⟨.one Z, .one Z, Y⟩ Z)
         ·refine AWP.skip (d5 ?_)
          obtain rfl := oi hx7
          refine b5 (Sub.cut ⟨Z, Z, Z, Z, Z, Z, Z, Z, Y⟩ Z ⟨.one Z, .one Z, Y⟩ Z)
    ·refine AWP.d (.f (.a Z Z (.neq Z Z Z (.nil (b5 (.iteN Z h (fun hc15 h => ?_) (fun hc15 h => ?_)))))))
     ·refine AWP.d (.f (.a Z Z (.a Z Z (S.sub Z Z Z (W.build Z Z Z Z (W.storeAgg Z Z Z Z Z Z Z (.nil (b5 (.ret (g7 (d8 ?_)))))))))))
      obtain rfl := oi h
      refine d8 ⟨_, Z, Z, ?_⟩
      exact Done.ret Z Z
     ·refine AWP.skip (d5 (b5 (.f (.add Z Z Z (by omega) (.a Z Z (.nil ?_))))))
      obtain rfl := oi h
      refine b5 ⟨_, Z, ?_⟩
      exact Sub.env ⟨Z, Z, Z, Z, Z, Z, Y⟩
   ·intro e s hq
    rcases oo with u | x
    ·try dsimp only at h hq
     obtain ⟨rfl, hs⟩ := hq
     refine ⟨_, hs, ?_⟩
     refine f9 (b5 (.d (.f (W.build Z Z Z Z (W.storeAgg Z Z Z Z Z Z Z (.nil (b5 (.ret ?_))))))))
     obtain rfl := oi h
     exact Done.ret Z Z
    ·try dsimp only at h hq
     obtain ⟨rfl, hs⟩ := hq
     refine ⟨_, Sub.refl _ _, ?_⟩
     refine g7 (d8 ?_)
     obtain rfl := oi h
     exact hs
theorem ak4 {xv : List Int} {c2 : List Int} {r : Bool} (h : H4 xv c2 = some r) : d9 Tryz.prog 81 [.c (row 1 intI xv), .c (.imm (.ipt [.sl 1 (List.map intI c2)]))] (.c (bool r)) := by
 unfold d9
 refine FnOk.enter (rs := [.t 3]) Tryz.func81 Z Tryz.ntmps81 Tryz.results81 Z ⟨trivial, Y⟩ (by kernel_rfl) Z ?_
 unfold H4 at h
 refine AWP.d (.f (.e Z Z (.nil (b5 (.d ?_)))))
 obtain ⟨a6, ha6, h⟩ := b7 h
 refine AWP.f (.a Z Z (.p Z Z Z Z (.k Z Z Z Z (I6 ha6) Z (.e Z Z (.nil (b5 (.ret ?_)))))))
 obtain rfl := oi h
 exact Done.ret Z Z
theorem ab2 {sv : LL} {fv : (List Int) → Option Bool} {r : Int} {fvfv : FuncId} {cvfv : List C} (hcvfv : C.okL 0 cvfv = true) (hfv : ∀ {y1 : List Int} {z : Bool}, fv y1 = some z → d9 Tryz.prog fvfv ([.c (row 1 intI y1)] ++ cvfv.map T.c) (.c (bool z))) (h : F0 sv fv = some r) : d9 Tryz.prog 98 [.c (row 1 d4 sv), .c (.fn fvfv cvfv)] (.c (int r)) := by
 unfold d9
 refine FnOk.enter (rs := [.t 4]) Tryz.func98 Z Tryz.ntmps98 Tryz.results98 Z ⟨trivial, Y⟩ (by kernel_rfl) Z ?_
 unfold F0 at h
 refine AWP.d (.f (.e Z Z (.nil (b5 (.d (.d (.f (.a Z Z (S.len Z Z (fun hl7 => .a Z Z (.nil (b5 (.l ?_)))))))))))))
 obtain ⟨oo, ho1, h⟩ := b7 h
 refine AWP.rngS ho1 (fun t3 _ => ⟨[(0, .c (row 1 d4 sv)), (1, .c (.fn fvfv cvfv)), (7, .c (int (sv.length : Int))), (8, .c (int t3))], []⟩) (fun o e st => match o with | .inl _ => e = .exit 0 ∧ Sub [] st ⟨[], []⟩ | .inr x => e = .ret ∧ Done [.t 4] (fun t _ => t = .c (int x)) .ret st) ?_ ?_ ?_ ?_
 ·try dsimp only
  exact Sub.env ⟨Z, Z, Z, Z, Y⟩
 ·intro t3 s hlot3 hltt3 _
  try dsimp only
  refine AWP.d (.f (.j Z Z Z (.nil (b5 (.d (.q Z hltt3 (.exit (d6 (d6 ⟨Z, ?_⟩)))))))))
  exact Sub.env trivial
 ·intro t3 s o hlot3 hltt3 h
  unfold B6 at h
  try dsimp only at h ⊢
  refine AWP.d (.f (.j Z Z Z (.nil (b5 (.d (.r Z hltt3 (.skip (b5 (.d (.l (.d (.f (.a Z Z (.e Z Z (.nil (b5 (.d ?_)))))))))))))))))
  obtain ⟨a14, ha14, a16, ha16, h⟩ := b2 h
  refine AWP.f (.a Z Z (.a Z Z (.a Z Z (S.idx ha14 Z Z Z Z (.p Z Z Z Z (.k Z Z (X4 Z hcvfv) Z (hfv ha16) Z (.nil (b5 (.s Z h (fun hc4 h => ?_) (fun hc4 h => ?_))))))))))
  ·refine AWP.d (.f (.a Z Z (.e Z Z (.nil (b5 (.ret (g7 (d8 ?_))))))))
   obtain rfl := oi h
   refine d8 ⟨_, Z, Z, ?_⟩
   exact Done.ret Z Z
  ·refine AWP.skip (d5 (b5 (.f (.add Z Z Z (by omega) (.a Z Z (.nil ?_))))))
   obtain rfl := oi h
   refine b5 ⟨_, Z, ?_⟩
   exact Sub.env ⟨Z, Z, Z, Z, Y⟩
 ·intro e s hq
  rcases oo with u | x
  ·try dsimp only at h hq
   obtain ⟨rfl, hs⟩ := hq
   refine ⟨_, hs, ?_⟩
   refine f9 (b5 (.d (.f (.e Z Z (.nil (b5 (.ret ?_)))))))
   obtain rfl := oi h
   exact Done.ret Z Z
  ·try dsimp only at h hq
   obtain ⟨rfl, hs⟩ := hq
   refine ⟨_, Sub.refl _ _, ?_⟩
   refine g7 (d8 ?_)
   obtain rfl := oi h
   exact hs
theorem Y0 {sv : LL} {fv : (List Int) → Option Bool} {r : Bool} {fvfv : FuncId} {cvfv : List C} (hcvfv : C.okL 0 cvfv = true) (hfv : ∀ {y1 : List Int} {z : Bool}, fv y1 = some z → d9 Tryz.prog fvfv ([.c (row 1 intI y1)] ++ cvfv.map T.c) (.c (bool z))) (h : w6 sv fv = some r) : d9 Tryz.prog 80 [.c (row 1 d4 sv), .c (.fn fvfv cvfv)] (.c (bool r)) := by
 unfold d9
 refine FnOk.enter (rs := [.t 4]) Tryz.func80 Z Tryz.ntmps80 Tryz.results80 Z ⟨trivial, Y⟩ (by kernel_rfl) Z ?_
 unfold w6 at h
 refine AWP.d (.f (.e Z Z (.nil (b5 (.d ?_)))))
 obtain ⟨a7, ha7, h⟩ := b7 h
 refine AWP.f (.a Z Z (.a Z Z (.k Z Z (by simp [T.okL, T.ok, C.ok, C.okL, hcvfv]) Z (ab2 hcvfv hfv ha7) Z (.geq Z Z Z (.e Z Z (.nil (b5 (.ret ?_))))))))
 obtain rfl := oi h
 exact Done.ret Z Z
end Ab
end
