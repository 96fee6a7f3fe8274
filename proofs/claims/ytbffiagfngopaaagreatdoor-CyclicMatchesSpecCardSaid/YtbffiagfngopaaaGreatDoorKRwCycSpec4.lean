/-
  Texts that the proof stands on.
-/
import Derived.Test.YtbffiagfngopaaaGreatDoorKRwCycSpec3
set_option linter.all false
section
namespace Ab
open Go Go.Proofs
set_option maxHeartbeats 4000000
set_option linter.all false
attribute [local irreducible] AWP AOps thn inB Done f8 m5 Sub
abbrev tO (v : b9) : List C := [int v.facts, row 1 intI v.init, row 1 intI v.goal, row 3 m6 v.operators]
theorem r9 {l : List Int} {nv : Int} {r : Bool} (h : B8 l nv = some r) : f8 Tryz.prog 79 [.c (row 1 intI l), .c (int nv)] (.c (bool r)) := by
 unfold f8
 refine FnOk.enter (rs := [.t 4]) Tryz.func79 Z Tryz.ntmps79 Tryz.results79 Z ⟨trivial, Y⟩ (by kernel_rfl) Z ?_
 unfold B8 at h
 refine AWP.d (.f (.e Z Z (.nil (b5 (.d (.d (.f (.a Z Z (S.len Z Z (fun hl8 => .a Z Z (.nil (b5 (.k ?_)))))))))))))
 obtain ⟨oo, ho1, h⟩ := b6 h
 refine AWP.rngS ho1 (fun t3 _ => ⟨[(0, .c (row 1 intI l)), (1, .c (int nv)), (7, .c (row 1 intI l)), (8, .c (int (l.length : Int))), (9, .c (int t3))], []⟩) (fun o e st => match o with | .inl _ => e = .exit 0 ∧ Sub [] st ⟨[], []⟩ | .inr x => e = .ret ∧ Done [.t 4] (fun t _ => t = .c (bool x)) .ret st) ?_ ?_ ?_ ?_
 ·try dsimp only
  exact Sub.env ⟨Z, Z, Z, Z, Z, Y⟩
 ·intro t3 s hlot3 hltt3 _
  try dsimp only
  refine AWP.d (.f (.j Z Z Z (.nil (b5 (.d (.q Z hltt3 (.exit (d8 (d8 ⟨Z, ?_⟩)))))))))
  exact Sub.env trivial
 ·intro t3 s o hlot3 hltt3 h
  unfold Q8 at h
  try dsimp only at h ⊢
  refine AWP.d (.f (.j Z Z Z (.nil (b5 (.d (.r Z hltt3 (.skip (b5 (.d (.k (.d ?_)))))))))))
  obtain ⟨a12, ha12, h⟩ := b6 h
  refine AWP.f (.a Z Z (S.idx ha12 Z Z Z Z (.o Z Z Z Z (.e Z Z (.e Z Z (.nil (b5 ?_)))))))
  obtain ⟨t4, hx5, h⟩ := b6 h
  refine AWP.seqJ (⟨[(0, .c (row 1 intI l)), (1, .c (int nv)), (7, .c (row 1 intI l)), (8, .c (int (l.length : Int))), (9, .c (int t3)), (33, .c (bool t4))], []⟩) ?_ ?_
  ·rcases bft (decide (a12 < 0)) with hb6 | hb6
   ·replace hx5 := C2 hb6 hx5
    refine AWP.f (.a Z Z (.j Z Z Z (.a Z Z (.i Z Z Z hb6 (.i Z Z Z hb6 (.i Z Z Z hb6 (.p Z hb6 Z Z (.a Z Z (.i Z Z Z Z (.i Z Z Z Z (.i Z Z Z Z (.x Z Z Z (.x Z Z Z (.x Z Z Z (.x Z Z Z (.x Z Z Z (.x Z Z Z (.x Z Z Z (.i Z Z Z Z (.p Z Z Z Z (.nil ?_)))))))))))))))))))))
    obtain rfl := oi hx5
    refine b5 (Sub.env ⟨Z, Z, Z, Z, Z, Z, Y⟩)
   ·replace hx5 := B9 hb6 hx5
    rcases bft (decide (nv ≤ a12)) with hb7 | hb7
    ·replace hx5 := C2 hb7 hx5
     refine AWP.f (.a Z Z (.j Z Z Z (.a Z Z (.g Z Z Z hb6 (.a Z Z (.g Z Z Z hb6 (.a Z Z (.g Z Z Z hb6 (.geq Z Z Z (.n Z hb6 Z Z (.a Z Z (.i Z Z Z hb7 (.i Z Z Z hb7 (.i Z Z Z hb7 (.x Z Z Z (.x Z Z Z (.x Z Z Z (.x Z Z Z (.x Z Z Z (.x Z Z Z (.x Z Z Z (.i Z Z Z hb7 (.p Z hb7 Z Z (.nil ?_))))))))))))))))))))))))
     obtain rfl := oi hx5
     refine b5 (Sub.env ⟨Z, Z, Z, Z, Z, Z, Y⟩)
    ·replace hx5 := B9 hb7 hx5
     rcases bft (decide (0 < t3)) with hb8 | hb8
     ·replace hx5 := C2 hb8 hx5
      obtain ⟨a29, ha29, hx5⟩ := b6 hx5
      refine AWP.f (.a Z Z (.j Z Z Z (.a Z Z (.g Z Z Z hb6 (.a Z Z (.g Z Z Z hb6 (.a Z Z (.g Z Z Z hb6 (.geq Z Z Z (.n Z hb6 Z Z (.a Z Z (.g Z Z Z hb7 (.a Z Z (.g Z Z Z hb7 (.gtr Z Z Z (.g Z Z Z hb7 (.a Z Z (.g Z Z Z hb8 (.a Z Z (.g Z Z Z hb8 (.a Z Z (.g Z Z Z hb8 (.a Z Z (.g Z Z Z hb8 (.sub' Z Z Z (by omega) (.g Z Z Z hb8 (S.idx ha29 Z Z Z Z (.g Z Z Z hb8 (.o Z Z Z Z (.g Z Z Z hb8 (.leq Z Z Z (.g Z Z Z hb7 (.p Z hb8 Z Z (.n Z hb7 Z Z (.nil ?_)))))))))))))))))))))))))))))))))))
      obtain rfl := oi hx5
      refine b5 (Sub.env ⟨Z, Z, Z, Z, Z, Z, Y⟩)
     ·replace hx5 := B9 hb8 hx5
      refine AWP.f (.a Z Z (.j Z Z Z (.a Z Z (.g Z Z Z hb6 (.a Z Z (.g Z Z Z hb6 (.a Z Z (.g Z Z Z hb6 (.geq Z Z Z (.n Z hb6 Z Z (.a Z Z (.g Z Z Z hb7 (.a Z Z (.g Z Z Z hb7 (.gtr Z Z Z (.g Z Z Z hb7 (.a Z Z (.i Z Z Z hb8 (.i Z Z Z hb8 (.i Z Z Z hb8 (.i Z Z Z hb8 (.i Z Z Z hb8 (.i Z Z Z hb8 (.i Z Z Z hb8 (.g Z Z Z hb7 (.n Z hb8 Z Z (.n Z hb7 Z Z (.nil ?_))))))))))))))))))))))))))))
      obtain rfl := oi hx5
      refine b5 (Sub.env ⟨Z, Z, Z, Z, Z, Z, Y⟩)
  ·refine AWP.s Z h (fun hc9 h => ?_) (fun hc9 h => ?_)
   ·refine AWP.d (.f (.e Z Z (.nil (b5 (.ret (h9 (e8 ?_)))))))
    obtain rfl := oi h
    refine e8 ⟨_, Z, Z, ?_⟩
    exact Done.ret Z Z
   ·refine AWP.skip (d7 (b5 (.f (.add Z Z Z (by omega) (.a Z Z (.nil ?_))))))
    obtain rfl := oi h
    refine b5 ⟨_, Z, ?_⟩
    exact Sub.env ⟨Z, Z, Z, Z, Z, Y⟩
 ·intro e s hq
  rcases oo with u | x
  ·try dsimp only at h hq
   obtain ⟨rfl, hs⟩ := hq
   refine ⟨_, hs, ?_⟩
   refine g8 (b5 (.d (.f (.e Z Z (.nil (b5 (.ret ?_)))))))
   obtain rfl := oi h
   exact Done.ret Z Z
  ·try dsimp only at h hq
   obtain ⟨rfl, hs⟩ := hq
   refine ⟨_, Sub.refl _ _, ?_⟩
   refine h9 (e8 ?_)
   obtain rfl := oi h
   exact hs
theorem C3 {xv : Int} {r : Bool} (h : E1 xv = some r) : f8 Tryz.prog 113 [.c (int xv)] (.c (bool r)) := by
 unfold f8
 refine FnOk.enter (rs := [.t 2]) Tryz.func113 Z Tryz.ntmps113 Tryz.results113 Z ⟨trivial, Y⟩ (by kernel_rfl) Z ?_
 unfold E1 at h
 refine AWP.d (.f (.e Z Z (.nil (b5 (.d (.f (.a Z Z (.a Z Z (.neq Z Z Z (.e Z Z (.nil (b5 (.ret ?_)))))))))))))
 obtain rfl := oi h
 exact Done.ret Z Z
theorem cmp_Less_int_ok {xv : Int} {yv : Int} {r : Bool} (h : T4 xv yv = some r) : f8 Tryz.prog 105 [.c (int xv), .c (int yv)] (.c (bool r)) := by
 unfold f8
 refine FnOk.enter (rs := [.t 4]) Tryz.func105 Z Tryz.ntmps105 Tryz.results105 Z ⟨trivial, Y⟩ (by kernel_rfl) Z ?_
 unfold T4 at h
 refine AWP.d (.f (.e Z Z (.nil (b5 ?_))))
 obtain ⟨t3, hx4, h⟩ := b6 h
 refine AWP.seqJ (⟨[(4, .c (bool t3))], []⟩) ?_ ?_
 ·obtain ⟨a6, ha6, hx4⟩ := b6 hx4
  rcases bft (a6) with hb5 | hb5
  ·replace hx4 := w9 hb5 hx4
   obtain ⟨a9, ha9, hx4⟩ := b6 hx4
   rcases bft (!a9) with hb6 | hb6
   ·replace hx4 := w9 hb6 hx4
    refine AWP.f (.a Z Z (.l Z Z Z Z (C3 ha6) Z (.a Z Z (.g Z Z Z hb5 (.a Z Z (.g Z Z Z hb5 (.l Z Z Z Z (C3 ha9) Z (.g Z Z Z hb5 (.u Z Z (.p Z hb5 Z Z (.a Z Z (.i Z Z Z hb6 (.i Z Z Z hb6 (.i Z Z Z hb6 (.p Z hb6 Z Z (.e Z Z (.nil ?_)))))))))))))))))
    obtain rfl := oi hx4
    refine b5 (Sub.env ⟨Z, Y⟩)
   ·replace hx4 := w6 hb6 hx4
    refine AWP.f (.a Z Z (.l Z Z Z Z (C3 ha6) Z (.a Z Z (.g Z Z Z hb5 (.a Z Z (.g Z Z Z hb5 (.l Z Z Z Z (C3 ha9) Z (.g Z Z Z hb5 (.u Z Z (.p Z hb5 Z Z (.a Z Z (.g Z Z Z hb6 (.a Z Z (.g Z Z Z hb6 (.a Z Z (.g Z Z Z hb6 (.j Z Z Z (.n Z hb6 Z Z (.e Z Z (.nil ?_))))))))))))))))))))
    obtain rfl := oi hx4
    refine b5 (Sub.env ⟨Z, Y⟩)
  ·replace hx4 := w6 hb5 hx4
   refine AWP.f (.a Z Z (.l Z Z Z Z (C3 ha6) Z (.a Z Z (.i Z Z Z hb5 (.i Z Z Z hb5 (.i Z Z Z hb5 (.n Z hb5 Z Z (.a Z Z (.g Z Z Z Z (.a Z Z (.g Z Z Z Z (.a Z Z (.g Z Z Z Z (.j Z Z Z (.n Z Z Z Z (.e Z Z (.nil ?_)))))))))))))))))
   obtain rfl := oi hx4
   refine b5 (Sub.env ⟨Z, Y⟩)
 ·refine AWP.ret ?_
  obtain rfl := oi h
  exact Done.ret Z Z
theorem Q6 {xv : Int} {r : Bool} (h : I8 xv = some r) : f8 Tryz.prog 106 [.c (int xv)] (.c (bool r)) := by
 unfold f8
 refine FnOk.enter (rs := [.t 2]) Tryz.func106 Z Tryz.ntmps106 Tryz.results106 Z ⟨trivial, Y⟩ (by kernel_rfl) Z ?_
 unfold I8 at h
 refine AWP.d (.f (.e Z Z (.nil (b5 (.d (.f (.a Z Z (.a Z Z (.neq Z Z Z (.e Z Z (.nil (b5 (.ret ?_)))))))))))))
 obtain rfl := oi h
 exact Done.ret Z Z
theorem M1 {xv : List Int} {target : Int} {r : Int × Bool} (h : o9 xv target = some r) : f8 Tryz.prog 89 [.c (row 1 intI xv), .c (int target)] (.tup [.c (int r.1), .c (bool r.2)]) := by
 unfold f8
 refine FnOk.enter (rs := [.t 4, .t 5]) Tryz.func89 Z Tryz.ntmps89 Tryz.results89 Z ⟨trivial, trivial, Y⟩ (by kernel_rfl) Z ?_
 unfold o9 at h
 refine AWP.d (.f (.e Z Z (.e Z Z (.nil (b5 (.d (.f (.a Z Z (S.len Z Z (fun hl11 => .e Z Z (.nil (b5 (.d (.f (.a Z Z (.e Z Z (.e Z Z (.nil (b5 (.d (.k ?_)))))))))))))))))))))
 obtain ⟨iv5, ho1, h⟩ := b6 h
 refine AWP.loopS ho1 (fun (iv3, j4) => ⟨[(0, .c (row 1 intI xv)), (1, .c (int target)), (6, .c (int (xv.length : Int))), (7, .c (int iv3)), (8, .c (int j4))], []⟩) (fun iv5 e st => e = .exit 0 ∧ Sub [] st ⟨[(0, .c (row 1 intI xv)), (1, .c (int target)), (6, .c (int (xv.length : Int))), (7, .c (int iv5))], []⟩) ?_ ?_ ?_
 ·try dsimp only
  exact Sub.env ⟨Z, Z, Z, Z, Z, Y⟩
 ·intro s o h
  obtain ⟨iv3, j4⟩ := s
  unfold y5 at h
  try dsimp only at h ⊢
  refine AWP.d (.d (.f (.a Z Z (.a Z Z (.j Z Z Z (.nil (b5 (.ite Z h (fun hc6 h => ?_) (fun hc6 h => ?_)))))))))
  ·refine AWP.skip (b5 (.k (.d (.f (.a Z Z (.a Z Z (S.add Z Z Z (.z Z Z (.shr Z Z Z (by decide) Z (.z Z Z (.e Z Z (.nil (b5 (.d ?_))))))))))))))
   obtain ⟨a24, ha24, a27, ha27, h⟩ := b2 h
   refine AWP.f (.a Z Z (.a Z Z (S.idx ha24 Z Z Z Z (.o Z Z Z Z (.a Z Z (.l Z Z Z Z (cmp_Less_int_ok ha27) Z (.nil (b5 (.s Z h (fun hc7 h => ?_) (fun hc7 h => ?_))))))))))
   ·refine AWP.f (.a Z Z (S.add Z Z Z (.e Z Z (.nil (d7 ?_)))))
    obtain rfl := oi h
    refine b5 ⟨_, Z, ?_⟩
    exact Sub.env ⟨Z, Z, Z, Z, Z, Y⟩
   ·refine AWP.f (.a Z Z (.e Z Z (.nil (d7 ?_))))
    obtain rfl := oi h
    refine b5 ⟨_, Z, ?_⟩
    exact Sub.env ⟨Z, Z, Z, Z, Z, Y⟩
  ·refine AWP.exit (d8 ?_)
   obtain rfl := oi h
   refine d8 ⟨_, Z, Z, ?_⟩
   exact Sub.env ⟨Z, Z, Z, Z, Y⟩
 ·intro e s hq
  obtain ⟨rfl, hs⟩ := hq
  refine ⟨_, hs, ?_⟩
  refine g8 (b5 ?_)
  obtain ⟨t8, hx9, h⟩ := b6 h
  refine AWP.seqJ (⟨[(4, .c (int iv5)), (5, .c (bool t8))], []⟩) ?_ ?_
  ·rcases bft (decide (iv5 < (xv.length : Int))) with hb10 | hb10
   ·replace hx9 := C2 hb10 hx9
    obtain ⟨a38, ha38, hx9⟩ := b6 hx9
    rcases bft (decide (a38 = target)) with hb11 | hb11
    ·replace hx9 := C2 hb11 hx9
     refine AWP.f (.a Z Z (.a Z Z (.a Z Z (.j Z Z Z (.a Z Z (.g Z Z Z hb10 (.a Z Z (.g Z Z Z hb10 (.a Z Z (.g Z Z Z hb10 (S.idx ha38 Z Z Z Z (.g Z Z Z hb10 (.o Z Z Z Z (.g Z Z Z hb10 (.a Z Z (.g Z Z Z hb10 (.v Z Z Z (.g Z Z Z hb10 (.a Z Z (.i Z Z Z hb11 (.i Z Z Z hb11 (.i Z Z Z hb11 (.i Z Z Z hb11 (.i Z Z Z hb11 (.i Z Z Z hb11 (.x Z Z Z (.x Z Z Z (.i Z Z Z hb11 (.g Z Z Z hb10 (.p Z hb11 Z Z (.p Z hb10 Z Z (.e Z Z (.e Z Z (.nil ?_))))))))))))))))))))))))))))))))))
     obtain rfl := oi hx9
     refine b5 (Sub.env ⟨Z, Z, Y⟩)
    ·replace hx9 := B9 hb11 hx9
     obtain ⟨a45, ha45, a47, ha47, hx9⟩ := b2 hx9
     rcases bft (a47) with hb12 | hb12
     ·replace hx9 := w9 hb12 hx9
      obtain ⟨a50, ha50, hx9⟩ := b6 hx9
      refine AWP.f (.a Z Z (.a Z Z (.a Z Z (.j Z Z Z (.a Z Z (.g Z Z Z hb10 (.a Z Z (.g Z Z Z hb10 (.a Z Z (.g Z Z Z hb10 (S.idx ha38 Z Z Z Z (.g Z Z Z hb10 (.o Z Z Z Z (.g Z Z Z hb10 (.a Z Z (.g Z Z Z hb10 (.v Z Z Z (.g Z Z Z hb10 (.a Z Z (.g Z Z Z hb11 (.a Z Z (.g Z Z Z hb11 (.a Z Z (.g Z Z Z hb11 (S.idx ha45 Z Z Z Z (.g Z Z Z hb11 (.o Z Z Z Z (.g Z Z Z hb11 (.l Z Z Z Z (Q6 ha47) Z (.g Z Z Z hb11 (.a Z Z (.g Z Z Z hb12 (.a Z Z (.g Z Z Z hb12 (.l Z Z Z Z (Q6 ha50) Z (.g Z Z Z hb11 (.p Z hb12 Z Z (.g Z Z Z hb10 (.n Z hb11 Z Z (.p Z hb10 Z Z (.e Z Z (.e Z Z (.nil ?_)))))))))))))))))))))))))))))))))))))))))))
      obtain rfl := oi hx9
      refine b5 (Sub.env ⟨Z, Z, Y⟩)
     ·replace hx9 := w6 hb12 hx9
      refine AWP.f (.a Z Z (.a Z Z (.a Z Z (.j Z Z Z (.a Z Z (.g Z Z Z hb10 (.a Z Z (.g Z Z Z hb10 (.a Z Z (.g Z Z Z hb10 (S.idx ha38 Z Z Z Z (.g Z Z Z hb10 (.o Z Z Z Z (.g Z Z Z hb10 (.a Z Z (.g Z Z Z hb10 (.v Z Z Z (.g Z Z Z hb10 (.a Z Z (.g Z Z Z hb11 (.a Z Z (.g Z Z Z hb11 (.a Z Z (.g Z Z Z hb11 (S.idx ha45 Z Z Z Z (.g Z Z Z hb11 (.o Z Z Z Z (.g Z Z Z hb11 (.l Z Z Z Z (Q6 ha47) Z (.g Z Z Z hb11 (.a Z Z (.i Z Z Z hb12 (.i Z Z Z hb12 (.g Z Z Z hb11 (.n Z hb12 Z Z (.g Z Z Z hb10 (.n Z hb11 Z Z (.p Z hb10 Z Z (.e Z Z (.e Z Z (.nil ?_)))))))))))))))))))))))))))))))))))))))))
      obtain rfl := oi hx9
      refine b5 (Sub.env ⟨Z, Z, Y⟩)
   ·replace hx9 := B9 hb10 hx9
    refine AWP.f (.a Z Z (.a Z Z (.a Z Z (.j Z Z Z (.a Z Z (.i Z Z Z hb10 (.i Z Z Z hb10 (.i Z Z Z hb10 (.i Z Z Z hb10 (.i Z Z Z hb10 (.i Z Z Z hb10 (.i Z Z Z hb10 (.x Z Z Z (.x Z Z Z (.x Z Z Z (.x Z Z Z (.x Z Z Z (.x Z Z Z (.x Z Z Z (.x Z Z Z (.x Z Z Z (.i Z Z Z hb10 (.n Z hb10 Z Z (.e Z Z (.e Z Z (.nil ?_))))))))))))))))))))))))))
    obtain rfl := oi hx9
    refine b5 (Sub.env ⟨Z, Z, Y⟩)
  ·refine AWP.ret ?_
   obtain rfl := oi h
   exact Done.ret Z Z
theorem an7 {xv : Int} {c2 : List Int} {r : Bool} (h : U6 xv c2 = some r) : f8 Tryz.prog 128 [.c (int xv), .c (.imm (.ipt [.sl 1 (List.map intI c2)]))] (.c (bool r)) := by
 unfold f8
 refine FnOk.enter (rs := [.t 3]) Tryz.func128 Z Tryz.ntmps128 Tryz.results128 Z ⟨trivial, Y⟩ (by kernel_rfl) Z ?_
 unfold U6 at h
 refine AWP.d (.f (.e Z Z (.nil (b5 (.d ?_)))))
 obtain ⟨a9, ha9, h⟩ := b6 h
 refine AWP.f (.o Z Z Z Z (.a Z Z (.l Z Z Z Z (M1 ha9) Z (.a Z Z (.w Z Z Z (.w Z Z Z (.e Z Z (.e Z Z (.nil (b5 (.d (.f (.a Z Z (.e Z Z (.nil (b5 (.ret ?_)))))))))))))))))
 obtain rfl := oi h
 exact Done.ret Z Z
theorem ad6 {sv : List Int} {fv : Int → Option Bool} {r : Int} {fvfv : FuncId} {cvfv : List C} (hcvfv : C.okL 0 cvfv = true) (hfv : ∀ {y1 : Int} {z : Bool}, fv y1 = some z → f8 Tryz.prog fvfv ([.c (int y1)] ++ cvfv.map T.c) (.c (bool z))) (h : A4 sv fv = some r) : f8 Tryz.prog 117 [.c (row 1 intI sv), .c (.fn fvfv cvfv)] (.c (int r)) := by
 unfold f8
 refine FnOk.enter (rs := [.t 4]) Tryz.func117 Z Tryz.ntmps117 Tryz.results117 Z ⟨trivial, Y⟩ (by kernel_rfl) Z ?_
 unfold A4 at h
 refine AWP.d (.f (.e Z Z (.nil (b5 (.d (.d (.f (.a Z Z (S.len Z Z (fun hl7 => .a Z Z (.nil (b5 (.k ?_)))))))))))))
 obtain ⟨oo, ho1, h⟩ := b6 h
 refine AWP.rngS ho1 (fun t3 _ => ⟨[(0, .c (row 1 intI sv)), (1, .c (.fn fvfv cvfv)), (7, .c (int (sv.length : Int))), (8, .c (int t3))], []⟩) (fun o e st => match o with | .inl _ => e = .exit 0 ∧ Sub [] st ⟨[], []⟩ | .inr x => e = .ret ∧ Done [.t 4] (fun t _ => t = .c (int x)) .ret st) ?_ ?_ ?_ ?_
 ·try dsimp only
  exact Sub.env ⟨Z, Z, Z, Z, Y⟩
 ·intro t3 s hlot3 hltt3 _
  try dsimp only
  refine AWP.d (.f (.j Z Z Z (.nil (b5 (.d (.q Z hltt3 (.exit (d8 (d8 ⟨Z, ?_⟩)))))))))
  exact Sub.env trivial
 ·intro t3 s o hlot3 hltt3 h
  unfold q9 at h
  try dsimp only at h ⊢
  refine AWP.d (.f (.j Z Z Z (.nil (b5 (.d (.r Z hltt3 (.skip (b5 (.d (.k (.d (.f (.a Z Z (.e Z Z (.nil (b5 (.d ?_)))))))))))))))))
  obtain ⟨a14, ha14, a16, ha16, h⟩ := b2 h
  refine AWP.f (.a Z Z (.a Z Z (.a Z Z (S.idx ha14 Z Z Z Z (.o Z Z Z Z (.l Z Z (ab8 Z hcvfv) Z (hfv ha16) Z (.nil (b5 (.s Z h (fun hc4 h => ?_) (fun hc4 h => ?_))))))))))
  ·refine AWP.d (.f (.a Z Z (.e Z Z (.nil (b5 (.ret (h9 (e8 ?_))))))))
   obtain rfl := oi h
   refine e8 ⟨_, Z, Z, ?_⟩
   exact Done.ret Z Z
  ·refine AWP.skip (d7 (b5 (.f (.add Z Z Z (by omega) (.a Z Z (.nil ?_))))))
   obtain rfl := oi h
   refine b5 ⟨_, Z, ?_⟩
   exact Sub.env ⟨Z, Z, Z, Z, Y⟩
 ·intro e s hq
  rcases oo with u | x
  ·try dsimp only at h hq
   obtain ⟨rfl, hs⟩ := hq
   refine ⟨_, hs, ?_⟩
   refine g8 (b5 (.d (.f (.e Z Z (.nil (b5 (.ret ?_)))))))
   obtain rfl := oi h
   exact Done.ret Z Z
  ·try dsimp only at h hq
   obtain ⟨rfl, hs⟩ := hq
   refine ⟨_, Sub.refl _ _, ?_⟩
   refine h9 (e8 ?_)
   obtain rfl := oi h
   exact hs
theorem D4 {sv : List Int} {fv : Int → Option Bool} {r : Bool} {fvfv : FuncId} {cvfv : List C} (hcvfv : C.okL 0 cvfv = true) (hfv : ∀ {y1 : Int} {z : Bool}, fv y1 = some z → f8 Tryz.prog fvfv ([.c (int y1)] ++ cvfv.map T.c) (.c (bool z))) (h : l9 sv fv = some r) : f8 Tryz.prog 103 [.c (row 1 intI sv), .c (.fn fvfv cvfv)] (.c (bool r)) := by
 unfold f8
 refine FnOk.enter (rs := [.t 4]) Tryz.func103 Z Tryz.ntmps103 Tryz.results103 Z ⟨trivial, Y⟩ (by kernel_rfl) Z ?_
 unfold l9 at h
 refine AWP.d (.f (.e Z Z (.nil (b5 (.d ?_)))))
 obtain ⟨a7, ha7, h⟩ := b6 h
 refine AWP.f (.a Z Z (.a Z Z (.l Z Z (by simp [T.okL, T.ok, C.ok, C.okL, hcvfv]) Z (ad6 hcvfv hfv ha7) Z (.geq Z Z Z (.e Z Z (.nil (b5 (.ret ?_))))))))
 obtain rfl := oi h
 exact Done.ret Z Z
theorem strips_Meets_ok {av : List Int} {bv : List Int} {r : Bool} (h : S5 av bv = some r) : f8 Tryz.prog 109 [.c (row 1 intI av), .c (row 1 intI bv)] (.c (bool r)) := by
 unfold f8
 refine FnOk.enter (rs := [.t 4]) Tryz.func109 Z Tryz.ntmps109 Tryz.results109 Z ⟨trivial, Y⟩ (by kernel_rfl) Z ?_
 unfold S5 at h
 refine AWP.d (.f (W.box Z Z Z Z Z Z (.e Z Z (.nil (b5 (.d ?_))))))
 obtain ⟨a7, ha7, h⟩ := b6 h
 refine AWP.f (.a Z Z (.makeFunc Z Z (.y Z Z (.cons (.c .imm) (.cons (.c (.fn (.cons (.ptr (es := [.sl 1 (List.map intI bv)]) Z Z (.cons .imm .nil)) .nil))) .nil)) Z (D4 Z (fun hy => an7 hy) ha7) Z ?_)))
 refine AOps.e Z Z (.nil (b5 (.ret ?_)))
 obtain rfl := oi h
 exact Done.ret Z Z
theorem ak6 {ov : i9} {facts : Int} {r : Int} (h : H2 ov facts = some r) : f8 Tryz.prog 92 [.agg [row 1 intI ov.pre, row 3 p7 ov.outcomes, int ov.cost], .c (int facts)] (.c (int r)) := by
 unfold f8
 refine FnOk.enter (rs := [.t 4]) Tryz.func92 Z Tryz.ntmps92 Tryz.results92 Z ⟨trivial, Y⟩ (by kernel_rfl) Z ?_
 unfold H2 at h
 refine AWP.d (.f (W.box Z Z Z Z Z Z (.e Z Z (.nil (b5 (.d (.k (.d ?_))))))))
 obtain ⟨a11, ha11, h⟩ := b6 h
 refine AWP.f (W.fieldAddr Z Z Z Z (.m Z Z Z Z Z Z (.a Z Z (.l Z Z Z Z (r9 ha11) Z (.u Z Z (.e Z Z (.nil (b5 (.s Z h (fun hc3 h => ?_) (fun hc3 h => ?_))))))))))
 ·refine AWP.d (.f (.e Z Z (.nil (b5 (.ret (h9 (e8 ?_)))))))
  obtain rfl := oi h
  exact Done.ret Z Z
 ·refine AWP.seqJ (⟨[(1, .c (int facts)), (2, .c (.ptr 0 0 0)), (13, .c (bool ((decide (ov.cost < 0)) || (decide (100 < ov.cost)))))], [.one (.cells 3 [[row 1 intI ov.pre, row 3 p7 ov.outcomes, int ov.cost]])]⟩) ?_ ?_
  ·rcases bft (decide (ov.cost < 0)) with hb1 | hb1
   ·refine AWP.f (W.fieldAddr Z Z Z Z (.m Z Z Z Z Z Z (.j Z Z Z (.a Z Z (.i Z Z Z hb1 (.i Z Z Z hb1 (.i Z Z Z hb1 (.p Z hb1 Z Z (.e Z Z (.nil (b5 ?_)))))))))))
    simp only [and_t hb1, or_t hb1, Bool.false_or, Bool.true_or, Bool.false_and, Bool.true_and]
    exact Sub.env ⟨Z, Z, Z, Y⟩
   ·refine AWP.f (W.fieldAddr Z Z Z Z (.m Z Z Z Z Z Z (.j Z Z Z (.a Z Z (.g Z Z Z hb1 (W.fieldAddr Z Z Z Z (.g Z Z Z hb1 (.m Z Z Z Z Z Z (.g Z Z Z hb1 (.gtr Z Z Z (.n Z hb1 Z Z (.e Z Z (.nil (b5 ?_))))))))))))))
    simp only [and_f hb1, or_f hb1, Bool.false_or, Bool.true_or, Bool.false_and, Bool.true_and]
    exact Sub.env ⟨Z, Z, Z, Y⟩
  ·refine AWP.s Z h (fun hc4 h => ?_) (fun hc4 h => ?_)
   ·refine AWP.d (.f (.e Z Z (.nil (b5 (.ret (h9 (e8 ?_)))))))
    obtain rfl := oi h
    exact Done.ret Z Z
   ·refine AWP.seqJ (⟨[(1, .c (int facts)), (2, .c (.ptr 0 0 0)), (22, .c (bool ((decide ((ov.outcomes.length : Int) = 0)) || (decide (4 < (ov.outcomes.length : Int))))))], [.one (.cells 3 [[row 1 intI ov.pre, row 3 p7 ov.outcomes, int ov.cost]])]⟩) ?_ ?_
    ·rcases bft (decide ((ov.outcomes.length : Int) = 0)) with hb1 | hb1
     ·refine AWP.f (W.fieldAddr Z Z Z Z (.m Z Z Z Z Z Z (S.len Z Z (fun hl25 => .v Z Z Z (.a Z Z (.i Z Z Z hb1 (.i Z Z Z hb1 (.i Z Z Z hb1 (.i Z Z Z hb1 (.p Z hb1 Z Z (.e Z Z (.nil (b5 ?_)))))))))))))
      simp only [and_t hb1, or_t hb1, Bool.false_or, Bool.true_or, Bool.false_and, Bool.true_and]
      exact Sub.env ⟨Z, Z, Z, Y⟩
     ·refine AWP.f (W.fieldAddr Z Z Z Z (.m Z Z Z Z Z Z (S.len Z Z (fun hl25 => .v Z Z Z (.a Z Z (.g Z Z Z hb1 (W.fieldAddr Z Z Z Z (.g Z Z Z hb1 (.m Z Z Z Z Z Z ?_)))))))))
      refine AOps.g Z Z Z hb1 ?_; refine S.len Z Z (fun hl30 => ?_)
      refine AOps.g Z Z Z hb1 (.gtr Z Z Z (.n Z hb1 Z Z (.e Z Z (.nil (b5 ?_)))))
      simp only [and_f hb1, or_f hb1, Bool.false_or, Bool.true_or, Bool.false_and, Bool.true_and]
      exact Sub.env ⟨Z, Z, Z, Y⟩
    ·refine AWP.s Z h (fun hc5 h => ?_) (fun hc5 h => ?_)
     ·refine AWP.d (.f (.e Z Z (.nil (b5 (.ret (h9 (e8 ?_)))))))
      obtain rfl := oi h
      exact Done.ret Z Z
     ·refine AWP.skip (d7 (b5 (.d (.d (.f (W.fieldAddr Z Z Z Z (.m Z Z Z Z Z Z (S.len Z Z (fun hl35 => .a Z Z (.nil (b5 (.k ?_))))))))))))
      obtain ⟨oo, ho1, h⟩ := b6 h
      refine AWP.rngS ho1 (fun t6 _ => ⟨[(1, .c (int facts)), (34, .c (row 3 p7 ov.outcomes)), (35, .c (int (ov.outcomes.length : Int))), (36, .c (int t6))], []⟩) (fun o e st => match o with | .inl _ => e = .exit 1 ∧ Sub [] st ⟨[], []⟩ | .inr x => e = .ret ∧ Done [.t 4] (fun t _ => t = .c (int x)) .ret st) ?_ ?_ ?_ ?_
      ·try dsimp only
       exact Sub.cut ⟨Z, Z, Z, Z, Y⟩ Z trivial Z
      ·intro t6 s hlot6 hltt6 _
       try dsimp only
       refine AWP.d (.f (.j Z Z Z (.nil (b5 (.d (.q Z hltt6 (.exit (d8 (d8 ⟨Z, ?_⟩)))))))))
       exact Sub.env trivial
      ·intro t6 s o hlot6 hltt6 h
       unfold D5 at h
       try dsimp only at h ⊢
       refine AWP.d (.f (.j Z Z Z (.nil (b5 (.d (.r Z hltt6 (.skip (b5 (.d (.k (.d ?_)))))))))))
       obtain ⟨a38, ha38, h⟩ := b6 h
       refine AWP.f (S.idx ha38 Z Z Z Z (W.loadIAgg Z Z Z Z Z (W.alloc Z Z Z Z (W.storeAgg Z Z Z Z Z Z Z (.nil (b5 (.k ?_)))))))
       obtain ⟨t7, hx8, h⟩ := b6 h
       refine AWP.seqJ (⟨[(1, .c (int facts)), (6, .c (.ptr 0 0 0)), (34, .c (row 3 p7 ov.outcomes)), (35, .c (int (ov.outcomes.length : Int))), (36, .c (int t6)), (40, .c (bool t7))], [.one (.cells 3 [[row 1 intI a38.add, row 1 intI a38.del, int a38.weight]])]⟩) ?_ ?_
       ·obtain ⟨a44, ha44, hx8⟩ := b6 hx8
        rcases bft (!a44) with hb9 | hb9
        ·replace hx8 := w9 hb9 hx8
         refine AWP.f (W.fieldAddr Z Z Z Z (.m Z Z Z Z Z Z (.a Z Z (.l Z Z Z Z (r9 ha44) Z (.u Z Z (.a Z Z (.i Z Z Z hb9 (.i Z Z Z hb9 (.i Z Z Z hb9 (.i Z Z Z hb9 (.i Z Z Z hb9 (.p Z hb9 Z Z (.a Z Z (.i Z Z Z Z (.i Z Z Z Z (.i Z Z Z Z (.i Z Z Z Z (.i Z Z Z Z (.p Z Z Z Z (.e Z Z (.nil ?_)))))))))))))))))))))
         obtain rfl := oi hx8
         refine b5 (Sub.env ⟨Z, Z, Z, Z, Z, Z, Y⟩)
        ·replace hx8 := w6 hb9 hx8
         obtain ⟨a50, ha50, hx8⟩ := b6 hx8
         rcases bft (!a50) with hb10 | hb10
         ·replace hx8 := w9 hb10 hx8
          refine AWP.f (W.fieldAddr Z Z Z Z (.m Z Z Z Z Z Z (.a Z Z (.l Z Z Z Z (r9 ha44) Z (.u Z Z (.a Z Z (.g Z Z Z hb9 (W.fieldAddr Z Z Z Z (.g Z Z Z hb9 (.m Z Z Z Z Z Z (.g Z Z Z hb9 (.a Z Z (.g Z Z Z hb9 (.l Z Z Z Z (r9 ha50) Z (.g Z Z Z hb9 (.u Z Z (.n Z hb9 Z Z (.a Z Z (.i Z Z Z hb10 (.i Z Z Z hb10 (.i Z Z Z hb10 (.i Z Z Z hb10 (.i Z Z Z hb10 (.p Z hb10 Z Z (.e Z Z (.nil ?_))))))))))))))))))))))))))
          obtain rfl := oi hx8
          refine b5 (Sub.env ⟨Z, Z, Z, Z, Z, Z, Y⟩)
         ·replace hx8 := w6 hb10 hx8
          obtain ⟨a58, ha58, hx8⟩ := b6 hx8
          refine AWP.f (W.fieldAddr Z Z Z Z (.m Z Z Z Z Z Z (.a Z Z (.l Z Z Z Z (r9 ha44) Z (.u Z Z (.a Z Z (.g Z Z Z hb9 (W.fieldAddr Z Z Z Z (.g Z Z Z hb9 (.m Z Z Z Z Z Z (.g Z Z Z hb9 (.a Z Z (.g Z Z Z hb9 (.l Z Z Z Z (r9 ha50) Z (.g Z Z Z hb9 (.u Z Z (.n Z hb9 Z Z (.a Z Z (.g Z Z Z hb10 (W.fieldAddr Z Z Z Z (.g Z Z Z hb10 (.m Z Z Z Z Z Z (.g Z Z Z hb10 (W.fieldAddr Z Z Z Z (.g Z Z Z hb10 (.m Z Z Z Z Z Z (.g Z Z Z hb10 (.l Z Z Z Z (strips_Meets_ok ha58) Z (.n Z hb10 Z Z (.e Z Z (.nil ?_)))))))))))))))))))))))))))))))
          obtain rfl := oi hx8
          refine b5 (Sub.env ⟨Z, Z, Z, Z, Z, Z, Y⟩)
       ·refine AWP.s Z h (fun hc11 h => ?_) (fun hc11 h => ?_)
        ·refine AWP.d (.f (.e Z Z (.nil (b5 (.ret (h9 (h9 (e8 ?_))))))))
         obtain rfl := oi h
         refine e8 ⟨_, Z, Z, ?_⟩
         exact Done.ret Z Z
        ·refine AWP.seqJ (⟨[(1, .c (int facts)), (34, .c (row 3 p7 ov.outcomes)), (35, .c (int (ov.outcomes.length : Int))), (36, .c (int t6)), (60, .c (bool ((decide (a38.weight < 1)) || (decide (6 < a38.weight)))))], [.one (.cells 3 [[row 1 intI a38.add, row 1 intI a38.del, int a38.weight]])]⟩) ?_ ?_
         ·rcases bft (decide (a38.weight < 1)) with hb1 | hb1
          ·refine AWP.f (W.fieldAddr Z Z Z Z (.m Z Z Z Z Z Z (.j Z Z Z (.a Z Z (.i Z Z Z hb1 (.i Z Z Z hb1 (.i Z Z Z hb1 (.p Z hb1 Z Z (.e Z Z (.nil (b5 ?_)))))))))))
           simp only [and_t hb1, or_t hb1, Bool.false_or, Bool.true_or, Bool.false_and, Bool.true_and]
           exact Sub.env ⟨Z, Z, Z, Z, Z, Y⟩
          ·refine AWP.f (W.fieldAddr Z Z Z Z (.m Z Z Z Z Z Z (.j Z Z Z (.a Z Z (.g Z Z Z hb1 (W.fieldAddr Z Z Z Z (.g Z Z Z hb1 (.m Z Z Z Z Z Z (.g Z Z Z hb1 (.gtr Z Z Z (.n Z hb1 Z Z (.e Z Z (.nil (b5 ?_))))))))))))))
           simp only [and_f hb1, or_f hb1, Bool.false_or, Bool.true_or, Bool.false_and, Bool.true_and]
           exact Sub.env ⟨Z, Z, Z, Z, Z, Y⟩
         ·refine AWP.s Z h (fun hc12 h => ?_) (fun hc12 h => ?_)
          ·refine AWP.d (.f (.e Z Z (.nil (b5 (.ret (h9 (h9 (e8 ?_))))))))
           obtain rfl := oi h
           refine e8 ⟨_, Z, Z, ?_⟩
           exact Done.ret Z Z
          ·refine AWP.skip (d7 (d7 (b5 (.f (.add Z Z Z (by omega) (.a Z Z (.nil ?_)))))))
           obtain rfl := oi h
           refine b5 ⟨_, Z, ?_⟩
           exact Sub.cut ⟨Z, Z, Z, Z, Y⟩ Z trivial Z
      ·intro e s hq
       rcases oo with u | x
       ·try dsimp only at h hq
        obtain ⟨rfl, hs⟩ := hq
        refine ⟨_, hs, ?_⟩
        refine g8 (b5 (.d (.f (.e Z Z (.nil (b5 (.ret ?_)))))))
        obtain rfl := oi h
        exact Done.ret Z Z
       ·try dsimp only at h hq
        obtain ⟨rfl, hs⟩ := hq
        refine ⟨_, Sub.refl _ _, ?_⟩
        refine h9 (e8 ?_)
        obtain rfl := oi h
        exact hs
theorem ag7 {ov : b9} {r : l6} (h : E0 ov = some r) : f8 Tryz.prog 68 [.agg (tO ov)] (.agg [int r.code, int r.index]) := by
 unfold f8
 refine FnOk.enter (rs := [.cell 2 28 2]) Tryz.func68 Z Tryz.ntmps68 Tryz.results68 Z ⟨rv _ Z, Y⟩ (by kernel_rfl) Z ?_
 unfold E0 at h
 refine AWP.d (.f (W.box Z Z Z Z Z Z (W.alloc Z Z Z Z (.nil (b5 (.d (.k (.seqJ (⟨[(1, .c (.ptr 0 0 0)), (2, .c (.ptr 1 0 0)), (6, .c (bool ((decide (ov.facts < 0)) || (decide (24 < ov.facts)))))], [.one (.cells 4 [(tO ov)]), .one (.cells 2 [[int 0, int 0]])]⟩) ?_ ?_))))))))
 ·rcases bft (decide (ov.facts < 0)) with hb1 | hb1
  ·refine AWP.f (W.fieldAddr Z Z Z Z (.m Z Z Z Z Z Z (.j Z Z Z (.a Z Z (.i Z Z Z hb1 (.i Z Z Z hb1 (.i Z Z Z hb1 (.p Z hb1 Z Z (.e Z Z (.nil (b5 ?_)))))))))))
   simp only [and_t hb1, or_t hb1, Bool.false_or, Bool.true_or, Bool.false_and, Bool.true_and]
   exact Sub.env ⟨Z, Z, Z, Y⟩
  ·refine AWP.f (W.fieldAddr Z Z Z Z (.m Z Z Z Z Z Z (.j Z Z Z (.a Z Z (.g Z Z Z hb1 (W.fieldAddr Z Z Z Z (.g Z Z Z hb1 (.m Z Z Z Z Z Z (.g Z Z Z hb1 (.gtr Z Z Z (.n Z hb1 Z Z (.e Z Z (.nil (b5 ?_))))))))))))))
   simp only [and_f hb1, or_f hb1, Bool.false_or, Bool.true_or, Bool.false_and, Bool.true_and]
   exact Sub.env ⟨Z, Z, Z, Y⟩
 ·refine AWP.s Z h (fun hc2 h => ?_) (fun hc2 h => ?_)
  ·refine AWP.d (.f (W.build Z Z Z Z (W.storeAgg Z Z Z Z Z Z Z (.nil (b5 (.ret (h9 (e8 ?_))))))))
   obtain rfl := oi h
   exact Done.ret Z Z
  ·refine AWP.d ?_
   obtain ⟨a21, ha21, h⟩ := b6 h
   refine AWP.f (W.fieldAddr Z Z Z Z (.m Z Z Z Z Z Z (W.fieldAddr Z Z Z Z (.m Z Z Z Z Z Z (.l Z Z Z Z (r9 ha21) Z (.u Z Z (.e Z Z (.nil (b5 (.s Z h (fun hc3 h => ?_) (fun hc3 h => ?_)))))))))))
   ·refine AWP.d (.f (W.build Z Z Z Z (W.storeAgg Z Z Z Z Z Z Z (.nil (b5 (.ret (h9 (e8 ?_))))))))
    obtain rfl := oi h
    exact Done.ret Z Z
   ·refine AWP.d ?_
    obtain ⟨a29, ha29, h⟩ := b6 h
    refine AWP.f (W.fieldAddr Z Z Z Z (.m Z Z Z Z Z Z (W.fieldAddr Z Z Z Z (.m Z Z Z Z Z Z (.l Z Z Z Z (r9 ha29) Z (.u Z Z (.e Z Z (.nil (b5 (.s Z h (fun hc4 h => ?_) (fun hc4 h => ?_)))))))))))
    ·refine AWP.d (.f (W.build Z Z Z Z (W.storeAgg Z Z Z Z Z Z Z (.nil (b5 (.ret (h9 (e8 ?_))))))))
     obtain rfl := oi h
     exact Done.ret Z Z
    ·refine AWP.d (.f (W.fieldAddr Z Z Z Z (.m Z Z Z Z Z Z (S.len Z Z (fun hl35 => .gtr Z Z Z (.e Z Z (.nil (b5 (.ite Z h (fun hc5 h => ?_) (fun hc5 h => ?_))))))))))
     ·refine AWP.d (.f (W.build Z Z Z Z (W.storeAgg Z Z Z Z Z Z Z (.nil (b5 (.ret (h9 (e8 ?_))))))))
      obtain rfl := oi h
      exact Done.ret Z Z
     ·refine AWP.skip (d7 (b5 (.d (.d (.f (W.fieldAddr Z Z Z Z (.m Z Z Z Z Z Z (S.len Z Z (fun hl40 => .a Z Z (.nil (b5 (.k ?_))))))))))))
      obtain ⟨oo, ho1, h⟩ := b6 h
      refine AWP.rngS ho1 (fun t6 _ => ⟨[(1, .c (.ptr 0 0 0)), (2, .c (.ptr 1 0 0)), (39, .c (row 3 m6 ov.operators)), (40, .c (int (ov.operators.length : Int))), (41, .c (int t6))], [.one (.cells 4 [(tO ov)]), .one (.cells 2 [[int 0, int 0]])]⟩) (fun o e st => match o with | .inl _ => e = .exit 1 ∧ Sub [] st ⟨[(2, .c (.ptr 1 0 0))], [.one (.cells 4 [(tO ov)]), .one (.cells 2 [[int 0, int 0]])]⟩ | .inr x => e = .ret ∧ Done [.cell 2 28 2] (fun t _ => t = .agg [int x.code, int x.index]) .ret st) ?_ ?_ ?_ ?_
      ·try dsimp only
       exact Sub.env ⟨Z, Z, Z, Z, Z, Y⟩
      ·intro t6 s hlot6 hltt6 _
       try dsimp only
       refine AWP.d (.f (.j Z Z Z (.nil (b5 (.d (.q Z hltt6 (.exit (d8 (d8 ⟨Z, ?_⟩)))))))))
       exact Sub.env ⟨Z, Y⟩
      ·intro t6 s o hlot6 hltt6 h
       unfold J3 at h
       try dsimp only at h ⊢
       refine AWP.d (.f (.j Z Z Z (.nil (b5 (.d (.r Z hltt6 (.skip (b5 (.d (.k (.d ?_)))))))))))
       obtain ⟨a44, ha44, h⟩ := b6 h
       refine AWP.f (.a Z Z (S.idx ha44 Z Z Z Z (W.loadIAgg Z Z Z Z Z (W.alloc Z Z Z Z (.e Z Z (W.storeAgg Z Z Z Z Z Z Z (.nil (b5 (.d ?_)))))))))
       obtain ⟨a49, ha49, h⟩ := b6 h
       refine AWP.f (W.loadAgg Z Z Z Z Z Z Z (W.fieldAddr Z Z Z Z (.m Z Z Z Z Z Z (.l Z Z Z Z (ak6 ha49) Z (.e Z Z (.nil (b5 (.d (.f (.a Z Z (.neq Z Z Z (.nil (b5 (.iteN Z h (fun hc7 h => ?_) (fun hc7 h => ?_)))))))))))))))
       ·refine AWP.d (.f (.a Z Z (.a Z Z (W.build Z Z Z Z (W.storeAgg Z Z Z Z Z Z Z (.nil (b5 (.ret (h9 (e8 ?_))))))))))
        obtain rfl := oi h
        refine e8 ⟨_, Z, Z, ?_⟩
        exact Done.ret Z Z
       ·refine AWP.skip (d7 (b5 (.f (.add Z Z Z (by omega) (.a Z Z (.nil ?_))))))
        obtain rfl := oi h
        refine b5 ⟨_, Z, ?_⟩
        exact Sub.cut ⟨Z, Z, Z, Z, Z, Y⟩ Z ⟨.one Z, .one Z, Y⟩ Z
      ·intro e s hq
       rcases oo with u | x
       ·try dsimp only at h hq
        obtain ⟨rfl, hs⟩ := hq
        refine ⟨_, hs, ?_⟩
        refine g8 (b5 (.d (.f (W.build Z Z Z Z (W.storeAgg Z Z Z Z Z Z Z (.nil (b5 (.ret ?_))))))))
        obtain rfl := oi h
        exact Done.ret Z Z
       ·try dsimp only at h hq
        obtain ⟨rfl, hs⟩ := hq
        refine ⟨_, Sub.refl _ _, ?_⟩
        refine h9 (e8 ?_)
        obtain rfl := oi h
        exact hs
theorem ae8 {iv : Int} {r : ByteArray} (h : F6 iv = some r) : f8 Tryz.prog 149 [.c (int iv)] (.c (.imm (.val (.string r)))) := by
 unfold f8
 refine FnOk.enter (rs := [.t 2]) Tryz.func149 Z Tryz.ntmps149 Tryz.results149 Z ⟨trivial, Y⟩ (by kernel_rfl) Z ?_
 unfold F6 at h
 refine AWP.d (.f (.e Z Z (.nil (b5 (.d (.d (.f (.a Z Z (.j Z Z Z (.nil (b5 (.ite Z h (fun hc2 h => ?_) (fun hc2 h => ?_)))))))))))))
 ·refine AWP.d ?_
  obtain ⟨a8, ha8, h⟩ := b6 h
  refine AWP.f (.a Z Z (.a Z Z (S.add Z Z Z (S.subStr ha8 Z Z Z Z (.e Z Z (.nil (b5 (.ret (e8 ?_)))))))))
  obtain rfl := oi h
  exact Done.ret Z Z
 ·refine AWP.skip (b5 (.d ?_))
  obtain ⟨a14, ha14, h⟩ := b6 h
  refine AWP.f (.a Z Z (S.mul Z Z Z (.a Z Z (S.mul Z Z Z (S.add Z Z Z (S.subStr ha14 Z Z Z Z (.e Z Z (.nil (b5 (.ret ?_))))))))))
  obtain rfl := oi h
  exact Done.ret Z Z
theorem W4 {iv : Int} {base : Int} {l : List Int} {r : (List Int)} (h : y9 iv base l = some r) : FnOk Tryz.prog 144 [.c (.own 0 0 l.length), .c (.imm (.val (.int .u64 iv))), .c (int base)] (W3 iv base l) (fun tt ss => tt = .c (.own 2 0 r.length) ∧ ss = [.dead, .dead, .one (vec 1 eU8 r)]) := by
 refine FnOk.enter (rs := [.t 6]) Tryz.func144 Z Tryz.ntmps144 Tryz.results144 Z ⟨trivial, Y⟩ (by kernel_rfl) Z ?_
 refine AWP.weak ?_
 unfold y9 at h
 refine AWP.a (env' := [(0, .c (.own 1 0 l.length)), (1, .c (.imm (.val (.int .u64 iv)))), (2, .c (int base))]) (σ' := [.dead, .one (vec 1 eU8 l)]) 1 0 Z Z Z ⟨Z, Z, Z, Y⟩ Z ⟨trivial, ⟨Blk.im_ok _ _ _, l8 Z⟩, Y⟩ (.d (.f (.e Z Z (.nil (b5 (.d (.d (.f (.a Z Z (.v Z Z Z (.nil (b5 (.ite Z h (fun hc55 h => ?_) (fun hc55 h => ?_))))))))))))))
 ·refine AWP.d (.d (.f (.a Z Z (.j Z Z Z (.nil (b5 (.ite Z h (fun hc56 h => ?_) (fun hc56 h => ?_))))))))
  ·refine AWP.d ?_
   obtain ⟨a16, ha16, a17, ha17, h⟩ := b2 h
   refine AWP.f (.a Z Z (.a Z Z (.z Z Z (.l Z Z Z Z (ae8 ha16) Z (S.appendStr ha17 Z Z Z Z Z Z Z Z Z Z (.e Z Z (.nil (b5 (.ret (e8 (e8 ?_)))))))))))
   obtain rfl := oi h
   exact ⟨⟨[(6, .c (.own 2 0 a17.length))], [.dead, .dead, .one (vec 1 eU8 a17)]⟩, Sub.env ⟨Z, Y⟩, Done.ret Z ⟨Z, Z⟩⟩
  ·cases h
 ·cases h
theorem Y2 {iv : Int} {base : Int} {l : List Int} {r : (List Int)} (h : A0 iv base l = some r) : FnOk Tryz.prog 129 [.c (.own 0 0 l.length), .c (int iv), .c (int base)] (X8 iv base l) (fun tt ss => tt = .c (.own 3 0 r.length) ∧ ss = [.dead, .dead, .dead, .one (vec 1 eU8 r)]) := by
 refine FnOk.enter (rs := [.t 6]) Tryz.func129 Z Tryz.ntmps129 Tryz.results129 Z ⟨trivial, Y⟩ (by kernel_rfl) Z ?_
 refine AWP.weak ?_
 unfold A0 at h
 refine AWP.a (env' := [(0, .c (.own 1 0 l.length)), (1, .c (int iv)), (2, .c (int base))]) (σ' := [.dead, .one (vec 1 eU8 l)]) 1 0 Z Z Z ⟨Z, Z, Z, Y⟩ Z ⟨trivial, ⟨Blk.im_ok _ _ _, l8 Z⟩, Y⟩ (.d (.f (.e Z Z (.nil (b5 (.d (.f (.a Z Z (.z Z Z (.e Z Z (.nil (b5 ?_))))))))))))
 obtain ⟨u, hx55, h⟩ := b6 h
 refine AWP.seqJ (⟨[(0, .c (.own 1 0 l.length)), (2, .c (int base)), (7, .c (.imm (.val (.int .u64 ((IntKind.u64).wrap iv)))))], [.dead, .one (vec 1 eU8 l)]⟩) ?_ ?_
 ·refine AWP.d (.f (.a Z Z (.j Z Z Z (.nil (b5 (.ite Z hx55 (fun hc56 hx55 => ?_) (fun hc56 hx55 => ?_)))))))
  ·cases hx55
  ·refine AWP.skip ?_
   obtain rfl := oi hx55
   refine b5 (Sub.env ⟨Z, Z, Z, Y⟩)
 ·try dsimp only at h
  refine AWP.d ?_
  obtain ⟨a20, ha20, h⟩ := b6 h
  refine AWP.f (.a Z Z (.a Z Z (.a Z Z (.callF (r2 := .c (.own 3 0 a20.length)) (σ'' := [.dead, .dead, .dead, .one (vec 1 eU8 a20)]) Z Z Z (FnOk.lend [1] (W4 ha20) Z Z Z Z Z Z (by exact ⟨.vec, Y⟩) Z (by exact ⟨(.live Z .vec), Y⟩) Z Z (by exact ⟨.dead, .dead, .dead, (.new 2 Z Z .vec), Y⟩)) (.e Z Z (.nil (b5 (.ret ?_))))))))
  obtain rfl := oi h
  exact ⟨⟨[(6, .c (.own 3 0 a20.length))], [.dead, .dead, .dead, .one (vec 1 eU8 a20)]⟩, Sub.env ⟨Z, Y⟩, Done.ret Z ⟨Z, Z⟩⟩
theorem ah2 {iv : Int} {base : Int} {l : List Int} {r : (List Int)} (h : B1 iv base l = some r) : FnOk Tryz.prog 110 [.c (.own 0 0 l.length), .c (int iv), .c (int base)] (ah0 iv base l) (fun tt ss => tt = .c (.own 4 0 r.length) ∧ ss = [.dead, .dead, .dead, .dead, .one (vec 1 eU8 r)]) := by
 refine FnOk.enter (rs := [.t 6]) Tryz.func110 Z Tryz.ntmps110 Tryz.results110 Z ⟨trivial, Y⟩ (by kernel_rfl) Z ?_
 refine AWP.weak ?_
 unfold B1 at h
 refine AWP.a (env' := [(0, .c (.own 1 0 l.length)), (1, .c (int iv)), (2, .c (int base))]) (σ' := [.dead, .one (vec 1 eU8 l)]) 1 0 Z Z Z ⟨Z, Z, Z, Y⟩ Z ⟨trivial, ⟨Blk.im_ok _ _ _, l8 Z⟩, Y⟩ (.d (.f (.e Z Z (.nil (b5 (.d ?_))))))
 obtain ⟨a10, ha10, h⟩ := b6 h
 refine AWP.f (.a Z Z (.a Z Z (.a Z Z (.callF (r2 := .c (.own 4 0 a10.length)) (σ'' := [.dead, .dead, .dead, .dead, .one (vec 1 eU8 a10)]) Z Z Z (FnOk.lend [1] (Y2 ha10) Z Z Z Z Z Z (by exact ⟨.vec, Y⟩) Z (by exact ⟨(.live Z .vec), Y⟩) Z Z (by exact ⟨.dead, .dead, .dead, .dead, (.new 3 Z Z .vec), Y⟩)) (.e Z Z (.nil (b5 (.ret ?_))))))))
 obtain rfl := oi h
 exact ⟨⟨[(6, .c (.own 4 0 a10.length))], [.dead, .dead, .dead, .dead, .one (vec 1 eU8 a10)]⟩, Sub.env ⟨Z, Y⟩, Done.ret Z ⟨Z, Z⟩⟩
theorem al3 {l : LL} {r : ByteArray} (h : P1 l = some r) : f8 Tryz.prog 93 [.c (row 1 d6 l)] (.c (.imm (.val (.string r)))) := by
 unfold f8
 refine FnOk.enter (rs := [.t 2]) Tryz.func93 Z Tryz.ntmps93 Tryz.results93 Z ⟨trivial, Y⟩ (by kernel_rfl) Z ?_
 unfold P1 at h
 refine AWP.d (.f (.e Z Z (.nil (b5 (.d (.f (.e Z Z (.nil (b5 (.d (.d (.f (.a Z Z (S.len Z Z (fun hl9 => .a Z Z (.nil (b5 (.k (.virtV 1 eU8 3 Z Z Z ?_)))))))))))))))))))
 obtain ⟨c2, ho1, h⟩ := b6 h
 refine AWP.forS ho1 (fun t3 c2 => ⟨[(3, .c (.own 0 0 c2.length)), (8, .c (row 1 d6 l)), (9, .c (int (l.length : Int))), (10, .c (int t3))], [.one (vec 1 eU8 c2)]⟩) (fun c2 e st => e = .exit 0 ∧ Sub [] st ⟨[(3, .c (.own 0 0 c2.length))], [.one (vec 1 eU8 c2)]⟩) ?_ ?_ ?_ ?_
 ·try dsimp only
  exact Sub.env ⟨(x9 (by first | rfl | simp only [List.length_set])), Z, Z, Z, Y⟩
 ·intro t3 c2 hlot3 hltt3 _
  try dsimp only
  refine AWP.d (.f (.j Z Z Z (.nil (b5 (.d (.q Z hltt3 (.exit (d8 (d8 ⟨Z, ?_⟩)))))))))
  exact Sub.env ⟨Z, Y⟩
 ·intro t3 c2 o hlot3 hltt3 h
  unfold ae3 at h
  try dsimp only at h ⊢
  refine AWP.d (.f (.j Z Z Z (.nil (b5 (.d (.r Z hltt3 (.skip (b5 (.d (.k (.d ?_)))))))))))
  obtain ⟨a12, ha12, h⟩ := b6 h
  refine AWP.f (S.idx ha12 Z Z Z Z (.o Z Z Z Z (.e Z Z (.nil (b5 (.d (.d (.f (.a Z Z (S.len Z Z (fun hl15 => .a Z Z (.nil (b5 (.k ?_))))))))))))))
  obtain ⟨c4, ho2, h⟩ := b6 h
  refine AWP.forS ho2 (fun t5 c4 => ⟨[(3, .c (.own 0 0 c4.length)), (8, .c (row 1 d6 l)), (9, .c (int (l.length : Int))), (10, .c (int t3)), (14, .c (row 1 intI a12)), (15, .c (int (a12.length : Int))), (16, .c (int t5))], [.one (vec 1 eU8 c4)]⟩) (fun c4 e st => e = .exit 2 ∧ Sub [] st ⟨[(3, .c (.own 0 0 c4.length)), (8, .c (row 1 d6 l)), (9, .c (int (l.length : Int))), (10, .c (int t3))], [.one (vec 1 eU8 c4)]⟩) ?_ ?_ ?_ ?_
  ·try dsimp only
   exact Sub.env ⟨Z, Z, Z, Z, Z, Z, Z, Y⟩
  ·intro t5 c4 hlot5 hltt5 _
   try dsimp only
   refine AWP.d (.f (.j Z Z Z (.nil (b5 (.d (.q Z hltt5 (.exit (d8 (d8 ⟨Z, ?_⟩)))))))))
   exact Sub.env ⟨Z, Z, Z, Z, Y⟩
  ·intro t5 c4 o hlot5 hltt5 h
   unfold ae4 at h
   try dsimp only at h ⊢
   refine AWP.d (.f (.j Z Z Z (.nil (b5 (.d (.r Z hltt5 (.skip (b5 (.d (.k (.d ?_)))))))))))
   obtain ⟨a18, ha18, h⟩ := b6 h
   refine AWP.f (S.idx ha18 Z Z Z Z (.o Z Z Z Z (.e Z Z (.nil (b5 ?_)))))
   obtain ⟨a22, ha22, a24, ha24, h⟩ := b2 h
   refine AWP.f (.a Z Z (.a Z Z (.callF (r2 := .c (.own 4 0 a22.length)) (σ'' := [.dead, .dead, .dead, .dead, .one (vec 1 eU8 a22)]) Z Z Z (FnOk.lend [0] (ah2 ha22) Z Z Z Z Z Z (by exact ⟨.vec, Y⟩) Z (by exact ⟨(.live Z .vec), Y⟩) Z Z (by exact ⟨.dead, .dead, .dead, .dead, (.new 4 Z Z .vec), Y⟩)) (S.lit (f := eU8) (l := [44]) (ess := [[.imm (.val (.int .u8 44))]]) Z Z Z Z Z Z Z ⟨⟨.inl Z, Y⟩, Y⟩ Z Z Z (S.append (f := eU8) ha24 Z Z Z Z Z Z (.own Z Z) Z Z Z Z (.e Z Z (.nil (d7 (b5 (.a (env' := [(3, .c (.own 4 0 a24.length)), (8, .c (row 1 d6 l)), (9, .c (int (l.length : Int))), (10, .c (int t3)), (14, .c (row 1 intI a12)), (15, .c (int (a12.length : Int))), (16, .c (int t5))]) (σ' := [.dead, .dead, .dead, .dead, .one (vec 1 eU8 a24), .one (vec 1 eU8 [44])]) 4 6 Z Z Z ⟨Z, Z, Z, Z, Z, Z, Z, Y⟩ Z ⟨trivial, trivial, trivial, trivial, ⟨Blk.im_ok _ _ _, l8 Z⟩, ⟨Blk.im_ok _ _ _, l8 Z⟩, Y⟩ (.f (.add Z Z Z (by omega) (.a Z Z (.nil ?_))))))))))))))
   obtain rfl := oi h
   refine b5 ((Sub.move (env' := [(3, .c (.own 0 0 a24.length)), (8, .c (row 1 d6 l)), (9, .c (int (l.length : Int))), (10, .c (int t3)), (14, .c (row 1 intI a12)), (15, .c (int (a12.length : Int))), (16, .c (int (t5 + 1)))]) (σ' := [.one (vec 1 eU8 a24), .dead, .dead, .dead, .dead, .one (vec 1 eU8 [44])]) 0 4 Z Z Z ⟨Z, Z, Z, Z, Z, Z, Z, Y⟩ Z ⟨⟨Blk.im_ok _ _ _, l8 Z⟩, trivial, trivial, trivial, trivial, ⟨Blk.im_ok _ _ _, l8 Z⟩, Y⟩).trans (Sub.cut ⟨Z, Z, Z, Z, Z, Z, Z, Y⟩ Z ⟨.vec, Y⟩ Z))
  ·intro e s hq
   obtain ⟨rfl, hs⟩ := hq
   refine ⟨_, hs, ?_⟩
   refine g8 (b5 ?_)
   obtain ⟨a28, ha28, h⟩ := b6 h
   refine AWP.f (.a Z Z (S.lit (f := eU8) (l := [59]) (ess := [[.imm (.val (.int .u8 59))]]) Z Z Z Z Z Z Z ⟨⟨.inl Z, Y⟩, Y⟩ Z Z Z (S.append (f := eU8) ha28 Z Z Z Z Z Z (.own Z Z) Z Z Z Z (.e Z Z (.nil (d7 (b5 (.a (env' := [(3, .c (.own 0 0 a28.length)), (8, .c (row 1 d6 l)), (9, .c (int (l.length : Int))), (10, .c (int t3))]) (σ' := [.one (vec 1 eU8 a28), .one (vec 1 eU8 [59])]) 0 2 Z Z Z ⟨Z, Z, Z, Z, Y⟩ Z ⟨⟨Blk.im_ok _ _ _, l8 Z⟩, ⟨Blk.im_ok _ _ _, l8 Z⟩, Y⟩ (.f (.add Z Z Z (by omega) (.a Z Z (.nil ?_))))))))))))
   obtain rfl := oi h
   refine b5 (Sub.cut ⟨Z, Z, Z, Z, Y⟩ Z ⟨.vec, Y⟩ Z)
 ·intro e s hq
  obtain ⟨rfl, hs⟩ := hq
  refine ⟨_, hs, ?_⟩
  refine g8 (b5 (.d (.f (.a Z Z (S.bytesStr Z Z Z Z (.e Z Z (.nil (b5 (.ret ?_)))))))))
  obtain rfl := oi h
  exact Done.ret Z Z
theorem C6 {sv : List Int} {part : List Int} {r : Bool} (h : z6 sv part = some r) : f8 Tryz.prog 54 [.c (row 1 intI sv), .c (row 1 intI part)] (.c (bool r)) := by
 unfold f8
 refine FnOk.enter (rs := [.t 4]) Tryz.func54 Z Tryz.ntmps54 Tryz.results54 Z ⟨trivial, Y⟩ (by kernel_rfl) Z ?_
 unfold z6 at h
 refine AWP.d (.f (.e Z Z (.nil (b5 (.d (.f (.e Z Z (.nil (b5 (.d (.d (.f (.a Z Z (S.len Z Z (fun hl9 => .a Z Z (.nil (b5 (.k ?_))))))))))))))))))
 obtain ⟨oo, ho1, h⟩ := b6 h
 refine AWP.rngS ho1 (fun t4 iv3 => ⟨[(0, .c (row 1 intI sv)), (5, .c (int iv3)), (8, .c (row 1 intI part)), (9, .c (int (part.length : Int))), (10, .c (int t4))], []⟩) (fun o e st => match o with | .inl iv3 => e = .exit 0 ∧ Sub [] st ⟨[], []⟩ | .inr x => e = .ret ∧ Done [.t 4] (fun t _ => t = .c (bool x)) .ret st) ?_ ?_ ?_ ?_
 ·try dsimp only
  exact Sub.env ⟨Z, Z, Z, Z, Z, Y⟩
 ·intro t4 iv3 hlot4 hltt4 _
  try dsimp only
  refine AWP.d (.f (.j Z Z Z (.nil (b5 (.d (.q Z hltt4 (.exit (d8 (d8 ⟨Z, ?_⟩)))))))))
  exact Sub.env trivial
 ·intro t4 iv3 o hlot4 hltt4 h
  unfold K4 at h
  try dsimp only at h ⊢
  refine AWP.d (.f (.j Z Z Z (.nil (b5 (.d (.r Z hltt4 (.skip (b5 (.d (.k (.d ?_)))))))))))
  obtain ⟨a12, ha12, h⟩ := b6 h
  refine AWP.f (S.idx ha12 Z Z Z Z (.o Z Z Z Z (.e Z Z (.nil (b5 (.d (.k ?_)))))))
  obtain ⟨iv6, ho2, h⟩ := b6 h
  refine AWP.loopS ho2 (fun iv5 => ⟨[(0, .c (row 1 intI sv)), (5, .c (int iv5)), (7, .c (int a12)), (8, .c (row 1 intI part)), (9, .c (int (part.length : Int))), (10, .c (int t4))], []⟩) (fun iv6 e st => e = .exit 2 ∧ Sub [] st ⟨[(0, .c (row 1 intI sv)), (5, .c (int iv6)), (7, .c (int a12)), (8, .c (row 1 intI part)), (9, .c (int (part.length : Int))), (10, .c (int t4))], []⟩) ?_ ?_ ?_
  ·try dsimp only
   exact Sub.env ⟨Z, Z, Z, Z, Z, Z, Y⟩
  ·intro iv5 o h
   unfold G2 at h
   try dsimp only at h ⊢
   refine AWP.d ?_
   obtain ⟨t7, hx8, h⟩ := b6 h
   refine AWP.seqJ (⟨[(0, .c (row 1 intI sv)), (5, .c (int iv5)), (7, .c (int a12)), (8, .c (row 1 intI part)), (9, .c (int (part.length : Int))), (10, .c (int t4)), (25, .c (bool t7))], []⟩) ?_ ?_
   ·rcases bft (decide (iv5 < (sv.length : Int))) with hb9 | hb9
    ·replace hx8 := C2 hb9 hx8
     obtain ⟨a21, ha21, hx8⟩ := b6 hx8
     refine AWP.f (.a Z Z (.a Z Z (S.len Z Z (fun hl16 => .j Z Z Z (.a Z Z (.g Z Z Z hb9 (.a Z Z (.g Z Z Z hb9 (.a Z Z (.g Z Z Z hb9 (S.idx ha21 Z Z Z Z (.g Z Z Z hb9 (.o Z Z Z Z (.g Z Z Z hb9 (.a Z Z (.g Z Z Z hb9 (.j Z Z Z (.p Z hb9 Z Z (.nil ?_)))))))))))))))))))
     obtain rfl := oi hx8
     refine b5 (Sub.env ⟨Z, Z, Z, Z, Z, Z, Z, Y⟩)
    ·replace hx8 := B9 hb9 hx8
     refine AWP.f (.a Z Z (.a Z Z (S.len Z Z (fun hl16 => .j Z Z Z (.a Z Z (.i Z Z Z hb9 (.i Z Z Z hb9 (.i Z Z Z hb9 (.i Z Z Z hb9 (.i Z Z Z hb9 (.i Z Z Z hb9 (.n Z hb9 Z Z (.nil ?_)))))))))))))
     obtain rfl := oi hx8
     refine b5 (Sub.env ⟨Z, Z, Z, Z, Z, Z, Z, Y⟩)
   ·refine AWP.s Z h (fun hc10 h => ?_) (fun hc10 h => ?_)
    ·refine AWP.skip (b5 (.k (.f (.a Z Z (S.add Z Z Z (.e Z Z (.nil (d7 ?_))))))))
     obtain rfl := oi h
     refine b5 ⟨_, Z, ?_⟩
     exact Sub.env ⟨Z, Z, Z, Z, Z, Z, Y⟩
    ·refine AWP.exit (d8 ?_)
     obtain rfl := oi h
     refine d8 ⟨_, Z, Z, ?_⟩
     exact Sub.env ⟨Z, Z, Z, Z, Z, Z, Y⟩
  ·intro e s hq
   obtain ⟨rfl, hs⟩ := hq
   refine ⟨_, hs, ?_⟩
   refine g8 (b5 ?_)
   obtain ⟨t11, hx12, h⟩ := b6 h
   refine AWP.seqJ (⟨[(0, .c (row 1 intI sv)), (5, .c (int iv6)), (8, .c (row 1 intI part)), (9, .c (int (part.length : Int))), (10, .c (int t4)), (39, .c (bool t11))], []⟩) ?_ ?_
   ·rcases bft (decide (iv6 = (sv.length : Int))) with hb13 | hb13
    ·replace hx12 := C2 hb13 hx12
     refine AWP.f (.a Z Z (.a Z Z (S.len Z Z (fun hl30 => .v Z Z Z (.a Z Z (.i Z Z Z hb13 (.i Z Z Z hb13 (.i Z Z Z hb13 (.i Z Z Z hb13 (.i Z Z Z hb13 (.i Z Z Z hb13 (.p Z hb13 Z Z (.nil ?_)))))))))))))
     obtain rfl := oi hx12
     refine b5 (Sub.env ⟨Z, Z, Z, Z, Z, Z, Y⟩)
    ·replace hx12 := B9 hb13 hx12
     obtain ⟨a35, ha35, hx12⟩ := b6 hx12
     refine AWP.f (.a Z Z (.a Z Z (S.len Z Z (fun hl30 => .v Z Z Z (.a Z Z (.g Z Z Z hb13 (.a Z Z (.g Z Z Z hb13 (.a Z Z (.g Z Z Z hb13 (S.idx ha35 Z Z Z Z (.g Z Z Z hb13 (.o Z Z Z Z (.g Z Z Z hb13 (.a Z Z (.g Z Z Z hb13 (.neq Z Z Z (.n Z hb13 Z Z (.nil ?_)))))))))))))))))))
     obtain rfl := oi hx12
     refine b5 (Sub.env ⟨Z, Z, Z, Z, Z, Z, Y⟩)
   ·refine AWP.s Z h (fun hc14 h => ?_) (fun hc14 h => ?_)
    ·refine AWP.d (.f (.e Z Z (.nil (b5 (.ret (h9 (e8 ?_)))))))
     obtain rfl := oi h
     refine e8 ⟨_, Z, Z, ?_⟩
     exact Done.ret Z Z
    ·refine AWP.skip (d7 (b5 (.f (.add Z Z Z (by omega) (.a Z Z (.nil ?_))))))
     obtain rfl := oi h
     refine b5 ⟨_, Z, ?_⟩
     exact Sub.env ⟨Z, Z, Z, Z, Z, Y⟩
 ·intro e s hq
  rcases oo with iv3 | x
  ·try dsimp only at h hq
   obtain ⟨rfl, hs⟩ := hq
   refine ⟨_, hs, ?_⟩
   refine g8 (b5 (.d (.f (.e Z Z (.nil (b5 (.ret ?_)))))))
   obtain rfl := oi h
   exact Done.ret Z Z
  ·try dsimp only at h hq
   obtain ⟨rfl, hs⟩ := hq
   refine ⟨_, Sub.refl _ _, ?_⟩
   refine h9 (e8 ?_)
   obtain rfl := oi h
   exact hs
theorem ad3 {ov : b9} {sv : List Int} {op : Int} {r : Bool} (h : O9 ov sv op = some r) : f8 Tryz.prog 60 [.agg (tO ov), .c (row 1 intI sv), .c (int op)] (.c (bool r)) := by
 unfold f8
 refine FnOk.enter (rs := [.t 6]) Tryz.func60 Z Tryz.ntmps60 Tryz.results60 Z ⟨trivial, Y⟩ (by kernel_rfl) Z ?_
 unfold O9 at h
 refine AWP.d (.f (W.box Z Z Z Z Z Z (.e Z Z (.nil (b5 (.d ?_))))))
 obtain ⟨a11, ha11, a14, ha14, h⟩ := b2 h
 refine AWP.f (.a Z Z (W.fieldAddr Z Z Z Z (.m Z Z Z Z Z Z (.a Z Z (S.idx ha11 Z Z Z Z (W.fieldAddrI Z Z Z Z (.o Z Z Z Z (.l Z Z Z Z (C6 ha14) Z (.e Z Z (.nil (b5 (.ret ?_))))))))))))
 obtain rfl := oi h
 exact Done.ret Z Z
theorem ao7 {sv : List Int} {add : List Int} {del : List Int} {r : (List Int)} (h : H1 sv add del = some r) : m5 Tryz.prog 67 [.c (row 1 intI sv), .c (row 1 intI add), .c (row 1 intI del)] 1 (List.map intI r) := by
 unfold m5
 refine FnOk.enter (rs := [.t 6]) Tryz.func67 Z Tryz.ntmps67 Tryz.results67 Z ⟨trivial, Y⟩ (by kernel_rfl) Z ?_
 unfold H1 at h
 refine AWP.d (.f (.e Z Z (.nil (b5 (.d (.f (.e Z Z (.nil (b5 (.d (.d (.f (.a Z Z (S.len Z Z (fun hl13 => .a Z Z (.nil (b5 (.k (.virtV 1 intI 7 Z Z Z ?_)))))))))))))))))))
 obtain ⟨c4, ho1, h⟩ := b6 h
 refine AWP.forS ho1 (fun t5 c4 => ⟨[(1, .c (row 1 intI add)), (2, .c (row 1 intI del)), (7, .c (.own 0 0 c4.length)), (12, .c (row 1 intI sv)), (13, .c (int (sv.length : Int))), (14, .c (int t5))], [.one (vec 1 intI c4)]⟩) (fun c4 e st => e = .exit 0 ∧ Sub [] st ⟨[(1, .c (row 1 intI add)), (7, .c (.own 0 0 c4.length))], [.one (vec 1 intI c4)]⟩) ?_ ?_ ?_ ?_
 ·try dsimp only
  exact Sub.env ⟨Z, Z, (x9 (by first | rfl | simp only [List.length_set])), Z, Z, Z, Y⟩
 ·intro t5 c4 hlot5 hltt5 _
  try dsimp only
  refine AWP.d (.f (.j Z Z Z (.nil (b5 (.d (.q Z hltt5 (.exit (d8 (d8 ⟨Z, ?_⟩)))))))))
  exact Sub.env ⟨Z, Z, Y⟩
 ·intro t5 c4 o hlot5 hltt5 h
  unfold X9 at h
  try dsimp only at h ⊢
  refine AWP.d (.f (.j Z Z Z (.nil (b5 (.d (.r Z hltt5 (.skip (b5 ?_))))))))
  obtain ⟨c6, hx7, h⟩ := b6 h
  refine AWP.seqJ (⟨[(1, .c (row 1 intI add)), (2, .c (row 1 intI del)), (7, .c (.own 2 0 c6.length)), (12, .c (row 1 intI sv)), (13, .c (int (sv.length : Int))), (14, .c (int t5))], [.dead, .dead, .one (vec 1 intI c6)]⟩) ?_ ?_
  ·refine AWP.k (.d ?_)
   obtain ⟨a16, ha16, hx7⟩ := b6 hx7
   refine AWP.f (S.idx ha16 Z Z Z Z (.o Z Z Z Z (.e Z Z (.nil (b5 (.d ?_))))))
   obtain ⟨a21, ha21, hx7⟩ := b6 hx7
   refine AWP.f (.a Z Z (.a Z Z (.l Z Z Z Z (M1 ha21) Z (.a Z Z (.w Z Z Z (.w Z Z Z (.e Z Z (.e Z Z (.nil (b5 (.d (.f (.a Z Z (.u Z Z (.nil (b5 (.s Z hx7 (fun hc8 hx7 => ?_) (fun hc8 hx7 => ?_))))))))))))))))))
   ·obtain ⟨a29, ha29, hx7⟩ := b6 hx7
    refine AWP.f (.a Z Z (.a Z Z (S.lit (f := intI) (l := [a16]) (ess := [[int a16]]) Z Z Z Z Z Z Z ⟨⟨.inl Z, Y⟩, Y⟩ Z Z Z (S.append (f := intI) ha29 Z Z Z Z Z Z (.own Z Z) Z Z Z Z (.e Z Z (.nil (d7 ?_)))))))
    obtain rfl := oi hx7
    refine b5 (Sub.cut ⟨Z, Z, Z, Z, Z, Z, Y⟩ Z ⟨.dead, .dead, .vec, Y⟩ Z)
   ·refine AWP.skip (d7 ?_)
    obtain rfl := oi hx7
    refine b5 ((Sub.move (env' := [(1, .c (row 1 intI add)), (2, .c (row 1 intI del)), (7, .c (.own 2 0 c4.length)), (12, .c (row 1 intI sv)), (13, .c (int (sv.length : Int))), (14, .c (int t5))]) (σ' := [.dead, .dead, .one (vec 1 intI c4)]) 2 0 Z Z Z ⟨Z, Z, Z, Z, Z, Z, Y⟩ Z ⟨trivial, trivial, ⟨Blk.im_ok _ _ _, l8 Z⟩, Y⟩).trans (Sub.env ⟨Z, Z, Z, Z, Z, Z, Y⟩))
  ·refine AWP.f (.add Z Z Z (by omega) (.a Z Z (.nil ?_)))
   obtain rfl := oi h
   refine b5 ((Sub.move (env' := [(1, .c (row 1 intI add)), (2, .c (row 1 intI del)), (7, .c (.own 0 0 c6.length)), (12, .c (row 1 intI sv)), (13, .c (int (sv.length : Int))), (14, .c (int (t5 + 1)))]) (σ' := [.one (vec 1 intI c6), .dead]) 0 2 Z Z Z ⟨Z, Z, Z, Z, Z, Z, Y⟩ Z ⟨⟨Blk.im_ok _ _ _, l8 Z⟩, trivial, Y⟩).trans (Sub.cut ⟨Z, Z, Z, Z, Z, Z, Y⟩ Z ⟨.vec, Y⟩ Z))
 ·intro e s hq
  obtain ⟨rfl, hs⟩ := hq
  refine ⟨_, hs, ?_⟩
  refine g8 (b5 (.d ?_))
  obtain ⟨a33, ha33, h⟩ := b6 h
  refine AWP.f (.a Z Z (.a Z Z (S.append (f := intI) ha33 Z Z Z Z Z Z .row Z Z Z Z (.e Z Z (.nil (b5 (.d (.a (env' := [(7, .c (.own 0 0 a33.length))]) (σ' := [.one (vec 1 intI a33)]) 0 1 Z Z Z ⟨Z, Y⟩ Z ⟨⟨Blk.im_ok _ _ _, l8 Z⟩, Y⟩ ?_))))))))
  obtain ⟨a35, ha35, h⟩ := b6 h
  refine AWP.f (.a Z Z (S.sort ha35 sortL_ok Z Z Z Z Z Z (.nil (b5 (.d (.f (.a Z Z (S.compact compactL_ok Z Z (sortL_len ha35) Z Z Z Z Z (.e Z Z (.nil (b5 (.ret ?_))))))))))))
  obtain rfl := oi h
  exact Done.ret Z (Fresh.mk Z Z)
theorem am6 {xv : Int} {yv : Int} {r : Int} (h : M2 xv yv = some r) : f8 Tryz.prog 95 [.c (int xv), .c (int yv)] (.c (int r)) := by
 unfold f8
 refine FnOk.enter (rs := [.t 4]) Tryz.func95 Z Tryz.ntmps95 Tryz.results95 Z ⟨trivial, Y⟩ (by kernel_rfl) Z ?_
 unfold M2 at h
 refine AWP.d (.f (.e Z Z (.nil (b5 (.d ?_)))))
 obtain ⟨a8, ha8, h⟩ := b6 h
 refine AWP.f (.a Z Z (.l Z Z Z Z (C3 ha8) Z (.e Z Z (.nil (b5 (.d ?_))))))
 obtain ⟨a10, ha10, h⟩ := b6 h
 refine AWP.f (.a Z Z (.l Z Z Z Z (C3 ha10) Z (.e Z Z (.nil (b5 (.d (.d (.f (.a Z Z (.nil (b5 (.s Z h (fun hc3 h => ?_) (fun hc3 h => ?_)))))))))))))
 ·refine AWP.d (.d (.f (.a Z Z (.nil (b5 (.s Z h (fun hc4 h => ?_) (fun hc4 h => ?_)))))))
  ·refine AWP.d (.f (.e Z Z (.nil (b5 (.ret (e8 (e8 ?_)))))))
   obtain rfl := oi h
   exact Done.ret Z Z
  ·refine AWP.skip (b5 (.d (.f (.e Z Z (.nil (b5 (.ret (e8 ?_))))))))
   obtain rfl := oi h
   exact Done.ret Z Z
 ·refine AWP.skip (b5 (.d (.d (.f (.a Z Z (.nil (b5 (.s Z h (fun hc5 h => ?_) (fun hc5 h => ?_)))))))))
  ·refine AWP.d (.f (.e Z Z (.nil (b5 (.ret (e8 ?_))))))
   obtain rfl := oi h
   exact Done.ret Z Z
  ·refine AWP.skip (b5 (.d (.d (.f (.a Z Z (.a Z Z (.j Z Z Z (.nil (b5 (.ite Z h (fun hc6 h => ?_) (fun hc6 h => ?_)))))))))))
   ·refine AWP.d (.f (.e Z Z (.nil (b5 (.ret (e8 ?_))))))
    obtain rfl := oi h
    exact Done.ret Z Z
   ·refine AWP.skip (b5 (.d (.d (.f (.a Z Z (.a Z Z (.gtr Z Z Z (.nil (b5 (.ite Z h (fun hc7 h => ?_) (fun hc7 h => ?_)))))))))))
    ·refine AWP.d (.f (.e Z Z (.nil (b5 (.ret (e8 ?_))))))
     obtain rfl := oi h
     exact Done.ret Z Z
    ·refine AWP.skip (b5 (.d (.f (.e Z Z (.nil (b5 (.ret ?_)))))))
     obtain rfl := oi h
     exact Done.ret Z Z
theorem u3 {s11 : List Int} {s22 : List Int} {r : Int} (h : slices_Compare_int_int s11 s22 = some r) : f8 Tryz.prog 72 [.c (row 1 intI s11), .c (row 1 intI s22)] (.c (int r)) := by
 unfold f8
 refine FnOk.enter (rs := [.t 4]) Tryz.func72 Z Tryz.ntmps72 Tryz.results72 Z ⟨trivial, Y⟩ (by kernel_rfl) Z ?_
 unfold slices_Compare_int_int at h
 refine AWP.d (.f (.e Z Z (.nil (b5 (.d (.d (.f (.a Z Z (S.len Z Z (fun hl10 => .a Z Z (.nil (b5 (.k ?_)))))))))))))
 obtain ⟨oo, ho1, h⟩ := b6 h
 refine AWP.rngS ho1 (fun t3 _ => ⟨[(0, .c (row 1 intI s11)), (1, .c (row 1 intI s22)), (9, .c (row 1 intI s11)), (10, .c (int (s11.length : Int))), (11, .c (int t3))], []⟩) (fun o e st => match o with | .inl _ => e = .exit 0 ∧ Sub [] st ⟨[(0, .c (row 1 intI s11)), (1, .c (row 1 intI s22))], []⟩ | .inr x => e = .ret ∧ Done [.t 4] (fun t _ => t = .c (int x)) .ret st) ?_ ?_ ?_ ?_
 ·try dsimp only
  exact Sub.env ⟨Z, Z, Z, Z, Z, Y⟩
 ·intro t3 s hlot3 hltt3 _
  try dsimp only
  refine AWP.d (.f (.j Z Z Z (.nil (b5 (.d (.q Z hltt3 (.exit (d8 (d8 ⟨Z, ?_⟩)))))))))
  exact Sub.env ⟨Z, Z, Y⟩
 ·intro t3 s o hlot3 hltt3 h
  unfold D0 at h
  try dsimp only at h ⊢
  refine AWP.d (.f (.j Z Z Z (.nil (b5 (.d (.r Z hltt3 (.skip (b5 (.d (.k (.d ?_)))))))))))
  obtain ⟨a14, ha14, h⟩ := b6 h
  refine AWP.f (.a Z Z (S.idx ha14 Z Z Z Z (.o Z Z Z Z (.e Z Z (.e Z Z (.nil (b5 (.d (.d (.f (.a Z Z (.a Z Z (S.len Z Z (fun hl18 => .geq Z Z Z (.nil (b5 (.ite Z h (fun hc4 h => ?_) (fun hc4 h => ?_))))))))))))))))))
  ·refine AWP.d (.f (.e Z Z (.nil (b5 (.ret (e8 (h9 (e8 ?_))))))))
   obtain rfl := oi h
   refine e8 ⟨_, Z, Z, ?_⟩
   exact Done.ret Z Z
  ·refine AWP.skip (b5 (.d ?_))
   obtain ⟨a22, ha22, h⟩ := b6 h
   refine AWP.f (.a Z Z (.a Z Z (S.idx ha22 Z Z Z Z (.o Z Z Z Z (.e Z Z (.nil (b5 (.d ?_))))))))
   obtain ⟨a26, ha26, h⟩ := b6 h
   refine AWP.f (.a Z Z (.a Z Z (.l Z Z Z Z (am6 ha26) Z (.e Z Z (.nil (b5 (.d (.f (.a Z Z (.neq Z Z Z (.nil (b5 (.iteN Z h (fun hc5 h => ?_) (fun hc5 h => ?_))))))))))))))
   ·refine AWP.d (.f (.a Z Z (.e Z Z (.nil (b5 (.ret (h9 (e8 ?_))))))))
    obtain rfl := oi h
    refine e8 ⟨_, Z, Z, ?_⟩
    exact Done.ret Z Z
   ·refine AWP.skip (d7 (b5 (.f (.add Z Z Z (by omega) (.a Z Z (.nil ?_))))))
    obtain rfl := oi h
    refine b5 ⟨_, Z, ?_⟩
    exact Sub.env ⟨Z, Z, Z, Z, Z, Y⟩
 ·intro e s hq
  rcases oo with u | x
  ·try dsimp only at h hq
   obtain ⟨rfl, hs⟩ := hq
   refine ⟨_, hs, ?_⟩
   refine g8 (b5 (.d (.d (.f (.a Z Z (S.len Z Z (fun hl32 => .a Z Z (S.len Z Z (fun hl34 => .j Z Z Z (.nil (b5 (.ite Z h (fun hc6 h => ?_) (fun hc6 h => ?_)))))))))))))
   ·refine AWP.d (.f (.e Z Z (.nil (b5 (.ret (e8 ?_))))))
    obtain rfl := oi h
    exact Done.ret Z Z
   ·refine AWP.skip (b5 (.d (.f (.e Z Z (.nil (b5 (.ret ?_)))))))
    obtain rfl := oi h
    exact Done.ret Z Z
  ·try dsimp only at h hq
   obtain ⟨rfl, hs⟩ := hq
   refine ⟨_, Sub.refl _ _, ?_⟩
   refine h9 (e8 ?_)
   obtain rfl := oi h
   exact hs
theorem J8 {s11 : List Int} {s22 : List Int} {r : Bool} (h : w8 s11 s22 = some r) : f8 Tryz.prog 82 [.c (row 1 intI s11), .c (row 1 intI s22)] (.c (bool r)) := by
 unfold f8
 refine FnOk.enter (rs := [.t 4]) Tryz.func82 Z Tryz.ntmps82 Tryz.results82 Z ⟨trivial, Y⟩ (by kernel_rfl) Z ?_
 unfold w8 at h
 refine AWP.d (.f (.e Z Z (.nil (b5 (.d (.d (.f (.a Z Z (S.len Z Z (fun hl7 => .a Z Z (S.len Z Z (fun hl9 => .neq Z Z Z (.nil (b5 (.iteN Z h (fun hc3 h => ?_) (fun hc3 h => ?_))))))))))))))))
 ·refine AWP.d (.f (.e Z Z (.nil (b5 (.ret (e8 ?_))))))
  obtain rfl := oi h
  exact Done.ret Z Z
 ·refine AWP.skip (b5 (.d (.d (.f (.a Z Z (S.len Z Z (fun hl12 => .a Z Z (.nil (b5 (.k ?_))))))))))
  obtain ⟨oo, ho1, h⟩ := b6 h
  refine AWP.rngS ho1 (fun t4 _ => ⟨[(0, .c (row 1 intI s11)), (1, .c (row 1 intI s22)), (12, .c (int (s11.length : Int))), (13, .c (int t4))], []⟩) (fun o e st => match o with | .inl _ => e = .exit 0 ∧ Sub [] st ⟨[], []⟩ | .inr x => e = .ret ∧ Done [.t 4] (fun t _ => t = .c (bool x)) .ret st) ?_ ?_ ?_ ?_
  ·try dsimp only
   exact Sub.env ⟨Z, Z, Z, Z, Y⟩
  ·intro t4 s hlot4 hltt4 _
   try dsimp only
   refine AWP.d (.f (.j Z Z Z (.nil (b5 (.d (.q Z hltt4 (.exit (d8 (d8 ⟨Z, ?_⟩)))))))))
   exact Sub.env trivial
  ·intro t4 s o hlot4 hltt4 h
   unfold J9 at h
   try dsimp only at h ⊢
   refine AWP.d (.f (.j Z Z Z (.nil (b5 (.d (.r Z hltt4 (.skip (b5 (.d (.k (.d (.f (.a Z Z (.e Z Z (.nil (b5 (.d ?_)))))))))))))))))
   obtain ⟨a18, ha18, a22, ha22, h⟩ := b2 h
   refine AWP.drawI mixed Z ?_
   refine i5.consF Z (fun E => AOps.a Z Z (.nil ⟨Z, Z⟩)) Z (.consF Z (fun E => AOps.a Z Z (.nil ⟨Z, Z⟩)) Z (.consF Z (fun E => S.idx ha18 Z Z Z Z (.nil ⟨Z, Z⟩)) Z (.consF Z (fun E => AOps.o Z Z Z Z (.nil ⟨Z, Z⟩)) Z (.consF Z (fun E => AOps.a Z Z (.nil ⟨Z, Z⟩)) Z (.consF Z (fun E => AOps.a Z Z (.nil ⟨Z, Z⟩)) Z (.consF Z (fun E => S.idx ha22 Z Z Z Z (.nil ⟨Z, Z⟩)) Z (.consF Z (fun E => AOps.o Z Z Z Z (.nil ⟨Z, Z⟩)) Z (.consF Z (fun E => AOps.neq Z Z Z (.nil ⟨Z, Z⟩)) Z ?_))))))))
   refine i5.done ?_
   dsimp only [j6]
   refine b5 (.iteN Z h (fun hc5 h => ?_) (fun hc5 h => ?_))
   ·refine AWP.d (.f (.e Z Z (.nil (b5 (.ret (h9 (e8 ?_)))))))
    obtain rfl := oi h
    refine e8 ⟨_, Z, Z, ?_⟩
    exact Done.ret Z Z
   ·refine AWP.skip (d7 (b5 (.f (.add Z Z Z (by omega) (.a Z Z (.nil ?_))))))
    obtain rfl := oi h
    refine b5 ⟨_, Z, ?_⟩
    exact Sub.env ⟨Z, Z, Z, Z, Y⟩
  ·intro e s hq
   rcases oo with u | x
   ·try dsimp only at h hq
    obtain ⟨rfl, hs⟩ := hq
    refine ⟨_, hs, ?_⟩
    refine g8 (b5 (.d (.f (.e Z Z (.nil (b5 (.ret ?_)))))))
    obtain rfl := oi h
    exact Done.ret Z Z
   ·try dsimp only at h hq
    obtain ⟨rfl, hs⟩ := hq
    refine ⟨_, Sub.refl _ _, ?_⟩
    refine h9 (e8 ?_)
    obtain rfl := oi h
    exact hs
theorem E5 {xv : LL} {target : List Int} {cmp : (List Int) → (List Int) → Option Int} {r : Int × Bool} {fvcmp : FuncId} {cvcmp : List C} (hcvcmp : C.okL 0 cvcmp = true) (hcmp : ∀ {y1 : List Int} {y2 : List Int} {z : Int}, cmp y1 y2 = some z → f8 Tryz.prog fvcmp ([.c (row 1 intI y1), .c (row 1 intI y2)] ++ cvcmp.map T.c) (.c (int z))) (h : n7 xv target cmp = some r) : f8 Tryz.prog 71 [.c (row 1 d6 xv), .c (row 1 intI target), .c (.fn fvcmp cvcmp)] (.tup [.c (int r.1), .c (bool r.2)]) := by
 unfold f8
 refine FnOk.enter (rs := [.t 6, .t 7]) Tryz.func71 Z Tryz.ntmps71 Tryz.results71 Z ⟨trivial, trivial, Y⟩ (by kernel_rfl) Z ?_
 unfold n7 at h
 refine AWP.d (.f (.e Z Z (.e Z Z (.nil (b5 (.d (.f (.a Z Z (S.len Z Z (fun hl13 => .e Z Z (.nil (b5 (.d (.f (.a Z Z (.e Z Z (.e Z Z (.nil (b5 (.d (.k ?_)))))))))))))))))))))
 obtain ⟨iv6, ho1, h⟩ := b6 h
 refine AWP.loopS ho1 (fun (iv4, j5) => ⟨[(0, .c (row 1 d6 xv)), (1, .c (row 1 intI target)), (2, .c (.fn fvcmp cvcmp)), (8, .c (int (xv.length : Int))), (9, .c (int iv4)), (10, .c (int j5))], []⟩) (fun iv6 e st => e = .exit 0 ∧ Sub [] st ⟨[(0, .c (row 1 d6 xv)), (1, .c (row 1 intI target)), (2, .c (.fn fvcmp cvcmp)), (8, .c (int (xv.length : Int))), (9, .c (int iv6))], []⟩) ?_ ?_ ?_
 ·try dsimp only
  exact Sub.env ⟨Z, Z, Z, Z, Z, Z, Y⟩
 ·intro s o h
  obtain ⟨iv4, j5⟩ := s
  unfold E6 at h
  try dsimp only at h ⊢
  refine AWP.d (.d (.f (.a Z Z (.a Z Z (.j Z Z Z (.nil (b5 (.ite Z h (fun hc7 h => ?_) (fun hc7 h => ?_)))))))))
  ·refine AWP.skip (b5 (.k (.d (.f (.a Z Z (.a Z Z (S.add Z Z Z (.z Z Z (.shr Z Z Z (by decide) Z (.z Z Z (.e Z Z (.nil (b5 (.d ?_))))))))))))))
   obtain ⟨a27, ha27, a30, ha30, h⟩ := b2 h
   refine AWP.f (.a Z Z (.a Z Z (.a Z Z (S.idx ha27 Z Z Z Z (.o Z Z Z Z (.a Z Z (.l Z Z (ab8 Z hcvcmp) Z (hcmp ha30) Z (.j Z Z Z (.nil (b5 (.ite Z h (fun hc8 h => ?_) (fun hc8 h => ?_))))))))))))
   ·refine AWP.f (.a Z Z (S.add Z Z Z (.e Z Z (.nil (d7 ?_)))))
    obtain rfl := oi h
    refine b5 ⟨_, Z, ?_⟩
    exact Sub.env ⟨Z, Z, Z, Z, Z, Z, Y⟩
   ·refine AWP.f (.a Z Z (.e Z Z (.nil (d7 ?_))))
    obtain rfl := oi h
    refine b5 ⟨_, Z, ?_⟩
    exact Sub.env ⟨Z, Z, Z, Z, Z, Z, Y⟩
  ·refine AWP.exit (d8 ?_)
   obtain rfl := oi h
   refine d8 ⟨_, Z, Z, ?_⟩
   exact Sub.env ⟨Z, Z, Z, Z, Z, Y⟩
 ·intro e s hq
  obtain ⟨rfl, hs⟩ := hq
  refine ⟨_, hs, ?_⟩
  refine g8 (b5 ?_)
  obtain ⟨t9, hx10, h⟩ := b6 h
  refine AWP.seqJ (⟨[(6, .c (int iv6)), (7, .c (bool t9))], []⟩) ?_ ?_
  ·rcases bft (decide (iv6 < (xv.length : Int))) with hb11 | hb11
   ·replace hx10 := C2 hb11 hx10
    obtain ⟨a43, ha43, a46, ha46, hx10⟩ := b2 hx10
    refine AWP.f (.a Z Z (.a Z Z (.a Z Z (.j Z Z Z (.a Z Z (.g Z Z Z hb11 (.a Z Z (.g Z Z Z hb11 (.a Z Z (.g Z Z Z hb11 (.a Z Z (.g Z Z Z hb11 (S.idx ha43 Z Z Z Z (.g Z Z Z hb11 (.o Z Z Z Z (.g Z Z Z hb11 (.a Z Z (.g Z Z Z hb11 (.l Z Z (ab8 Z hcvcmp) Z (hcmp ha46) Z (.g Z Z Z hb11 (.v Z Z Z (.p Z hb11 Z Z (.e Z Z (.e Z Z (.nil ?_)))))))))))))))))))))))))
    obtain rfl := oi hx10
    refine b5 (Sub.env ⟨Z, Z, Y⟩)
   ·replace hx10 := B9 hb11 hx10
    refine AWP.f (.a Z Z (.a Z Z (.a Z Z (.j Z Z Z (.a Z Z (.i Z Z Z hb11 (.i Z Z Z hb11 (.i Z Z Z hb11 (.i Z Z Z hb11 (.i Z Z Z hb11 (.i Z Z Z hb11 (.i Z Z Z hb11 (.i Z Z Z hb11 (.n Z hb11 Z Z (.e Z Z (.e Z Z (.nil ?_)))))))))))))))))
    obtain rfl := oi hx10
    refine b5 (Sub.env ⟨Z, Z, Y⟩)
  ·refine AWP.ret ?_
   obtain rfl := oi h
   exact Done.ret Z Z
theorem aa1 {l : LL} {r : LL} (h : u6 l = some r) : FnOk Tryz.prog 100 [.c (.own 0 0 l.length), .c (.fn 82 [])] (x8 l) (fun tt ss => tt = .c (.own 1 0 r.length) ∧ ss = [.dead, .one (vec 1 d6 r)]) := by
 refine FnOk.enter (rs := [.t 4]) Tryz.func100 Z Tryz.ntmps100 Tryz.results100 Z ⟨trivial, Y⟩ (by kernel_rfl) Z ?_
 refine AWP.weak ?_
 unfold u6 at h
 refine AWP.a (env' := [(0, .c (.own 1 0 l.length)), (1, .c (.fn 82 []))]) (σ' := [.dead, .one (vec 1 d6 l)]) 1 0 Z Z Z ⟨Z, Z, Y⟩ Z ⟨trivial, ⟨Blk.im_ok _ _ _, l8 Z⟩, Y⟩ (.d (.f (.e Z Z (.nil (b5 (.d (.d (.f (.a Z Z (S.lenO Z Z Z (fun hl9 => .j Z Z Z (.nil (b5 (.ite Z h (fun hc53 h => ?_) (fun hc53 h => ?_)))))))))))))))
 ·refine AWP.d (.f (.a Z Z (.e Z Z (.nil (b5 (.ret (e8 ?_)))))))
  obtain rfl := oi h
  exact ⟨⟨[(4, .c (.own 1 0 l.length))], [.dead, .one (vec 1 d6 l)]⟩, Sub.env ⟨Z, Y⟩, Done.ret Z ⟨Z, Z⟩⟩
 ·refine AWP.skip (b5 (.d (.d (.f (.e Z Z (.nil (b5 (.k ?_))))))))
  obtain ⟨oo, ho1, h⟩ := b6 h
  refine AWP.rngS ho1 (fun kv54 _ => ⟨[(0, .c (.own 1 0 l.length)), (1, .c (.fn 82 [])), (5, .c (int kv54))], [.dead, .one (vec 1 d6 l)]⟩) (fun o e st => match o with | .inl _ => e = .exit 0 ∧ Sub (x8 l) st ⟨[(0, .c (.own 1 0 l.length))], [.dead, .one (vec 1 d6 l)]⟩ | .inr x => e = .ret ∧ ∃ J, Sub (x8 l) st J ∧ Done [.t 4] (fun tt ss => tt = .c (.own 1 0 x.length) ∧ ss = [.dead, .one (vec 1 d6 x)]) .ret J) ?_ ?_ ?_ ?_
  ·try dsimp only
   exact Sub.env ⟨Z, Z, Z, Y⟩
  ·intro kv54 s hlokv54 hltkv54 _
   try dsimp only
   refine AWP.d (.d (.f (.a Z Z (.a Z Z (S.lenO Z Z Z (fun hl14 => .j Z Z Z (.nil (b5 (.q Z hltkv54 (.exit (d8 (d8 ⟨Z, ?_⟩))))))))))))
   exact Sub.env ⟨Z, Y⟩
  ·intro kv54 s o hlokv54 hltkv54 h
   unfold o8 at h
   try dsimp only at h ⊢
   refine AWP.d (.d (.f (.a Z Z (.a Z Z (S.lenO Z Z Z (fun hl14 => .j Z Z Z (.nil (b5 (.r Z hltkv54 (.skip (b5 (.d (.k (.d ?_))))))))))))))
   obtain ⟨a21, ha21, a26, ha26, a28, ha28, h⟩ := b3 h
   refine AWP.drawI mixed Z ?_
   refine i5.consF Z (fun E => AOps.a Z Z (.nil ⟨Z, Z⟩)) Z (.consF Z (fun E => AOps.a Z Z (.nil ⟨Z, Z⟩)) Z (.consF Z (fun E => AOps.a Z Z (.nil ⟨Z, Z⟩)) Z (.consF Z (fun E => S.idxO ha21 Z Z Z Z Z (.nil ⟨Z, Z⟩)) Z (.consF Z (fun E => S.loadO ha21 Z Z Z Z Z (.nil ⟨Z, Z⟩)) Z (.consF Z (fun E => AOps.a Z Z (.nil ⟨Z, Z⟩)) Z (.consF Z (fun E => AOps.a Z Z (.nil ⟨Z, Z⟩)) Z (.consF Z (fun E => AOps.sub' Z Z Z (by omega) (.nil ⟨Z, Z⟩)) Z (.consF Z (fun E => S.idxO ha26 Z Z Z Z Z (.nil ⟨Z, Z⟩)) Z (.consF Z (fun E => S.loadO ha26 Z Z Z Z Z (.nil ⟨Z, Z⟩)) Z (.consF Z (fun E => AOps.l Z Z Z Z (J8 ha28) Z (.nil ⟨Z, Z⟩)) Z ?_))))))))))
   refine i5.done ?_
   dsimp only [j6]
   refine b5 (.s Z h (fun hc55 h => ?_) (fun hc55 h => ?_))
   ·refine AWP.d ?_
    obtain ⟨u31, hu31, h⟩ := b6 h
    refine AWP.f (.a Z Z (.a Z Z (S.vFrom (Y4 l) hu31 Z Z Z Z Z Z (.e Z Z (.nil (b5 (.d (.d (.f (.e Z Z (.nil (b5 (.k ?_)))))))))))))
    obtain ⟨⟨c56, kv57⟩, ho2, h⟩ := b6 h
    try dsimp only at h
    refine AWP.forS ho2 (fun k258 (c56, kv57) => ⟨[(0, .c (.own 1 0 c56.length)), (1, .c (.fn 82 [])), (5, .c (int kv57)), (6, .c (.own 1 ((0 + kv54).toNat) (((l.length : Int) - kv54).toNat))), (7, .c (int k258))], [.dead, .one (vec 1 d6 c56)]⟩) (fun (c56, kv57) e st => e = .exit 2 ∧ Sub (x8 l) st ⟨[(0, .c (.own 1 0 c56.length)), (5, .c (int kv57))], [.dead, .one (vec 1 d6 c56)]⟩) ?_ ?_ ?_ ?_
    ·try dsimp only
     exact Sub.env ⟨Z, Z, Z, Z, Z, Y⟩
    ·intro k258 s hlok258 hltk258 _
     obtain ⟨c56, kv57⟩ := s
     try dsimp only
     refine AWP.d (.d (.f (.a Z Z (.a Z Z (S.lenV (S8 (vw_cut (Y4 l) hu31)).2.1 Z Z Z (fun hl34 => .j Z Z Z (.nil (b5 (.q Z hltk258 (.exit (d8 (d8 ⟨Z, ?_⟩))))))))))))
     exact Sub.env ⟨Z, Z, Y⟩
    ·intro k258 s o hlok258 hltk258 h
     obtain ⟨c56, kv57⟩ := s
     unfold r7 at h
     try dsimp only at h ⊢
     refine AWP.d (.d (.f (.a Z Z (.a Z Z (S.lenV (S8 (vw_cut (Y4 l) hu31)).2.1 Z Z Z (fun hl34 => .j Z Z Z (.nil (b5 (.r Z hltk258 (.skip (b5 ?_)))))))))))
     obtain ⟨⟨c59, kv60⟩, hx61, h⟩ := b6 h
     refine AWP.seqJ (⟨[(0, .c (.own 1 0 c59.length)), (1, .c (.fn 82 [])), (5, .c (int kv60)), (6, .c (.own 1 ((0 + kv54).toNat) (((l.length : Int) - kv54).toNat))), (7, .c (int k258))], [.dead, .one (vec 1 d6 c59)]⟩) ?_ ?_
     ·refine AWP.k (.d ?_)
      obtain ⟨a41, ha41, a46, ha46, a48, ha48, hx61⟩ := b3 hx61
      refine AWP.drawI mixed Z ?_
      refine i5.consF Z (fun E => AOps.a Z Z (.nil ⟨Z, Z⟩)) Z (.consF Z (fun E => AOps.a Z Z (.nil ⟨Z, Z⟩)) Z (.consF Z (fun E => AOps.a Z Z (.nil ⟨Z, Z⟩)) Z (.consF Z (fun E => S.idxV ha41 Z Z Z Z (.nil ⟨Z, Z⟩)) Z (.consF Z (fun E => S.loadO (ixV_ix ha41) Z Z Z Z Z (.nil ⟨Z, Z⟩)) Z (.consF Z (fun E => AOps.a Z Z (.nil ⟨Z, Z⟩)) Z (.consF Z (fun E => AOps.a Z Z (.nil ⟨Z, Z⟩)) Z (.consF Z (fun E => AOps.sub' Z Z Z (by omega) (.nil ⟨Z, Z⟩)) Z (.consF Z (fun E => S.idxV ha46 Z Z Z Z (.nil ⟨Z, Z⟩)) Z (.consF Z (fun E => S.loadO (ixV_ix ha46) Z Z Z Z Z (.nil ⟨Z, Z⟩)) Z (.consF Z (fun E => AOps.l Z Z Z Z (J8 ha48) Z (.nil ⟨Z, Z⟩)) Z (.consF Z (fun E => AOps.u Z Z (.nil ⟨Z, Z⟩)) Z ?_)))))))))))
      refine i5.done ?_
      dsimp only [j6]
      refine b5 (.s Z hx61 (fun hc62 hx61 => ?_) (fun hc62 hx61 => ?_))
      ·refine AWP.d ?_
       obtain ⟨a54, ha54, a56, ha56, hx61⟩ := b2 hx61
       refine AWP.f (.a Z Z (.a Z Z (.a Z Z (.a Z Z (S.idxV ha54 Z Z Z Z (S.loadO (ixV_ix ha54) Z Z Z Z Z (S.idxO ha56 Z Z Z Z Z (S.storeO1 (f := d6) (a' := a54) (x5 ha56) (fun _ => ⟨_, Z⟩) Z Z Z Z Z ?_))))))))
       refine AOps.nil (b5 (.f (.a Z Z (S.add Z Z Z (.e Z Z (.nil (d7 ?_)))))))
       obtain ⟨ej0, ej1⟩ := o2 hx61
       subst ej0 ej1
       refine b5 (Sub.env ⟨(x9 (by first | rfl | simp only [List.length_set])), Z, Z, Z, Z, Y⟩)
      ·refine AWP.skip (d7 ?_)
       obtain ⟨ej0, ej1⟩ := o2 hx61
       subst ej0 ej1
       refine b5 (Sub.env ⟨Z, Z, Z, Z, Z, Y⟩)
     ·try dsimp only at h
      refine AWP.f (.a Z Z (.add Z Z Z (by omega) (.e Z Z (.nil ?_))))
      obtain rfl := oi h
      refine b5 (Sub.env ⟨Z, Z, Z, Z, Z, Y⟩)
    ·intro e s hq
     obtain ⟨rfl, hs⟩ := hq
     refine ⟨_, hs, ?_⟩
     refine g8 (b5 (.d ?_))
     obtain ⟨u61, hu61, h⟩ := b6 h
     refine AWP.f (.a Z Z (.a Z Z (S.vFrom (Y4 c56) hu61 Z Z Z Z Z Z (S.clear (a0 := []) Z Z Z (fun _ _ _ _ => .imm .slNil) (vw_cut (Y4 c56) hu61) Z Z Z Z Z ?_))))
     refine AOps.nil (b5 (.d ?_))
     obtain ⟨u64, hu64, h⟩ := b6 h
     refine AWP.f (.a Z Z (.a Z Z ?_))
     refine S.vTo (Y4 (clrL c56 (0 + kv57) ((c56.length : Int) - kv57) [])) hu64 Z Z (by rw [Int.toNat_natCast]; exact (clrL_len (vw_cut (Y4 c56) hu61)).symm) Z Z Z ?_
     refine AOps.e Z Z (.nil (b5 (.reown (env' := [(4, .c (.own 2 0 ((y7 (clrL c56 (0 + kv57) ((c56.length : Int) - kv57) []) 0 kv57).length)))]) 4 (vw_to (Y4 (clrL c56 (0 + kv57) ((c56.length : Int) - kv57) [])) hu64) Z Z Z Z Z Z Z Z (by exact ⟨.inl ⟨Z, Z⟩, Y⟩) (.ret (h9 (e8 ?_))))))
     obtain rfl := oi h
     refine e8 ⟨_, Z, Z, ?_⟩
     exact ⟨⟨[(4, .c (.own 1 0 ((y7 (clrL c56 (0 + kv57) ((c56.length : Int) - kv57) []) 0 kv57).length)))], [.dead, .one (vec 1 d6 (y7 (clrL c56 (0 + kv57) ((c56.length : Int) - kv57) []) 0 kv57))]⟩, (Sub.move (env' := [(4, .c (.own 1 0 ((y7 (clrL c56 (0 + kv57) ((c56.length : Int) - kv57) []) 0 kv57).length)))]) (σ' := [.dead, .one (vec 1 d6 (y7 (clrL c56 (0 + kv57) ((c56.length : Int) - kv57) []) 0 kv57))]) 1 2 Z Z Z ⟨Z, Y⟩ Z ⟨trivial, ⟨Blk.im_ok _ _ _, l8 Z⟩, Y⟩).trans (Sub.env ⟨Z, Y⟩), Done.ret Z ⟨Z, Z⟩⟩
   ·refine AWP.skip (d7 (b5 (.f (.a Z Z (.add Z Z Z (by omega) (.e Z Z (.nil ?_)))))))
    obtain rfl := oi h
    refine b5 ⟨_, Z, ?_⟩
    exact Sub.env ⟨Z, Z, Z, Y⟩
  ·intro e s hq
   rcases oo with u | x
   ·try dsimp only at h hq
    obtain ⟨rfl, hs⟩ := hq
    refine ⟨_, hs, ?_⟩
    refine g8 (b5 (.d (.f (.a Z Z (.e Z Z (.nil (b5 (.ret ?_))))))))
    obtain rfl := oi h
    exact ⟨⟨[(4, .c (.own 1 0 l.length))], [.dead, .one (vec 1 d6 l)]⟩, Sub.env ⟨Z, Y⟩, Done.ret Z ⟨Z, Z⟩⟩
   ·try dsimp only at h hq
    obtain ⟨rfl, hs⟩ := hq
    refine ⟨_, Sub.refl _ _, ?_⟩
    refine h9 (e8 ?_)
    obtain rfl := oi h
    exact hs
theorem T3 {l : LL} {r : LL} (h : D3 l = some r) : FnOk Tryz.prog 83 [.c (.own 0 0 l.length)] (am5 l) (fun tt ss => tt = .c (.own 2 0 r.length) ∧ ss = [.dead, .dead, .one (vec 1 d6 r)]) := by
 refine FnOk.enter (rs := [.t 2]) Tryz.func83 Z Tryz.ntmps83 Tryz.results83 Z ⟨trivial, Y⟩ (by kernel_rfl) Z ?_
 refine AWP.weak ?_
 unfold D3 at h
 refine AWP.a (env' := [(0, .c (.own 1 0 l.length))]) (σ' := [.dead, .one (vec 1 d6 l)]) 1 0 Z Z Z ⟨Z, Y⟩ Z ⟨trivial, ⟨Blk.im_ok _ _ _, l8 Z⟩, Y⟩ (.d (.f (.e Z Z (.nil (b5 (.d ?_))))))
 obtain ⟨a4, ha4, h⟩ := b6 h
 refine AWP.f (.a Z Z (S.sortF (fun x => .sl 1 (List.map intI x)) ha4 Z (fun hy => u3 hy) sortF_LLi64_ok (⟨_, Tryz.func72, Z, Z⟩) Z Z Z Z Z Z ?_))
 refine AOps.nil (b5 (.d ?_))
 obtain ⟨a6, ha6, h⟩ := b6 h
 refine AWP.f (.a Z Z ?_)
 refine AOps.callF (r2 := .c (.own 2 0 a6.length)) (σ'' := [.dead, .dead, .one (vec 1 d6 a6)]) Z Z Z (FnOk.lend [1] (aa1 ha6) Z Z Z Z Z Z (by exact ⟨.vec, Y⟩) (by rw [(sortFL_len ha4)] <;> rfl) (by exact ⟨(.live Z .vec), Y⟩) Z Z (by exact ⟨.dead, .dead, (.new 1 Z Z .vec), Y⟩)) ?_
 refine AOps.e Z Z (.nil (b5 (.ret ?_)))
 obtain rfl := oi h
 exact ⟨⟨[(2, .c (.own 2 0 a6.length))], [.dead, .dead, .one (vec 1 d6 a6)]⟩, Sub.env ⟨Z, Y⟩, Done.ret Z ⟨Z, Z⟩⟩
theorem G6 {ov : b9} {sv : List Int} {op : Int} {r : LL × (List Int)} (h : u5 ov sv op = some r) : f8 Tryz.prog 61 [.agg (tO ov), .c (row 1 intI sv), .c (int op)] (.tup [.c (row 1 d6 r.1), .c (row 1 intI r.2)]) := by
 unfold f8
 refine FnOk.enter (rs := [.t 6, .t 7]) Tryz.func61 Z Tryz.ntmps61 Tryz.results61 Z ⟨trivial, trivial, Y⟩ (by kernel_rfl) Z ?_
 unfold u5 at h
 refine AWP.d (.f (W.box Z Z Z Z Z Z (.e Z Z (.e Z Z (.nil (b5 (.d (.f (.e Z Z (.nil (b5 (.d (.d ?_)))))))))))))
 obtain ⟨a20, ha20, h⟩ := b6 h
 refine AWP.f (W.fieldAddr Z Z Z Z (.m Z Z Z Z Z Z (.a Z Z (S.idx ha20 Z Z Z Z (W.fieldAddrI Z Z Z Z (.o Z Z Z Z (S.len Z Z (fun hl23 => .a Z Z (.nil (b5 (.k (.virtV 1 d6 8 Z Z Z ?_))))))))))))
 obtain ⟨c4, ho1, h⟩ := b6 h
 refine AWP.forS ho1 (fun t5 c4 => ⟨[(1, .c (row 1 intI sv)), (2, .c (int op)), (3, .c (.ptr 0 0 0)), (8, .c (.own 1 0 c4.length)), (22, .c (row 3 p7 a20.outcomes)), (23, .c (int (a20.outcomes.length : Int))), (24, .c (int t5))], [.one (.cells 4 [(tO ov)]), .one (vec 1 d6 c4)]⟩) (fun c4 e st => e = .exit 0 ∧ Sub [] st ⟨[(2, .c (int op)), (3, .c (.ptr 0 0 0)), (8, .c (.own 1 0 c4.length))], [.one (.cells 4 [(tO ov)]), .one (vec 1 d6 c4)]⟩) ?_ ?_ ?_ ?_
 ·try dsimp only
  exact Sub.env ⟨Z, Z, Z, (x9 (by first | rfl | simp only [List.length_set])), Z, Z, Z, Y⟩
 ·intro t5 c4 hlot5 hltt5 _
  try dsimp only
  refine AWP.d (.f (.j Z Z Z (.nil (b5 (.d (.q Z hltt5 (.exit (d8 (d8 ⟨Z, ?_⟩)))))))))
  exact Sub.env ⟨Z, Z, Z, Y⟩
 ·intro t5 c4 o hlot5 hltt5 h
  unfold K9 at h
  try dsimp only at h ⊢
  refine AWP.d (.f (.j Z Z Z (.nil (b5 (.d (.r Z hltt5 (.skip (b5 (.d (.k (.d ?_)))))))))))
  obtain ⟨a26, ha26, h⟩ := b6 h
  refine AWP.f (S.idx ha26 Z Z Z Z (W.loadIAgg Z Z Z Z Z (W.alloc Z Z Z Z (W.storeAgg Z Z Z Z Z Z Z (.nil (b5 ?_))))))
  obtain ⟨a34, ha34, a36, ha36, h⟩ := b2 h
  refine AWP.f (.a Z Z (.a Z Z (W.fieldAddr Z Z Z Z (.m Z Z Z Z Z Z (W.fieldAddr Z Z Z Z (.m Z Z Z Z Z Z (S.fresh Z Z Z Z (ao7 ha34) Z Z (.frzV (id := 3) (l := a34) (env2 := [(1, .c (row 1 intI sv)), (2, .c (int op)), (3, .c (.ptr 0 0 0)), (22, .c (row 3 p7 a20.outcomes)), (23, .c (int (a20.outcomes.length : Int))), (24, .c (int t5)), (28, .c (.own 1 0 c4.length)), (34, .c (row 1 intI a34))]) (σ2 := [.one (.cells 4 [(tO ov)]), .one (vec 1 d6 c4), .one (.cells 3 [[row 1 intI a26.add, row 1 intI a26.del, int a26.weight]]), .dead]) Z Z (by exact ⟨⟨_, Z, .inl ⟨Z, Z⟩⟩, ⟨_, Z, .inl ⟨Z, Z⟩⟩, ⟨_, Z, .inl ⟨Z, Z⟩⟩, ⟨_, Z, .inl ⟨Z, Z⟩⟩, ⟨_, Z, .inl ⟨Z, Z⟩⟩, ⟨_, Z, .inl ⟨Z, Z⟩⟩, ⟨_, Z, .inl ⟨Z, Z⟩⟩, ⟨_, Z, .inr ⟨_, Z, Z, Z⟩⟩, Y⟩) Z (by exact ⟨⟨Z, .inl ⟨Z, Z⟩, .inl ⟨Z, Z⟩, .inl ⟨Z, Z⟩, .inl ⟨Z, Z⟩, Y⟩, FrzB.vec, ⟨Z, .inl ⟨Z, Z⟩, .inl ⟨Z, Z⟩, .inl ⟨Z, Z⟩, Y⟩, trivial, Y⟩) (S.lit (f := d6) (l := [a34]) (ess := [[row 1 intI a34]]) Z Z Z Z Z Z Z ⟨⟨.inl Z, Y⟩, Y⟩ Z Z Z (S.append (f := d6) ha36 Z Z Z Z Z Z (.own Z Z) Z Z Z Z (.e Z Z (.nil (d7 (b5 (.a (env' := [(1, .c (row 1 intI sv)), (2, .c (int op)), (3, .c (.ptr 0 0 0)), (8, .c (.own 1 0 a36.length)), (22, .c (row 3 p7 a20.outcomes)), (23, .c (int (a20.outcomes.length : Int))), (24, .c (int t5))]) (σ' := [.one (.cells 4 [(tO ov)]), .one (vec 1 d6 a36), .one (.cells 3 [[row 1 intI a26.add, row 1 intI a26.del, int a26.weight]]), .dead, .one (vec 1 d6 [a34])]) 1 5 Z Z Z ⟨Z, Z, Z, Z, Z, Z, Z, Y⟩ Z ⟨⟨Z, Z⟩, ⟨Blk.im_ok _ _ _, l8 Z⟩, ⟨Z, Z⟩, trivial, ⟨Blk.im_ok _ _ _, l8 Z⟩, Y⟩ (.f (.add Z Z Z (by omega) (.a Z Z (.nil ?_)))))))))))))))))))
  obtain rfl := oi h
  refine b5 (Sub.cut ⟨Z, Z, Z, Z, Z, Z, Z, Y⟩ Z ⟨.one Z, .vec, Y⟩ Z)
 ·intro e s hq
  obtain ⟨rfl, hs⟩ := hq
  refine ⟨_, hs, ?_⟩
  refine g8 (b5 (.d ?_))
  obtain ⟨a39, ha39, a40, ha40, h⟩ := b2 h
  refine AWP.f (.a Z Z (.frzV (id := 1) (l := c4) (env2 := [(2, .c (int op)), (3, .c (.ptr 0 0 0)), (8, .c (row 1 d6 c4)), (38, .c (row 1 d6 c4))]) (σ2 := [.one (.cells 4 [(tO ov)]), .dead]) Z Z (by exact ⟨⟨_, Z, .inl ⟨Z, Z⟩⟩, ⟨_, Z, .inl ⟨Z, Z⟩⟩, ⟨_, Z, .inr ⟨_, Z, Z, Z⟩⟩, ⟨_, Z, .inr ⟨_, Z, Z, Z⟩⟩, Y⟩) Z (by exact ⟨⟨Z, .inl ⟨Z, Z⟩, .inl ⟨Z, Z⟩, .inl ⟨Z, Z⟩, .inl ⟨Z, Z⟩, Y⟩, trivial, Y⟩) (S.fresh Z Z Z Z (ag3 ha39) Z Z (.callF (r2 := .c (.own 4 0 a40.length)) (σ'' := [.one (.cells 4 [(tO ov)]), .dead, .dead, .dead, .one (vec 1 d6 a40)]) Z Z Z (FnOk.lend [2] (T3 ha40) Z Z Z Z Z Z (by exact ⟨.vec, Y⟩) Z (by exact ⟨(.live Z .vec), Y⟩) Z Z (by exact ⟨(.old Z Z Z), .dead, .dead, .dead, (.new 2 Z Z .vec), Y⟩)) (.e Z Z (.nil (b5 (.d ?_))))))))
  obtain ⟨a43, ha43, h⟩ := b6 h
  refine AWP.f (.a Z Z (S.lenO Z Z Z (fun hl42 => S.make (f := intI) ha43 (.val .nil) Z Z Z Z Z Z (.e Z Z (.nil (b5 (.d (.d ?_))))))))
  obtain ⟨a47, ha47, h⟩ := b6 h
  refine AWP.f (W.fieldAddr Z Z Z Z (.m Z Z Z Z Z Z (.a Z Z (S.idx ha47 Z Z Z Z (W.fieldAddrI Z Z Z Z (.o Z Z Z Z (S.len Z Z (fun hl50 => .a Z Z (.nil (b5 (.k ?_)))))))))))
  obtain ⟨c6, ho2, h⟩ := b6 h
  refine AWP.forS ho2 (fun t7 c6 => ⟨[(8, .c (row 1 d6 c4)), (11, .c (.own 4 0 a40.length)), (12, .c (.own 5 0 c6.length)), (49, .c (row 3 p7 a47.outcomes)), (50, .c (int (a47.outcomes.length : Int))), (51, .c (int t7))], [.dead, .dead, .dead, .dead, .one (vec 1 d6 a40), .one (vec 1 intI c6)]⟩) (fun c6 e st => e = .exit 2 ∧ Sub [] st ⟨[(11, .c (.own 4 0 a40.length)), (12, .c (.own 5 0 c6.length))], [.dead, .dead, .dead, .dead, .one (vec 1 d6 a40), .one (vec 1 intI c6)]⟩) ?_ ?_ ?_ ?_
  ·try dsimp only
   exact Sub.cut ⟨Z, Z, Z, Z, Z, Z, Y⟩ Z ⟨.dead, .dead, .dead, .dead, .vec, .vec, Y⟩ Z
  ·intro t7 c6 hlot7 hltt7 _
   try dsimp only
   refine AWP.d (.f (.j Z Z Z (.nil (b5 (.d (.q Z hltt7 (.exit (d8 (d8 ⟨Z, ?_⟩)))))))))
   exact Sub.env ⟨Z, Z, Y⟩
  ·intro t7 c6 o hlot7 hltt7 h
   unfold G9 at h
   try dsimp only at h ⊢
   refine AWP.d (.f (.j Z Z Z (.nil (b5 (.d (.r Z hltt7 (.skip (b5 (.d (.k (.d ?_)))))))))))
   obtain ⟨a54, ha54, h⟩ := b6 h
   refine AWP.f (.a Z Z (S.idx ha54 Z Z Z Z (W.loadIAgg Z Z Z Z Z (W.alloc Z Z Z Z (.e Z Z (W.storeAgg Z Z Z Z Z Z Z (.nil (b5 (.d ?_)))))))))
   obtain ⟨a60, ha60, a62, ha62, h⟩ := b2 h
   refine AWP.f (.a Z Z (.a Z Z (.a Z Z (S.idx ha60 Z Z Z Z (.o Z Z Z Z (.y Z Z (.cons (.c (.own Z Z)) (.cons (.c .imm) (.cons (.c (.fn .nil)) .nil))) Z (E5 Z (fun hy => u3 hy) ha62) Z ?_))))))
   refine AOps.a Z Z (.w Z Z Z (.w Z Z Z (.e Z Z (.e Z Z (.nil (b5 ?_))))))
   obtain ⟨a67, ha67, a72, ha72, h⟩ := b2 h
   refine AWP.drawEI [8] mixed Z Z Z ?_
   refine g9.consN Z Z (fun E => AOps.a Z Z (.nil ⟨Z, Z⟩)) Z (.consN Z Z (fun E => AOps.a Z Z (.nil ⟨Z, Z⟩)) Z (.consN Z Z (fun E => S.idxO ha67 Z Z Z Z Z (.nil ⟨Z, Z⟩)) Z (.consN Z Z (fun E => S.loadO ha67 Z Z Z Z Z (.nil ⟨Z, Z⟩)) Z (.consN Z Z (fun E => W.fieldAddr Z Z Z Z (.nil ⟨Z, Z⟩)) Z (.consN Z Z (fun E => AOps.m Z Z Z Z Z Z (.nil ⟨Z, Z⟩)) Z (.consN Z Z (fun E => S.add Z Z Z (.nil ⟨Z, Z⟩)) Z (.consN Z Z (fun E => S.idxO ha72 Z Z Z Z Z (.nil ⟨Z, Z⟩)) Z ?_)))))))
   apply g9.consE (v := .undef); exact Z; exact Z; intro E
   refine S.storeO1 (f := intI) (a' := w64 (a67 + a54.weight)) (x5 ha72) (fun _ => ⟨_, Z⟩) Z Z Z Z Z ?_
   exact AOps.nil ⟨Z, Z⟩
   exact Z
   exact Z
   refine g9.done Z ?_ ?_
   ·refine e9.cons Z Z ?_ ?_
    refine b8.go Z Z (fun E => AOps.a Z Z (AOps.nil ⟨Z, Z⟩)) ?_
    refine b8.skip Z (b8.nil)
    refine e9.cons Z Z ?_ ?_
    refine b8.go Z Z (fun E => AOps.a Z Z (AOps.nil ⟨Z, Z⟩)) ?_
    refine b8.skip Z (b8.nil)
    refine e9.cons Z Z ?_ ?_
    refine b8.go Z Z (fun E => S.idxO ha67 Z Z Z Z Z (AOps.nil ⟨Z, Z⟩)) ?_
    refine b8.skip Z (b8.nil)
    refine e9.cons Z Z ?_ ?_
    refine b8.go Z Z (fun E => S.loadO ha67 Z Z Z Z Z (AOps.nil ⟨Z, Z⟩)) ?_
    refine b8.skip Z (b8.nil)
    refine e9.cons Z Z ?_ ?_
    refine b8.go Z Z (fun E => W.fieldAddr Z Z Z Z (AOps.nil ⟨Z, Z⟩)) ?_
    refine b8.skip Z (b8.nil)
    refine e9.cons Z Z ?_ ?_
    refine b8.go Z Z (fun E => AOps.m Z Z Z Z Z Z (AOps.nil ⟨Z, Z⟩)) ?_
    refine b8.skip Z (b8.nil)
    refine e9.cons Z Z ?_ ?_
    refine b8.go Z Z (fun E => S.add Z Z Z (AOps.nil ⟨Z, Z⟩)) ?_
    refine b8.skip Z (b8.nil)
    refine e9.cons Z Z ?_ ?_
    refine b8.go Z Z (fun E => S.idxO ha72 Z Z Z Z Z (AOps.nil ⟨Z, Z⟩)) ?_
    refine b8.skip Z (b8.nil)
    refine e9.skip Z (e9.nil)
   dsimp only [j6]
   refine d7 (b5 (.f (.add Z Z Z (by omega) (.a Z Z (.nil ?_)))))
   obtain rfl := oi h
   refine b5 (Sub.cut ⟨Z, Z, (x9 (by first | rfl | simp only [List.length_set])), Z, Z, Z, Y⟩ Z ⟨.dead, .dead, .dead, .dead, .vec, .vec, Y⟩ Z)
  ·intro e s hq
   obtain ⟨rfl, hs⟩ := hq
   refine ⟨_, hs, ?_⟩
   refine g8 (b5 (.d (.f (.a Z Z (.a Z Z (.e Z Z (.e Z Z (.nil (b5 (.frzV (id := 4) (l := a40) (env2 := [(6, .c (row 1 d6 a40)), (7, .c (.own 5 0 c6.length))]) (σ2 := [.dead, .dead, .dead, .dead, .dead, .one (vec 1 intI c6)]) Z Z (by exact ⟨⟨_, Z, .inr ⟨_, Z, Z, Z⟩⟩, ⟨_, Z, .inl ⟨Z, Z⟩⟩, Y⟩) Z (by exact ⟨trivial, trivial, trivial, trivial, trivial, FrzB.vec, Y⟩) (.frzV (id := 5) (l := c6) (env2 := [(6, .c (row 1 d6 a40)), (7, .c (row 1 intI c6))]) (σ2 := [.dead, .dead, .dead, .dead, .dead, .dead]) Z Z (by exact ⟨⟨_, Z, .inl ⟨Z, Z⟩⟩, ⟨_, Z, .inr ⟨_, Z, Z, Z⟩⟩, Y⟩) Z (by exact ⟨trivial, trivial, trivial, trivial, trivial, trivial, Y⟩) (.ret ?_))))))))))))
   obtain rfl := oi h
   exact Done.ret Z Z
theorem open_Reach_ok {ov : b9} {r : LL × Bool} (h : C0 ov = some r) : f8 Tryz.prog 69 [.agg (tO ov)] (.tup [.c (row 1 d6 r.1), .c (bool r.2)]) := by
 unfold f8
 refine FnOk.enter (rs := [.t 2, .t 3]) Tryz.func69 Z Tryz.ntmps69 Tryz.results69 Z ⟨trivial, trivial, Y⟩ (by kernel_rfl) Z ?_
 unfold C0 at h
 refine AWP.d (.f (W.box Z Z Z Z Z Z (.e Z Z (.e Z Z (.nil (b5 (.d ?_)))))))
 obtain ⟨a15, ha15, h⟩ := b6 h
 refine AWP.f (W.fieldAddr Z Z Z Z (.m Z Z Z Z Z Z (S.fresh Z Z Z Z (K0 ha15) Z Z (.frzV (id := 1) (l := a15) (env2 := [(1, .c (.ptr 0 0 0)), (15, .c (row 1 intI a15))]) (σ2 := [.one (.cells 4 [(tO ov)]), .dead]) Z Z (by exact ⟨⟨_, Z, .inl ⟨Z, Z⟩⟩, ⟨_, Z, .inr ⟨_, Z, Z, Z⟩⟩, Y⟩) Z (by exact ⟨⟨Z, .inl ⟨Z, Z⟩, .inl ⟨Z, Z⟩, .inl ⟨Z, Z⟩, .inl ⟨Z, Z⟩, Y⟩, trivial, Y⟩) (S.lit (f := d6) (l := [a15]) (ess := [[row 1 intI a15]]) Z Z Z Z Z Z Z ⟨⟨.inl Z, Y⟩, Y⟩ Z Z Z (.e Z Z (.nil (b5 (.d ?_)))))))))
 obtain ⟨a19, ha19, h⟩ := b6 h
 refine AWP.f (W.makeMap Value.string (Value.int .i64) Z Z Z (.a Z Z (.y Z Z (.cons (.c (.own Z Z)) .nil) Z (al3 ha19) Z (W.insert (fk := Value.string) (fv := (Value.int .i64)) (k := a19) (a := 1) keyStr Z Z Z Z Z (.a Z Z (.e Z Z (.nil (b5 (.d (.d (.f (.e Z Z (.nil (b5 (.k ?_)))))))))))))))
 obtain ⟨oo, ho1, h⟩ := b6 h
 refine AWP.loopS ho1 (fun (c2, c3, atv4) => ⟨[(1, .c (.ptr 0 0 0)), (4, .c (.own 2 0 c2.length)), (5, .c (.map 3)), (6, .c (int atv4))], [.one (.cells 4 [(tO ov)]), .dead, .one (vec 1 d6 c2), .one (mapB Value.string (Value.int .i64) c3)]⟩) (fun o e st => match o with | .inl c5 => e = .exit 0 ∧ Sub [] st ⟨[(4, .c (.own 2 0 c5.length))], [.dead, .dead, .one (vec 1 d6 c5)]⟩ | .inr x => e = .ret ∧ Done [.t 2, .t 3] (fun t _ => t = .tup [.c (row 1 d6 x.1), .c (bool x.2)]) .ret st) ?_ ?_ ?_
 ·try dsimp only
  exact Sub.env ⟨Z, Z, Z, Z, Y⟩
 ·intro s o h
  obtain ⟨c2, c3, atv4⟩ := s
  unfold A8 at h
  try dsimp only at h ⊢
  refine AWP.d (.d (.f (.a Z Z (.a Z Z (S.lenO Z Z Z (fun hl23 => .j Z Z Z (.nil (b5 (.ite Z h (fun hc6 h => ?_) (fun hc6 h => ?_))))))))))
  ·refine AWP.skip (b5 (.d (.k (.d (.f (W.fieldAddr Z Z Z Z (.m Z Z Z Z Z Z (S.len Z Z (fun hl29 => .a Z Z (.nil (b5 (.k ?_))))))))))))
   obtain ⟨oo, ho2, h⟩ := b6 h
   refine AWP.rngS ho2 (fun t9 (c7, c8) => ⟨[(1, .c (.ptr 0 0 0)), (4, .c (.own 2 0 c7.length)), (5, .c (.map 3)), (6, .c (int atv4)), (29, .c (int (ov.operators.length : Int))), (30, .c (int t9))], [.one (.cells 4 [(tO ov)]), .dead, .one (vec 1 d6 c7), .one (mapB Value.string (Value.int .i64) c8)]⟩) (fun o e st => match o with | .inl (c7, c8) => e = .exit 2 ∧ Sub [] st ⟨[(1, .c (.ptr 0 0 0)), (4, .c (.own 2 0 c7.length)), (5, .c (.map 3)), (6, .c (int atv4))], [.one (.cells 4 [(tO ov)]), .dead, .one (vec 1 d6 c7), .one (mapB Value.string (Value.int .i64) c8)]⟩ | .inr x => e = .ret ∧ Done [.t 2, .t 3] (fun t _ => t = .tup [.c (row 1 d6 x.1), .c (bool x.2)]) .ret st) ?_ ?_ ?_ ?_
   ·try dsimp only
    exact Sub.env ⟨Z, Z, Z, Z, Z, Z, Y⟩
   ·intro t9 s hlot9 hltt9 _
    obtain ⟨c7, c8⟩ := s
    try dsimp only
    refine AWP.d (.f (.j Z Z Z (.nil (b5 (.d (.q Z hltt9 (.exit (d8 (d8 ⟨Z, ?_⟩)))))))))
    exact Sub.env ⟨Z, Z, Z, Z, Y⟩
   ·intro t9 s o hlot9 hltt9 h
    obtain ⟨c7, c8⟩ := s
    unfold D9 at h
    try dsimp only at h ⊢
    refine AWP.d (.f (.j Z Z Z (.nil (b5 (.d (.r Z hltt9 (.skip (b5 (.seqF (X3) o (fun (c10, c11) => ⟨[(1, .c (.ptr 0 0 0)), (4, .c (.own 2 0 c10.length)), (5, .c (.map 3)), (6, .c (int atv4)), (29, .c (int (ov.operators.length : Int))), (30, .c (int t9))], [.one (.cells 4 [(tO ov)]), .dead, .one (vec 1 d6 c10), .one (mapB Value.string (Value.int .i64) c11)]⟩) (fun x h => ?_) ?_)))))))))
    ·obtain ⟨c10, c11⟩ := x
     unfold X3 at h
     try dsimp only at h ⊢
     refine AWP.f (.add Z Z Z (by omega) (.a Z Z (.nil ?_)))
     obtain rfl := oi h
     refine b5 ⟨_, Z, ?_⟩
     exact Sub.env ⟨Z, Z, Z, Z, Z, Z, Y⟩
    ·refine AWP.k (.d (.f (.a Z Z (.e Z Z (.nil (b5 (.d (.d ?_))))))))
     obtain ⟨a36, ha36, a39, ha39, h⟩ := b2 h
     refine AWP.drawI mixed Z ?_
     refine i5.consF Z (fun E => W.loadAgg Z Z Z Z Z Z Z (.nil ⟨Z, Z⟩)) Z (.consF Z (fun E => AOps.a Z Z (.nil ⟨Z, Z⟩)) Z (.consF Z (fun E => AOps.a Z Z (.nil ⟨Z, Z⟩)) Z (.consF Z (fun E => S.idxO ha36 Z Z Z Z Z (.nil ⟨Z, Z⟩)) Z (.consF Z (fun E => S.loadO ha36 Z Z Z Z Z (.nil ⟨Z, Z⟩)) Z (.consF Z (fun E => AOps.a Z Z (.nil ⟨Z, Z⟩)) Z (.consF Z (fun E => AOps.l Z Z Z Z (ad3 ha39) Z (.nil ⟨Z, Z⟩)) Z (.consF Z (fun E => AOps.u Z Z (.nil ⟨Z, Z⟩)) Z ?_)))))))
     refine i5.done ?_
     dsimp only [j6]
     refine b5 (.s Z h (fun hc12 h => ?_) (fun hc12 h => ?_))
     ·refine AWP.exit (d8 (g8 (b5 ⟨_, h, ?_⟩)))
      exact Sub.env ⟨Z, Z, Z, Z, Z, Z, Y⟩
     ·refine AWP.skip (b5 (.d ?_))
      obtain ⟨a45, ha45, a48, ha48, h⟩ := b2 h
      refine AWP.drawI mixed Z ?_
      refine i5.consF Z (fun E => W.loadAgg Z Z Z Z Z Z Z (.nil ⟨Z, Z⟩)) Z (.consF Z (fun E => AOps.a Z Z (.nil ⟨Z, Z⟩)) Z (.consF Z (fun E => AOps.a Z Z (.nil ⟨Z, Z⟩)) Z (.consF Z (fun E => S.idxO ha45 Z Z Z Z Z (.nil ⟨Z, Z⟩)) Z (.consF Z (fun E => S.loadO ha45 Z Z Z Z Z (.nil ⟨Z, Z⟩)) Z (.consF Z (fun E => AOps.a Z Z (.nil ⟨Z, Z⟩)) Z (.consF Z (fun E => AOps.l Z Z Z Z (G6 ha48) Z (.nil ⟨Z, Z⟩)) Z (.consF Z (fun E => AOps.a Z Z (.nil ⟨Z, Z⟩)) Z (.consF Z (fun E => AOps.w Z Z Z (.nil ⟨Z, Z⟩)) Z (.consF Z (fun E => AOps.w Z Z Z (.nil ⟨Z, Z⟩)) Z (.consF Z (fun E => AOps.e Z Z (.nil ⟨Z, Z⟩)) Z (.consF Z (fun E => AOps.e Z Z (.nil ⟨Z, Z⟩)) Z ?_)))))))))))
      refine i5.done ?_
      dsimp only [j6]
      refine b5 (.d (.f (.a Z Z (S.len Z Z (fun hl52 => .a Z Z (.nil (b5 (.k ?_))))))))
      obtain ⟨oo, ho4, h⟩ := b6 h
      refine AWP.rngS ho4 (fun t15 (c13, c14) => ⟨[(1, .c (.ptr 0 0 0)), (4, .c (.own 2 0 c13.length)), (5, .c (.map 3)), (6, .c (int atv4)), (29, .c (int (ov.operators.length : Int))), (30, .c (int t9)), (51, .c (row 1 d6 a48.1)), (52, .c (int (a48.1.length : Int))), (53, .c (int t15))], [.one (.cells 4 [(tO ov)]), .dead, .one (vec 1 d6 c13), .one (mapB Value.string (Value.int .i64) c14)]⟩) (fun o e st => match o with | .inl (c13, c14) => e = .exit 4 ∧ Sub [] st ⟨[(1, .c (.ptr 0 0 0)), (4, .c (.own 2 0 c13.length)), (5, .c (.map 3)), (6, .c (int atv4)), (29, .c (int (ov.operators.length : Int))), (30, .c (int t9))], [.one (.cells 4 [(tO ov)]), .dead, .one (vec 1 d6 c13), .one (mapB Value.string (Value.int .i64) c14)]⟩ | .inr x => e = .ret ∧ Done [.t 2, .t 3] (fun t _ => t = .tup [.c (row 1 d6 x.1), .c (bool x.2)]) .ret st) ?_ ?_ ?_ ?_
      ·try dsimp only
       exact Sub.env ⟨Z, Z, Z, Z, Z, Z, Z, Z, Z, Y⟩
      ·intro t15 s hlot15 hltt15 _
       obtain ⟨c13, c14⟩ := s
       try dsimp only
       refine AWP.d (.f (.j Z Z Z (.nil (b5 (.d (.q Z hltt15 (.exit (d8 (d8 ⟨Z, ?_⟩)))))))))
       exact Sub.env ⟨Z, Z, Z, Z, Z, Z, Y⟩
      ·intro t15 s o hlot15 hltt15 h
       obtain ⟨c13, c14⟩ := s
       unfold C1 at h
       try dsimp only at h ⊢
       refine AWP.d (.f (.j Z Z Z (.nil (b5 (.d (.r Z hltt15 (.skip (b5 (.seqF (H0) o (fun (c16, c17) => ⟨[(1, .c (.ptr 0 0 0)), (4, .c (.own 2 0 c16.length)), (5, .c (.map 3)), (6, .c (int atv4)), (29, .c (int (ov.operators.length : Int))), (30, .c (int t9)), (51, .c (row 1 d6 a48.1)), (52, .c (int (a48.1.length : Int))), (53, .c (int t15))], [.one (.cells 4 [(tO ov)]), .dead, .one (vec 1 d6 c16), .one (mapB Value.string (Value.int .i64) c17)]⟩) (fun x h => ?_) ?_)))))))))
       ·obtain ⟨c16, c17⟩ := x
        unfold H0 at h
        try dsimp only at h ⊢
        refine AWP.f (.add Z Z Z (by omega) (.a Z Z (.nil ?_)))
        obtain rfl := oi h
        refine b5 ⟨_, Z, ?_⟩
        exact Sub.env ⟨Z, Z, Z, Z, Z, Z, Z, Z, Z, Y⟩
       ·refine AWP.k (.d ?_)
        obtain ⟨a55, ha55, h⟩ := b6 h
        refine AWP.f (S.idx ha55 Z Z Z Z (.o Z Z Z Z (.e Z Z (.nil (b5 (.d ?_))))))
        obtain ⟨a59, ha59, h⟩ := b6 h
        refine AWP.f (.a Z Z (S.lit (f := d6) (l := [a55]) (ess := [[row 1 intI a55]]) Z Z Z Z Z Z Z ⟨⟨.inl Z, Y⟩, Y⟩ Z Z Z (.y Z Z (.cons (.c (.own Z Z)) .nil) Z (al3 ha59) Z (.e Z Z (.nil (b5 (.d (.d (.f (.a Z Z (.a Z Z (W.lookup (fk := Value.string) (fv := (Value.int .i64)) (k := a59) (z := 0) keyStr Z (fun _ => Z) Z Z Z Z ?_))))))))))))
        refine AOps.gtr Z Z Z (.nil (b5 (.ite Z h (fun hc18 h => ?_) (fun hc18 h => ?_))))
        ·refine AWP.exit (d8 (g8 (b5 ⟨_, h, ?_⟩)))
         exact Sub.cut ⟨Z, Z, Z, Z, Z, Z, Z, Z, Z, Y⟩ Z ⟨.one Z, .dead, .vec, .one Z, Y⟩ Z
        ·refine AWP.skip (b5 (.d (.d (.f (.a Z Z (S.lenO Z Z Z (fun hl65 => .v Z Z Z (.nil (b5 (.ite Z h (fun hc19 h => ?_) (fun hc19 h => ?_)))))))))))
         ·refine AWP.d (.f (.e Z Z (.e Z Z (.nil (b5 (.nilrow 1 2 Z (.ret (e8 (h9 (e8 ?_))))))))))
          obtain rfl := oi h
          refine e8 ⟨_, Z, Z, ?_⟩
          exact Done.ret Z Z
         ·refine AWP.skip (b5 (.d (.f (.a Z Z (.a Z Z (W.mapUpdate (fk := Value.string) (fv := (Value.int .i64)) (k := a59) (a := 1) keyStr Z Z Z Z Z (.nil (b5 ?_))))))))
          obtain ⟨a72, ha72, h⟩ := b6 h
          refine AWP.f (.a Z Z (.a Z Z (S.lit (f := d6) (l := [a55]) (ess := [[row 1 intI a55]]) Z Z Z Z Z Z Z ⟨⟨.inl Z, Y⟩, Y⟩ Z Z Z (S.append (f := d6) ha72 Z Z Z Z Z Z (.own Z Z) Z Z Z Z (.e Z Z (.nil (d7 (b5 ⟨_, h, ?_⟩))))))))
          exact (Sub.move (env' := [(1, .c (.ptr 0 0 0)), (4, .c (.own 2 0 a72.length)), (5, .c (.map 3)), (6, .c (int atv4)), (29, .c (int (ov.operators.length : Int))), (30, .c (int t9)), (51, .c (row 1 d6 a48.1)), (52, .c (int (a48.1.length : Int))), (53, .c (int t15))]) (σ' := [.one (.cells 4 [(tO ov)]), .dead, .one (vec 1 d6 a72), .one (mapB Value.string (Value.int .i64) (mset c14 a59 1)), .one (vec 1 d6 [a55]), .one (vec 1 d6 [a55])]) 2 6 Z Z Z ⟨Z, Z, Z, Z, Z, Z, Z, Z, Z, Y⟩ Z ⟨⟨Z, Z⟩, trivial, ⟨Blk.im_ok _ _ _, l8 Z⟩, ⟨Z, Z⟩, ⟨Blk.im_ok _ _ _, l8 Z⟩, ⟨Blk.im_ok _ _ _, l8 Z⟩, Y⟩).trans (Sub.cut ⟨Z, Z, Z, Z, Z, Z, Z, Z, Z, Y⟩ Z ⟨.one Z, .dead, .vec, .one Z, Y⟩ Z)
      ·intro e s hq
       rcases oo with ⟨c13, c14⟩ | x
       ·try dsimp only at h hq
        obtain ⟨rfl, hs⟩ := hq
        refine ⟨_, hs, ?_⟩
        refine g8 (d7 (b5 ⟨_, h, ?_⟩))
        exact Sub.env ⟨Z, Z, Z, Z, Z, Z, Y⟩
       ·try dsimp only at h hq
        obtain ⟨rfl, hs⟩ := hq
        refine ⟨_, Sub.refl _ _, ?_⟩
        refine h9 (h9 (e8 ?_))
        obtain rfl := oi h
        refine e8 ⟨_, Z, Z, ?_⟩
        exact hs
   ·intro e s hq
    rcases oo with ⟨c7, c8⟩ | x
    ·try dsimp only at h hq
     obtain ⟨rfl, hs⟩ := hq
     refine ⟨_, hs, ?_⟩
     refine g8 (d7 (b5 (.f (.a Z Z (S.add Z Z Z (.e Z Z (.nil ?_)))))))
     obtain rfl := oi h
     refine b5 ⟨_, Z, ?_⟩
     exact Sub.env ⟨Z, Z, Z, Z, Y⟩
    ·try dsimp only at h hq
     obtain ⟨rfl, hs⟩ := hq
     refine ⟨_, Sub.refl _ _, ?_⟩
     refine h9 (h9 (e8 ?_))
     obtain rfl := oi h
     refine e8 ⟨_, Z, Z, ?_⟩
     exact hs
  ·refine AWP.exit (d8 ?_)
   obtain rfl := oi h
   refine d8 ⟨_, Z, Z, ?_⟩
   exact Sub.cut ⟨Z, Y⟩ Z ⟨.dead, .dead, .vec, Y⟩ Z
 ·intro e s hq
  rcases oo with c5 | x
  ·try dsimp only at h hq
   obtain ⟨rfl, hs⟩ := hq
   refine ⟨_, hs, ?_⟩
   refine g8 (b5 (.d ?_))
   obtain ⟨a76, ha76, h⟩ := b6 h
   refine AWP.f (.a Z Z (.callF (r2 := .c (.own 4 0 a76.length)) (σ'' := [.dead, .dead, .dead, .dead, .one (vec 1 d6 a76)]) Z Z Z (FnOk.lend [2] (T3 ha76) Z Z Z Z Z Z (by exact ⟨.vec, Y⟩) Z (by exact ⟨(.live Z .vec), Y⟩) Z Z (by exact ⟨.dead, .dead, .dead, .dead, (.new 2 Z Z .vec), Y⟩)) (.e Z Z (.e Z Z (.nil (b5 (.frzV (id := 4) (l := a76) (env2 := [(2, .c (row 1 d6 a76)), (3, .c (bool true))]) (σ2 := [.dead, .dead, .dead, .dead, .dead]) Z Z (by exact ⟨⟨_, Z, .inr ⟨_, Z, Z, Z⟩⟩, ⟨_, Z, .inl ⟨Z, Z⟩⟩, Y⟩) Z (by exact ⟨trivial, trivial, trivial, trivial, trivial, Y⟩) (.ret ?_))))))))
   obtain rfl := oi h
   exact Done.ret Z Z
  ·try dsimp only at h hq
   obtain ⟨rfl, hs⟩ := hq
   refine ⟨_, Sub.refl _ _, ?_⟩
   refine h9 (e8 ?_)
   obtain rfl := oi h
   exact hs
theorem open_Explore_ok {ov : b9} {r : LL × l6} (h : I7 ov = some r) : f8 Tryz.prog 28 [.agg (tO ov)] (.tup [.c (row 1 d6 r.1), .agg [int r.2.code, int r.2.index]]) := by
 unfold f8
 refine FnOk.enter (rs := [.t 2, .cell 3 28 2]) Tryz.func28 Z Tryz.ntmps28 Tryz.results28 Z ⟨trivial, rv _ Z, Y⟩ (by kernel_rfl) Z ?_
 unfold I7 at h
 refine AWP.d (.f (W.box Z Z Z Z Z Z (.e Z Z (W.alloc Z Z Z Z (.nil (b5 (.d (.d ?_))))))))
 obtain ⟨a8, ha8, h⟩ := b6 h
 refine AWP.f (W.loadAgg Z Z Z Z Z Z Z (.l Z Z Z Z (ag7 ha8) Z (W.alloc Z Z Z Z (W.storeAgg Z Z Z Z Z Z Z (.nil (b5 (.d (.f (W.loadAgg Z Z Z Z Z Z Z (W.build Z Z Z Z (.neqP Z Z Z Z Z Z Z (.nil (b5 (.s Z h (fun hc2 h => ?_) (fun hc2 h => ?_)))))))))))))))
 ·refine AWP.d (.drawEI [2] mixed Z Z Z ?_)
  refine g9.consN Z Z (fun E => W.loadAgg Z Z Z Z Z Z Z (.nil ⟨Z, Z⟩)) Z (.consN Z Z (fun E => AOps.e Z Z (.nil ⟨Z, Z⟩)) Z ?_)
  apply g9.consE (v := .undef); exact Z; exact Z; intro E
  refine W.storeAgg Z Z Z Z Z Z Z (.nil ⟨Z, Z⟩)
  exact Z
  exact Z
  refine g9.done Z ?_ ?_
  ·refine e9.cons Z Z ?_ ?_
   refine b8.go Z Z (fun E => W.loadAgg Z Z Z Z Z Z Z (AOps.nil ⟨Z, Z⟩)) ?_
   refine b8.skip Z (b8.nil)
   refine e9.cons Z Z ?_ ?_
   refine b8.go Z Z (fun E => AOps.e Z Z (AOps.nil ⟨Z, Z⟩)) ?_
   refine b8.skip Z (b8.nil)
   refine e9.skip Z (e9.nil)
  dsimp only [j6]
  refine b5 (.nilrow 1 2 Z (.ret (e8 ?_)))
  obtain rfl := oi h
  exact Done.ret Z Z
 ·refine AWP.skip (b5 (.d ?_))
  obtain ⟨a15, ha15, h⟩ := b6 h
  refine AWP.f (W.loadAgg Z Z Z Z Z Z Z (.l Z Z Z Z (open_Reach_ok ha15) Z (.a Z Z (.w Z Z Z (.w Z Z Z (.e Z Z (.e Z Z (.nil (b5 (.d (.d (.f (.a Z Z (.u Z Z (.nil (b5 (.s Z h (fun hc3 h => ?_) (fun hc3 h => ?_))))))))))))))))))
  ·refine AWP.d (.f (W.build Z Z Z Z (.e Z Z (W.storeAgg Z Z Z Z Z Z Z (.nil (b5 (.nilrow 1 2 Z (.ret (e8 ?_)))))))))
   obtain rfl := oi h
   exact Done.ret Z Z
  ·refine AWP.skip (b5 (.d (.f (.a Z Z (W.build Z Z Z Z (.e Z Z (W.storeAgg Z Z Z Z Z Z Z (.nil (b5 (.ret ?_))))))))))
   obtain rfl := oi h
   exact Done.ret Z Z
theorem I6 {all : LL} {sv : List Int} {r : Int} (h : L9 all sv = some r) : f8 Tryz.prog 30 [.c (row 1 d6 all), .c (row 1 intI sv)] (.c (int r)) := by
 unfold f8
 refine FnOk.enter (rs := [.t 4]) Tryz.func30 Z Tryz.ntmps30 Tryz.results30 Z ⟨trivial, Y⟩ (by kernel_rfl) Z ?_
 unfold L9 at h
 refine AWP.d (.f (.e Z Z (.nil (b5 (.d ?_)))))
 obtain ⟨a10, ha10, h⟩ := b6 h
 refine AWP.f (.a Z Z (.a Z Z (.l Z Z Z Z (E5 Z (fun hy => u3 hy) ha10) Z ?_)))
 refine AOps.a Z Z (.w Z Z Z (.w Z Z Z (.e Z Z (.e Z Z (.nil (b5 (.d (.f (.a Z Z (.e Z Z (.nil (b5 (.ret ?_)))))))))))))
 obtain rfl := oi h
 exact Done.ret Z Z
theorem x7 {xv : List d9} {target : List Int} {cmp : d9 → (List Int) → Option Int} {r : Int × Bool} {fvcmp : FuncId} {cvcmp : List C} (hcvcmp : C.okL 0 cvcmp = true) (hcmp : ∀ {y1 : d9} {y2 : List Int} {z : Int}, cmp y1 y2 = some z → f8 Tryz.prog fvcmp ([.agg [row 1 intI y1.state, int y1.operator], .c (row 1 intI y2)] ++ cvcmp.map T.c) (.c (int z))) (h : j9 xv target cmp = some r) : f8 Tryz.prog 73 [.c (row 2 g7 xv), .c (row 1 intI target), .c (.fn fvcmp cvcmp)] (.tup [.c (int r.1), .c (bool r.2)]) := by
 unfold f8
 refine FnOk.enter (rs := [.t 6, .t 7]) Tryz.func73 Z Tryz.ntmps73 Tryz.results73 Z ⟨trivial, trivial, Y⟩ (by kernel_rfl) Z ?_
 unfold j9 at h
 refine AWP.d (.f (.e Z Z (.e Z Z (.nil (b5 (.d (.f (.a Z Z (S.len Z Z (fun hl13 => .e Z Z (.nil (b5 (.d (.f (.a Z Z (.e Z Z (.e Z Z (.nil (b5 (.d (.k ?_)))))))))))))))))))))
 obtain ⟨iv6, ho1, h⟩ := b6 h
 refine AWP.loopS ho1 (fun (iv4, j5) => ⟨[(0, .c (row 2 g7 xv)), (1, .c (row 1 intI target)), (2, .c (.fn fvcmp cvcmp)), (8, .c (int (xv.length : Int))), (9, .c (int iv4)), (10, .c (int j5))], []⟩) (fun iv6 e st => e = .exit 0 ∧ Sub [] st ⟨[(0, .c (row 2 g7 xv)), (1, .c (row 1 intI target)), (2, .c (.fn fvcmp cvcmp)), (8, .c (int (xv.length : Int))), (9, .c (int iv6))], []⟩) ?_ ?_ ?_
 ·try dsimp only
  exact Sub.env ⟨Z, Z, Z, Z, Z, Z, Y⟩
 ·intro s o h
  obtain ⟨iv4, j5⟩ := s
  unfold x6 at h
  try dsimp only at h ⊢
  refine AWP.d (.d (.f (.a Z Z (.a Z Z (.j Z Z Z (.nil (b5 (.ite Z h (fun hc7 h => ?_) (fun hc7 h => ?_)))))))))
  ·refine AWP.skip (b5 (.k (.d (.f (.a Z Z (.a Z Z (S.add Z Z Z (.z Z Z (.shr Z Z Z (by decide) Z (.z Z Z (.e Z Z (.nil (b5 (.d ?_))))))))))))))
   obtain ⟨a27, ha27, a30, ha30, h⟩ := b2 h
   refine AWP.f (.a Z Z (.a Z Z (.a Z Z (S.idx ha27 Z Z Z Z (W.loadIAgg Z Z Z Z Z (.a Z Z (.l Z Z (ab8 Z hcvcmp) Z (hcmp ha30) Z (.j Z Z Z (.nil (b5 (.ite Z h (fun hc8 h => ?_) (fun hc8 h => ?_))))))))))))
   ·refine AWP.f (.a Z Z (S.add Z Z Z (.e Z Z (.nil (d7 ?_)))))
    obtain rfl := oi h
    refine b5 ⟨_, Z, ?_⟩
    exact Sub.env ⟨Z, Z, Z, Z, Z, Z, Y⟩
   ·refine AWP.f (.a Z Z (.e Z Z (.nil (d7 ?_))))
    obtain rfl := oi h
    refine b5 ⟨_, Z, ?_⟩
    exact Sub.env ⟨Z, Z, Z, Z, Z, Z, Y⟩
  ·refine AWP.exit (d8 ?_)
   obtain rfl := oi h
   refine d8 ⟨_, Z, Z, ?_⟩
   exact Sub.env ⟨Z, Z, Z, Z, Z, Y⟩
 ·intro e s hq
  obtain ⟨rfl, hs⟩ := hq
  refine ⟨_, hs, ?_⟩
  refine g8 (b5 ?_)
  obtain ⟨t9, hx10, h⟩ := b6 h
  refine AWP.seqJ (⟨[(6, .c (int iv6)), (7, .c (bool t9))], []⟩) ?_ ?_
  ·rcases bft (decide (iv6 < (xv.length : Int))) with hb11 | hb11
   ·replace hx10 := C2 hb11 hx10
    obtain ⟨a43, ha43, a46, ha46, hx10⟩ := b2 hx10
    refine AWP.f (.a Z Z (.a Z Z (.a Z Z (.j Z Z Z (.a Z Z (.g Z Z Z hb11 (.a Z Z (.g Z Z Z hb11 (.a Z Z (.g Z Z Z hb11 (.a Z Z (.g Z Z Z hb11 (S.idx ha43 Z Z Z Z (.g Z Z Z hb11 (W.loadIAgg Z Z Z Z Z (.g Z Z Z hb11 (.a Z Z (.g Z Z Z hb11 (.l Z Z (ab8 Z hcvcmp) Z (hcmp ha46) Z (.g Z Z Z hb11 (.v Z Z Z (.p Z hb11 Z Z (.e Z Z (.e Z Z (.nil ?_)))))))))))))))))))))))))
    obtain rfl := oi hx10
    refine b5 (Sub.env ⟨Z, Z, Y⟩)
   ·replace hx10 := B9 hb11 hx10
    refine AWP.f (.a Z Z (.a Z Z (.a Z Z (.j Z Z Z (.a Z Z (.i Z Z Z hb11 (.i Z Z Z hb11 (.i Z Z Z hb11 (.i Z Z Z hb11 (.i Z Z Z hb11 (.i Z Z Z hb11 (.i Z Z Z hb11 (.i Z Z Z hb11 (.n Z hb11 Z Z (.e Z Z (.e Z Z (.nil ?_)))))))))))))))))
    obtain rfl := oi hx10
    refine b5 (Sub.env ⟨Z, Z, Y⟩)
  ·refine AWP.ret ?_
   obtain rfl := oi h
   exact Done.ret Z Z
theorem ao5 {c : d9} {sv : List Int} {r : Int} (h : open_Chosen_1 c sv = some r) : f8 Tryz.prog 84 [.agg [row 1 intI c.state, int c.operator], .c (row 1 intI sv)] (.c (int r)) := by
 unfold f8
 refine FnOk.enter (rs := [.t 4]) Tryz.func84 Z Tryz.ntmps84 Tryz.results84 Z ⟨trivial, Y⟩ (by kernel_rfl) Z ?_
 unfold open_Chosen_1 at h
 refine AWP.d (.f (W.box Z Z Z Z Z Z (.e Z Z (.nil (b5 (.d ?_))))))
 obtain ⟨a8, ha8, h⟩ := b6 h
 refine AWP.f (W.fieldAddr Z Z Z Z (.m Z Z Z Z Z Z (.a Z Z (.l Z Z Z Z (u3 ha8) Z (.e Z Z (.nil (b5 (.ret ?_))))))))
 obtain rfl := oi h
 exact Done.ret Z Z
theorem ac0 {policy : List d9} {sv : List Int} {r : Int} (h : H9 policy sv = some r) : f8 Tryz.prog 55 [.c (row 2 g7 policy), .c (row 1 intI sv)] (.c (int r)) := by
 unfold f8
 refine FnOk.enter (rs := [.t 4]) Tryz.func55 Z Tryz.ntmps55 Tryz.results55 Z ⟨trivial, Y⟩ (by kernel_rfl) Z ?_
 unfold H9 at h
 refine AWP.d (.f (.e Z Z (.nil (b5 (.d ?_)))))
 obtain ⟨a10, ha10, h⟩ := b6 h
 refine AWP.f (.a Z Z (.a Z Z (.l Z Z Z Z (x7 Z (fun hy => ao5 hy) ha10) Z ?_)))
 refine AOps.a Z Z (.w Z Z Z (.w Z Z Z (.e Z Z (.e Z Z (.nil (b5 (.d (.d (.f (.a Z Z (.u Z Z (.nil (b5 (.s Z h (fun hc3 h => ?_) (fun hc3 h => ?_)))))))))))))))
 ·refine AWP.d (.f (.e Z Z (.nil (b5 (.ret (e8 ?_))))))
  obtain rfl := oi h
  exact Done.ret Z Z
 ·refine AWP.skip (b5 (.d ?_))
  obtain ⟨a17, ha17, h⟩ := b6 h
  refine AWP.f (.a Z Z (.a Z Z (S.idx ha17 Z Z Z Z (W.fieldAddrI Z Z Z Z (.o Z Z Z Z (.e Z Z (.nil (b5 (.ret ?_)))))))))
  obtain rfl := oi h
  exact Done.ret Z Z
theorem an8 {c : d9} {sv : List Int} {r : Int} (h : I5 c sv = some r) : f8 Tryz.prog 74 [.agg [row 1 intI c.state, int c.operator], .c (row 1 intI sv)] (.c (int r)) := by
 unfold f8
 refine FnOk.enter (rs := [.t 4]) Tryz.func74 Z Tryz.ntmps74 Tryz.results74 Z ⟨trivial, Y⟩ (by kernel_rfl) Z ?_
 unfold I5 at h
 refine AWP.d (.f (W.box Z Z Z Z Z Z (.e Z Z (.nil (b5 (.d ?_))))))
 obtain ⟨a8, ha8, h⟩ := b6 h
 refine AWP.f (W.fieldAddr Z Z Z Z (.m Z Z Z Z Z Z (.a Z Z (.l Z Z Z Z (u3 ha8) Z (.e Z Z (.nil (b5 (.ret ?_))))))))
 obtain rfl := oi h
 exact Done.ret Z Z
theorem strong_Build_ok {ov : b9} {choose : (List Int) → Option Int} {r : (List d9) × Bool} {fvchoose : FuncId} {cvchoose : List C} (hcvchoose : C.okL 0 cvchoose = true) (hchoose : ∀ {y1 : List Int} {z : Int}, choose y1 = some z → f8 Tryz.prog fvchoose ([.c (row 1 intI y1)] ++ cvchoose.map T.c) (.c (int z))) (h : T0 ov choose = some r) : f8 Tryz.prog 31 [.agg (tO ov), .c (.fn fvchoose cvchoose)] (.tup [.c (row 2 g7 r.1), .c (bool r.2)]) := by
 unfold f8
 refine FnOk.enter (rs := [.t 4, .t 5]) Tryz.func31 Z Tryz.ntmps31 Tryz.results31 Z ⟨trivial, trivial, Y⟩ (by kernel_rfl) Z ?_
 unfold T0 at h
 refine AWP.d (.f (W.box Z Z Z Z Z Z (.e Z Z (.e Z Z (.nil (b5 (.d (.f (.e Z Z (.nil (b5 (.d (.f (W.fieldAddr Z Z Z Z (.m Z Z Z Z Z Z (S.lit (f := d6) (l := [ov.init]) (ess := [[row 1 intI ov.init]]) Z Z Z Z Z Z Z ⟨⟨.inl Z, Y⟩, Y⟩ Z Z Z (.e Z Z (.nil (b5 (.d (.d (.f (.e Z Z (.nil (b5 (.k (.virtV 2 g7 6 Z Z Z ?_)))))))))))))))))))))))))))
 obtain ⟨oo, ho1, h⟩ := b6 h
 refine AWP.loopS ho1 (fun (c3, c4, atv5) => ⟨[(1, .c (.fn fvchoose cvchoose)), (2, .c (.ptr 0 0 0)), (6, .c (.own 2 0 c4.length)), (7, .c (.own 1 0 c3.length)), (8, .c (int atv5))], [.one (.cells 4 [(tO ov)]), .one (vec 1 d6 c3), .one (vec 2 g7 c4)]⟩) (fun o e st => match o with | .inl c6 => e = .exit 0 ∧ Sub [] st ⟨[(6, .c (.own 2 0 c6.length))], [.dead, .dead, .one (vec 2 g7 c6)]⟩ | .inr x => e = .ret ∧ Done [.t 4, .t 5] (fun t _ => t = .tup [.c (row 2 g7 x.1), .c (bool x.2)]) .ret st) ?_ ?_ ?_
 ·try dsimp only
  exact Sub.env ⟨Z, Z, (x9 (by first | rfl | simp only [List.length_set])), Z, Z, Y⟩
 ·intro s o h
  obtain ⟨c3, c4, atv5⟩ := s
  unfold R3 at h
  try dsimp only at h ⊢
  refine AWP.d (.d (.f (.a Z Z (.a Z Z (S.lenO Z Z Z (fun hl20 => .j Z Z Z (.nil (b5 (.ite Z h (fun hc7 h => ?_) (fun hc7 h => ?_))))))))))
  ·refine AWP.skip (b5 (.seqF ((G5 atv5)) o (fun (c8, c9) => ⟨[(1, .c (.fn fvchoose cvchoose)), (2, .c (.ptr 0 0 0)), (6, .c (.own 2 0 c9.length)), (7, .c (.own 1 0 c8.length)), (8, .c (int atv5))], [.one (.cells 4 [(tO ov)]), .one (vec 1 d6 c8), .one (vec 2 g7 c9)]⟩) (fun x h => ?_) ?_))
   ·obtain ⟨c8, c9⟩ := x
    unfold G5 at h
    try dsimp only at h ⊢
    refine AWP.f (.a Z Z (S.add Z Z Z (.e Z Z (.nil ?_))))
    obtain rfl := oi h
    refine b5 ⟨_, Z, ?_⟩
    exact Sub.env ⟨Z, Z, Z, Z, Z, Y⟩
   ·refine AWP.k (.d ?_)
    obtain ⟨a26, ha26, h⟩ := b6 h
    refine AWP.f (.a Z Z (.a Z Z (S.idxO ha26 Z Z Z Z Z (S.loadO ha26 Z Z Z Z Z (.e Z Z (.nil (b5 (.d ?_))))))))
    obtain ⟨t10, hx11, h⟩ := b6 h
    refine AWP.seqJ (⟨[(1, .c (.fn fvchoose cvchoose)), (2, .c (.ptr 0 0 0)), (6, .c (.own 2 0 c4.length)), (7, .c (.own 1 0 c3.length)), (8, .c (int atv5)), (9, .c (row 1 intI a26)), (37, .c (bool t10))], [.one (.cells 4 [(tO ov)]), .one (vec 1 d6 c3), .one (vec 2 g7 c4)]⟩) ?_ ?_
    ·obtain ⟨a31, ha31, hx11⟩ := b6 hx11
     rcases bft (a31) with hb12 | hb12
     ·replace hx11 := w9 hb12 hx11
      refine AWP.f (.a Z Z (W.fieldAddr Z Z Z Z (.m Z Z Z Z Z Z (.l Z Z Z Z (C6 ha31) Z (.a Z Z (.i Z Z Z hb12 (.i Z Z Z hb12 (.i Z Z Z hb12 (.i Z Z Z hb12 (.p Z hb12 Z Z (.nil ?_)))))))))))
      obtain rfl := oi hx11
      refine b5 (Sub.env ⟨Z, Z, Z, Z, Z, Z, Z, Y⟩)
     ·replace hx11 := w6 hb12 hx11
      obtain ⟨a35, ha35, hx11⟩ := b6 hx11
      refine AWP.f (.a Z Z (W.fieldAddr Z Z Z Z (.m Z Z Z Z Z Z (.l Z Z Z Z (C6 ha31) Z (.a Z Z (.g Z Z Z hb12 (.a Z Z (.g Z Z Z hb12 (.a Z Z (.g Z Z Z hb12 (.y Z Z (.cons (.c (.own Z Z)) (.cons (.c .imm) .nil)) Z (ac0 ha35) Z (.g Z Z Z hb12 (.geq Z Z Z (.n Z hb12 Z Z (.nil ?_)))))))))))))))
      obtain rfl := oi hx11
      refine b5 (Sub.env ⟨Z, Z, Z, Z, Z, Z, Z, Y⟩)
    ·refine AWP.s Z h (fun hc13 h => ?_) (fun hc13 h => ?_)
     ·refine AWP.exit (d8 (g8 (b5 ⟨_, h, ?_⟩)))
      exact Sub.env ⟨Z, Z, Z, Z, Z, Y⟩
     ·refine AWP.skip (b5 (.d (.d (.f (.a Z Z (S.lenO Z Z Z (fun hl39 => .v Z Z Z (.nil (b5 (.ite Z h (fun hc14 h => ?_) (fun hc14 h => ?_)))))))))))
      ·refine AWP.d (.f (.e Z Z (.e Z Z (.nil (b5 (.nilrow 2 4 Z (.ret (e8 (h9 (e8 ?_))))))))))
       obtain rfl := oi h
       refine e8 ⟨_, Z, Z, ?_⟩
       exact Done.ret Z Z
      ·refine AWP.skip (b5 (.d ?_))
       obtain ⟨a43, ha43, h⟩ := b6 h
       refine AWP.f (.a Z Z (.a Z Z (.l Z Z (ab8 Z hcvchoose) Z (hchoose ha43) Z (.e Z Z (.nil (b5 (.d ?_)))))))
       obtain ⟨a47, ha47, h⟩ := b6 h
       refine AWP.f (.a Z Z (.a Z Z (.y Z Z (.cons (.c (.own Z Z)) (.cons (.c .imm) (.cons (.c (.fn .nil)) .nil))) Z (x7 Z (fun hy => an8 hy) ha47) Z ?_)))
       refine AOps.a Z Z (.w Z Z Z (.w Z Z Z (.e Z Z (.e Z Z (.nil (b5 (.d ?_)))))))
       obtain ⟨a53, ha53, a57, ha57, h⟩ := b2 h
       refine AWP.f (.a Z Z (.a Z Z (.a Z Z (S.fresh Z Z Z Z (K0 ha53) Z Z (.a Z Z (W.build Z Z Z Z (.frzV (id := 3) (l := a53) (env2 := [(1, .c (.fn fvchoose cvchoose)), (2, .c (.ptr 0 0 0)), (7, .c (.own 1 0 c3.length)), (8, .c (int atv5)), (9, .c (row 1 intI a26)), (10, .c (int a43)), (50, .c (.own 2 0 c4.length)), (51, .c (int a47.1)), (55, .agg [row 1 intI a53, int a43])]) (σ2 := [.one (.cells 4 [(tO ov)]), .one (vec 1 d6 c3), .one (vec 2 g7 c4), .dead]) Z Z (by exact ⟨⟨_, Z, .inl ⟨Z, fnNo hcvchoose⟩⟩, ⟨_, Z, .inl ⟨Z, Z⟩⟩, ⟨_, Z, .inl ⟨Z, Z⟩⟩, ⟨_, Z, .inl ⟨Z, Z⟩⟩, ⟨_, Z, .inl ⟨Z, Z⟩⟩, ⟨_, Z, .inl ⟨Z, Z⟩⟩, ⟨_, Z, .inl ⟨Z, Z⟩⟩, ⟨_, Z, .inl ⟨Z, Z⟩⟩, ⟨_, Z, ⟨.inr ⟨_, Z, Z, Z⟩, .inl ⟨Z, Z⟩, Y⟩⟩, Y⟩) Z (by exact ⟨⟨Z, .inl ⟨Z, Z⟩, .inl ⟨Z, Z⟩, .inl ⟨Z, Z⟩, .inl ⟨Z, Z⟩, Y⟩, FrzB.vec, FrzB.vec, trivial, Y⟩) (S.lit (f := g7) (l := [(⟨a53, a43⟩ : d9)]) (ess := [[row 1 intI a53, int a43]]) Z Z Z Z Z Z Z ⟨⟨.inl Z, .inl Z, Y⟩, Y⟩ Z Z Z (S.insert (f := g7) ha57 Z Z Z Z Z Z Z Z Z Z Z (.e Z Z (.nil (b5 (.d (.a (env' := [(1, .c (.fn fvchoose cvchoose)), (2, .c (.ptr 0 0 0)), (6, .c (.own 2 0 a57.length)), (7, .c (.own 1 0 c3.length)), (8, .c (int atv5)), (9, .c (row 1 intI a26)), (10, .c (int a43))]) (σ' := [.one (.cells 4 [(tO ov)]), .one (vec 1 d6 c3), .one (vec 2 g7 a57), .dead, .one (vec 2 g7 [(⟨a53, a43⟩ : d9)])]) 2 5 Z Z Z ⟨fnMv hcvchoose Z, Z, Z, Z, Z, Z, Z, Y⟩ (eOk1 (fnOk (f := fvchoose) hcvchoose) (eOk1 Z (eOk1 Z (eOk1 Z (eOk1 Z (eOk1 Z (eOk1 Z Z))))))) ⟨⟨Z, Z⟩, ⟨Blk.im_ok _ _ _, l8 Z⟩, ⟨Blk.im_ok _ _ _, l8 Z⟩, trivial, ⟨Blk.im_ok _ _ _, l8 Z⟩, Y⟩ ?_))))))))))))))
       obtain ⟨a62, ha62, h⟩ := b6 h
       refine AWP.f (W.loadAgg Z Z Z Z Z Z Z (.a Z Z (.a Z Z (.l Z Z Z Z (G6 ha62) Z (.a Z Z (.w Z Z Z (.w Z Z Z (.e Z Z (.e Z Z (.nil (b5 ?_)))))))))))
       obtain ⟨a67, ha67, h⟩ := b6 h
       refine AWP.f (.a Z Z (.a Z Z (S.append (f := d6) ha67 Z Z Z Z Z Z .row Z Z Z Z (.e Z Z (.nil (d7 (b5 ⟨_, h, ?_⟩)))))))
       exact (Sub.move (env' := [(1, .c (.fn fvchoose cvchoose)), (2, .c (.ptr 0 0 0)), (6, .c (.own 2 0 a57.length)), (7, .c (.own 1 0 a67.length)), (8, .c (int atv5))]) (σ' := [.one (.cells 4 [(tO ov)]), .one (vec 1 d6 a67), .one (vec 2 g7 a57), .dead, .one (vec 2 g7 [(⟨a53, a43⟩ : d9)])]) 1 5 Z Z Z ⟨fnMv hcvchoose Z, Z, Z, Z, Z, Y⟩ (eOk1 (fnOk (f := fvchoose) hcvchoose) (eOk1 Z (eOk1 Z (eOk1 Z (eOk1 Z Z))))) ⟨⟨Z, Z⟩, ⟨Blk.im_ok _ _ _, l8 Z⟩, ⟨Blk.im_ok _ _ _, l8 Z⟩, trivial, ⟨Blk.im_ok _ _ _, l8 Z⟩, Y⟩).trans (Sub.cut ⟨Z, Z, Z, Z, Z, Y⟩ Z ⟨.one Z, .vec, .vec, Y⟩ (eOk1 (fnOk (f := fvchoose) hcvchoose) (eOk1 Z (eOk1 Z (eOk1 Z (eOk1 Z Z))))))
  ·refine AWP.exit (d8 ?_)
   obtain rfl := oi h
   refine d8 ⟨_, Z, Z, ?_⟩
   exact Sub.cut ⟨Z, Y⟩ Z ⟨.dead, .dead, .vec, Y⟩ Z
 ·intro e s hq
  rcases oo with c6 | x
  ·try dsimp only at h hq
   obtain ⟨rfl, hs⟩ := hq
   refine ⟨_, hs, ?_⟩
   refine g8 (b5 (.d (.f (.a Z Z (.e Z Z (.e Z Z (.nil (b5 (.frzV (id := 2) (l := c6) (env2 := [(4, .c (row 2 g7 c6)), (5, .c (bool true))]) (σ2 := [.dead, .dead, .dead]) Z Z (by exact ⟨⟨_, Z, .inr ⟨_, Z, Z, Z⟩⟩, ⟨_, Z, .inl ⟨Z, Z⟩⟩, Y⟩) Z (by exact ⟨trivial, trivial, trivial, Y⟩) (.ret ?_))))))))))
   obtain rfl := oi h
   exact Done.ret Z Z
  ·try dsimp only at h hq
   obtain ⟨rfl, hs⟩ := hq
   refine ⟨_, Sub.refl _ _, ?_⟩
   refine h9 (e8 ?_)
   obtain rfl := oi h
   exact hs
theorem P0 {nv : Int} {low : Int} {high : Int} {r : Bool} (h : Q5 nv low high = some r) : f8 Tryz.prog 34 [.c (int nv), .c (int low), .c (int high)] (.c (bool r)) := by
 unfold f8
 refine FnOk.enter (rs := [.t 6]) Tryz.func34 Z Tryz.ntmps34 Tryz.results34 Z ⟨trivial, Y⟩ (by kernel_rfl) Z ?_
 unfold Q5 at h
 refine AWP.d (.f (.e Z Z (.nil (b5 (.seqJ (⟨[(6, .c (bool ((decide (low ≤ nv)) && (decide (nv ≤ high)))))], []⟩) ?_ ?_)))))
 ·rcases bft (decide (low ≤ nv)) with hb1 | hb1
  ·refine AWP.f (.a Z Z (.a Z Z (.geq Z Z Z (.a Z Z (.g Z Z Z hb1 (.a Z Z (.g Z Z Z hb1 (.a Z Z (.g Z Z Z hb1 (.leq Z Z Z (.p Z hb1 Z Z (.e Z Z (.nil (b5 ?_))))))))))))))
   simp only [and_t hb1, or_t hb1, Bool.false_or, Bool.true_or, Bool.false_and, Bool.true_and]
   exact Sub.env ⟨Z, Y⟩
  ·refine AWP.f (.a Z Z (.a Z Z (.geq Z Z Z (.a Z Z (.i Z Z Z hb1 (.i Z Z Z hb1 (.i Z Z Z hb1 (.n Z hb1 Z Z (.e Z Z (.nil (b5 ?_)))))))))))
   simp only [and_f hb1, or_f hb1, Bool.false_or, Bool.true_or, Bool.false_and, Bool.true_and]
   exact Sub.env ⟨Z, Y⟩
 ·refine AWP.ret ?_
  obtain rfl := oi h
  exact Done.ret Z Z
theorem ab5 {code : Int} {index : Int} {r : l6} (h : K1 code index = some r) : f8 Tryz.prog 35 [.c (int code), .c (int index)] (.agg [int r.code, int r.index]) := by
 unfold f8
 refine FnOk.enter (rs := [.cell 4 28 2]) Tryz.func35 Z Tryz.ntmps35 Tryz.results35 Z ⟨rv _ Z, Y⟩ (by kernel_rfl) Z ?_
 unfold K1 at h
 refine AWP.d (.f (W.alloc Z Z Z Z (.nil (b5 (.d (.f (.a Z Z (.a Z Z (W.build Z Z Z Z (W.storeAgg Z Z Z Z Z Z Z (.nil (b5 (.ret ?_)))))))))))))
 obtain rfl := oi h
 exact Done.ret Z Z
theorem E2 {l : List Int} {nv : Int} {r : Bool} (h : F4 l nv = some r) : f8 Tryz.prog 36 [.c (row 1 intI l), .c (int nv)] (.c (bool r)) := by
 unfold f8
 refine FnOk.enter (rs := [.t 4]) Tryz.func36 Z Tryz.ntmps36 Tryz.results36 Z ⟨trivial, Y⟩ (by kernel_rfl) Z ?_
 unfold F4 at h
 refine AWP.d (.f (.e Z Z (.nil (b5 (.d (.d (.f (.e Z Z (.nil (b5 (.k ?_)))))))))))
 obtain ⟨oo, ho1, h⟩ := b6 h
 refine AWP.rngS ho1 (fun iv3 _ => ⟨[(0, .c (row 1 intI l)), (1, .c (int nv)), (5, .c (int iv3))], []⟩) (fun o e st => match o with | .inl _ => e = .exit 0 ∧ Sub [] st ⟨[], []⟩ | .inr x => e = .ret ∧ Done [.t 4] (fun t _ => t = .c (bool x)) .ret st) ?_ ?_ ?_ ?_
 ·try dsimp only
  exact Sub.env ⟨Z, Z, Z, Y⟩
 ·intro iv3 s hloiv3 hltiv3 _
  try dsimp only
  refine AWP.d (.d (.f (.a Z Z (.a Z Z (S.len Z Z (fun hl8 => .j Z Z Z (.nil (b5 (.q Z hltiv3 (.exit (d8 (d8 ⟨Z, ?_⟩))))))))))))
  exact Sub.env trivial
 ·intro iv3 s o hloiv3 hltiv3 h
  unfold W6 at h
  try dsimp only at h ⊢
  refine AWP.d (.d (.f (.a Z Z (.a Z Z (S.len Z Z (fun hl8 => .j Z Z Z (.nil (b5 (.r Z hltiv3 (.skip (b5 (.d (.k ?_)))))))))))))
  obtain ⟨t4, hx5, h⟩ := b6 h
  refine AWP.seqJ (⟨[(0, .c (row 1 intI l)), (1, .c (int nv)), (5, .c (int iv3)), (35, .c (bool t4))], []⟩) ?_ ?_
  ·obtain ⟨a14, ha14, a18, ha18, hx5⟩ := b2 hx5
   rcases bft (!a18) with hb6 | hb6
   ·replace hx5 := w9 hb6 hx5
    refine AWP.drawI mixed Z ?_
    refine i5.consF Z (fun E => AOps.a Z Z (.nil ⟨Z, Z⟩)) Z (.consF Z (fun E => AOps.a Z Z (.nil ⟨Z, Z⟩)) Z (.consF Z (fun E => S.idx ha14 Z Z Z Z (.nil ⟨Z, Z⟩)) Z (.consF Z (fun E => AOps.o Z Z Z Z (.nil ⟨Z, Z⟩)) Z (.consF Z (fun E => AOps.a Z Z (.nil ⟨Z, Z⟩)) Z (.consF Z (fun E => S.sub Z Z Z (.nil ⟨Z, Z⟩)) Z (.consF Z (fun E => AOps.l Z Z Z Z (P0 ha18) Z (.nil ⟨Z, Z⟩)) Z (.consF Z (fun E => AOps.u Z Z (.nil ⟨Z, Z⟩)) Z (.consF Z (fun E => AOps.a Z Z (.nil ⟨Z, Z⟩)) Z (.consF Z (fun E => AOps.i Z Z Z hb6 (.nil ⟨Z, Z⟩)) Z (.consF Z (fun E => AOps.i Z Z Z hb6 (.nil ⟨Z, Z⟩)) Z (.consF Z (fun E => AOps.i Z Z Z hb6 (.nil ⟨Z, Z⟩)) Z (.consF Z (fun E => AOps.x Z Z Z (.nil ⟨Z, Z⟩)) Z (.consF Z (fun E => AOps.x Z Z Z (.nil ⟨Z, Z⟩)) Z (.consF Z (fun E => AOps.x Z Z Z (.nil ⟨Z, Z⟩)) Z (.consF Z (fun E => AOps.x Z Z Z (.nil ⟨Z, Z⟩)) Z (.consF Z (fun E => AOps.x Z Z Z (.nil ⟨Z, Z⟩)) Z (.consF Z (fun E => AOps.x Z Z Z (.nil ⟨Z, Z⟩)) Z (.consF Z (fun E => AOps.x Z Z Z (.nil ⟨Z, Z⟩)) Z (.consF Z (fun E => AOps.x Z Z Z (.nil ⟨Z, Z⟩)) Z (.consF Z (fun E => AOps.x Z Z Z (.nil ⟨Z, Z⟩)) Z (.consF Z (fun E => AOps.x Z Z Z (.nil ⟨Z, Z⟩)) Z (.consF Z (fun E => AOps.i Z Z Z hb6 (.nil ⟨Z, Z⟩)) Z (.consF Z (fun E => AOps.p Z hb6 Z Z (.nil ⟨Z, Z⟩)) Z ?_)))))))))))))))))))))))
    refine i5.done ?_
    dsimp only [j6]
    obtain rfl := oi hx5
    refine b5 (Sub.env ⟨Z, Z, Z, Z, Y⟩)
   ·replace hx5 := w6 hb6 hx5
    rcases bft (decide (0 < iv3)) with hb7 | hb7
    ·replace hx5 := C2 hb7 hx5
     obtain ⟨a26, ha26, a31, ha31, hx5⟩ := b2 hx5
     refine AWP.drawI mixed Z ?_
     refine i5.consF Z (fun E => AOps.a Z Z (.nil ⟨Z, Z⟩)) Z (.consF Z (fun E => AOps.a Z Z (.nil ⟨Z, Z⟩)) Z (.consF Z (fun E => S.idx ha14 Z Z Z Z (.nil ⟨Z, Z⟩)) Z (.consF Z (fun E => AOps.o Z Z Z Z (.nil ⟨Z, Z⟩)) Z (.consF Z (fun E => AOps.a Z Z (.nil ⟨Z, Z⟩)) Z (.consF Z (fun E => S.sub Z Z Z (.nil ⟨Z, Z⟩)) Z (.consF Z (fun E => AOps.l Z Z Z Z (P0 ha18) Z (.nil ⟨Z, Z⟩)) Z (.consF Z (fun E => AOps.u Z Z (.nil ⟨Z, Z⟩)) Z (.consF Z (fun E => AOps.a Z Z (.nil ⟨Z, Z⟩)) Z (.consF Z (fun E => AOps.g Z Z Z hb6 (.a Z Z (.nil ⟨Z, Z⟩))) Z (.consF Z (fun E => AOps.g Z Z Z hb6 (.gtr Z Z Z (.nil ⟨Z, Z⟩))) Z (.consF Z (fun E => AOps.g Z Z Z hb6 (.a Z Z (.nil ⟨Z, Z⟩))) Z (.consF Z (fun E => AOps.g Z Z Z hb7 (.a Z Z (.nil ⟨Z, Z⟩))) Z (.consF Z (fun E => AOps.g Z Z Z hb7 (.a Z Z (.nil ⟨Z, Z⟩))) Z (.consF Z (fun E => AOps.g Z Z Z hb7 (S.idx ha26 Z Z Z Z (.nil ⟨Z, Z⟩))) Z (.consF Z (fun E => AOps.g Z Z Z hb7 (.o Z Z Z Z (.nil ⟨Z, Z⟩))) Z (.consF Z (fun E => AOps.g Z Z Z hb7 (.a Z Z (.nil ⟨Z, Z⟩))) Z (.consF Z (fun E => AOps.g Z Z Z hb7 (.a Z Z (.nil ⟨Z, Z⟩))) Z (.consF Z (fun E => AOps.g Z Z Z hb7 (.sub' Z Z Z (by omega) (.nil ⟨Z, Z⟩))) Z (.consF Z (fun E => AOps.g Z Z Z hb7 (S.idx ha31 Z Z Z Z (.nil ⟨Z, Z⟩))) Z (.consF Z (fun E => AOps.g Z Z Z hb7 (.o Z Z Z Z (.nil ⟨Z, Z⟩))) Z (.consF Z (fun E => AOps.g Z Z Z hb7 (.leq Z Z Z (.nil ⟨Z, Z⟩))) Z (.consF Z (fun E => AOps.g Z Z Z hb6 (.p Z hb7 Z Z (.nil ⟨Z, Z⟩))) Z (.consF Z (fun E => AOps.n Z hb6 Z Z (.nil ⟨Z, Z⟩)) Z ?_)))))))))))))))))))))))
     refine i5.done ?_
     dsimp only [j6]
     obtain rfl := oi hx5
     refine b5 (Sub.env ⟨Z, Z, Z, Z, Y⟩)
    ·replace hx5 := B9 hb7 hx5
     refine AWP.drawI mixed Z ?_
     refine i5.consF Z (fun E => AOps.a Z Z (.nil ⟨Z, Z⟩)) Z (.consF Z (fun E => AOps.a Z Z (.nil ⟨Z, Z⟩)) Z (.consF Z (fun E => S.idx ha14 Z Z Z Z (.nil ⟨Z, Z⟩)) Z (.consF Z (fun E => AOps.o Z Z Z Z (.nil ⟨Z, Z⟩)) Z (.consF Z (fun E => AOps.a Z Z (.nil ⟨Z, Z⟩)) Z (.consF Z (fun E => S.sub Z Z Z (.nil ⟨Z, Z⟩)) Z (.consF Z (fun E => AOps.l Z Z Z Z (P0 ha18) Z (.nil ⟨Z, Z⟩)) Z (.consF Z (fun E => AOps.u Z Z (.nil ⟨Z, Z⟩)) Z (.consF Z (fun E => AOps.a Z Z (.nil ⟨Z, Z⟩)) Z (.consF Z (fun E => AOps.g Z Z Z hb6 (.a Z Z (.nil ⟨Z, Z⟩))) Z (.consF Z (fun E => AOps.g Z Z Z hb6 (.gtr Z Z Z (.nil ⟨Z, Z⟩))) Z (.consF Z (fun E => AOps.g Z Z Z hb6 (.a Z Z (.nil ⟨Z, Z⟩))) Z (.consF Z (fun E => AOps.i Z Z Z hb7 (.nil ⟨Z, Z⟩)) Z (.consF Z (fun E => AOps.i Z Z Z hb7 (.nil ⟨Z, Z⟩)) Z (.consF Z (fun E => AOps.i Z Z Z hb7 (.nil ⟨Z, Z⟩)) Z (.consF Z (fun E => AOps.i Z Z Z hb7 (.nil ⟨Z, Z⟩)) Z (.consF Z (fun E => AOps.i Z Z Z hb7 (.nil ⟨Z, Z⟩)) Z (.consF Z (fun E => AOps.i Z Z Z hb7 (.nil ⟨Z, Z⟩)) Z (.consF Z (fun E => AOps.i Z Z Z hb7 (.nil ⟨Z, Z⟩)) Z (.consF Z (fun E => AOps.i Z Z Z hb7 (.nil ⟨Z, Z⟩)) Z (.consF Z (fun E => AOps.i Z Z Z hb7 (.nil ⟨Z, Z⟩)) Z (.consF Z (fun E => AOps.i Z Z Z hb7 (.nil ⟨Z, Z⟩)) Z (.consF Z (fun E => AOps.g Z Z Z hb6 (.n Z hb7 Z Z (.nil ⟨Z, Z⟩))) Z (.consF Z (fun E => AOps.n Z hb6 Z Z (.nil ⟨Z, Z⟩)) Z ?_)))))))))))))))))))))))
     refine i5.done ?_
     dsimp only [j6]
     obtain rfl := oi hx5
     refine b5 (Sub.env ⟨Z, Z, Z, Z, Y⟩)
  ·refine AWP.s Z h (fun hc8 h => ?_) (fun hc8 h => ?_)
   ·refine AWP.d (.f (.e Z Z (.nil (b5 (.ret (h9 (e8 ?_)))))))
    obtain rfl := oi h
    refine e8 ⟨_, Z, Z, ?_⟩
    exact Done.ret Z Z
   ·refine AWP.skip (d7 (b5 (.f (.a Z Z (.add Z Z Z (by omega) (.e Z Z (.nil ?_)))))))
    obtain rfl := oi h
    refine b5 ⟨_, Z, ?_⟩
    exact Sub.env ⟨Z, Z, Z, Y⟩
 ·intro e s hq
  rcases oo with u | x
  ·try dsimp only at h hq
   obtain ⟨rfl, hs⟩ := hq
   refine ⟨_, hs, ?_⟩
   refine g8 (b5 (.d (.f (.e Z Z (.nil (b5 (.ret ?_)))))))
   obtain rfl := oi h
   exact Done.ret Z Z
  ·try dsimp only at h hq
   obtain ⟨rfl, hs⟩ := hq
   refine ⟨_, Sub.refl _ _, ?_⟩
   refine h9 (e8 ?_)
   obtain rfl := oi h
   exact hs
theorem F5 {l : List Int} {nv : Int} {r : Bool} (h : J2 l nv = some r) : f8 Tryz.prog 42 [.c (row 1 intI l), .c (int nv)] (.c (bool r)) := by
 unfold f8
 refine FnOk.enter (rs := [.t 4]) Tryz.func42 Z Tryz.ntmps42 Tryz.results42 Z ⟨trivial, Y⟩ (by kernel_rfl) Z ?_
 unfold J2 at h
 refine AWP.d (.f (.e Z Z (.nil (b5 (.d (.d (.f (.e Z Z (.nil (b5 (.k ?_)))))))))))
 obtain ⟨oo, ho1, h⟩ := b6 h
 refine AWP.rngS ho1 (fun iv3 _ => ⟨[(0, .c (row 1 intI l)), (1, .c (int nv)), (5, .c (int iv3))], []⟩) (fun o e st => match o with | .inl _ => e = .exit 0 ∧ Sub [] st ⟨[], []⟩ | .inr x => e = .ret ∧ Done [.t 4] (fun t _ => t = .c (bool x)) .ret st) ?_ ?_ ?_ ?_
 ·try dsimp only
  exact Sub.env ⟨Z, Z, Z, Y⟩
 ·intro iv3 s hloiv3 hltiv3 _
  try dsimp only
  refine AWP.d (.d (.f (.a Z Z (.a Z Z (S.len Z Z (fun hl8 => .j Z Z Z (.nil (b5 (.q Z hltiv3 (.exit (d8 (d8 ⟨Z, ?_⟩))))))))))))
  exact Sub.env trivial
 ·intro iv3 s o hloiv3 hltiv3 h
  unfold ai6 at h
  try dsimp only at h ⊢
  refine AWP.d (.d (.f (.a Z Z (.a Z Z (S.len Z Z (fun hl8 => .j Z Z Z (.nil (b5 (.r Z hltiv3 (.skip (b5 (.d (.k (.d ?_))))))))))))))
  obtain ⟨a14, ha14, h⟩ := b6 h
  refine AWP.f (.a Z Z (.a Z Z (S.idx ha14 Z Z Z Z (.o Z Z Z Z (.a Z Z (.v Z Z Z (.nil (b5 (.ite Z h (fun hc4 h => ?_) (fun hc4 h => ?_))))))))))
  ·refine AWP.d (.f (.e Z Z (.nil (b5 (.ret (h9 (e8 ?_)))))))
   obtain rfl := oi h
   refine e8 ⟨_, Z, Z, ?_⟩
   exact Done.ret Z Z
  ·refine AWP.skip (d7 (b5 (.f (.a Z Z (.add Z Z Z (by omega) (.e Z Z (.nil ?_)))))))
   obtain rfl := oi h
   refine b5 ⟨_, Z, ?_⟩
   exact Sub.env ⟨Z, Z, Z, Y⟩
 ·intro e s hq
  rcases oo with u | x
  ·try dsimp only at h hq
   obtain ⟨rfl, hs⟩ := hq
   refine ⟨_, hs, ?_⟩
   refine g8 (b5 (.d (.f (.e Z Z (.nil (b5 (.ret ?_)))))))
   obtain rfl := oi h
   exact Done.ret Z Z
  ·try dsimp only at h hq
   obtain ⟨rfl, hs⟩ := hq
   refine ⟨_, Sub.refl _ _, ?_⟩
   refine h9 (e8 ?_)
   obtain rfl := oi h
   exact hs
theorem ao3 {av : List Int} {bv : List Int} {r : Bool} (h : P4 av bv = some r) : f8 Tryz.prog 37 [.c (row 1 intI av), .c (row 1 intI bv)] (.c (bool r)) := by
 unfold f8
 refine FnOk.enter (rs := [.t 4]) Tryz.func37 Z Tryz.ntmps37 Tryz.results37 Z ⟨trivial, Y⟩ (by kernel_rfl) Z ?_
 unfold P4 at h
 refine AWP.d (.f (.e Z Z (.nil (b5 (.d (.d (.f (.e Z Z (.nil (b5 (.k ?_)))))))))))
 obtain ⟨oo, ho1, h⟩ := b6 h
 refine AWP.rngS ho1 (fun iv3 _ => ⟨[(0, .c (row 1 intI av)), (1, .c (row 1 intI bv)), (5, .c (int iv3))], []⟩) (fun o e st => match o with | .inl _ => e = .exit 0 ∧ Sub [] st ⟨[], []⟩ | .inr x => e = .ret ∧ Done [.t 4] (fun t _ => t = .c (bool x)) .ret st) ?_ ?_ ?_ ?_
 ·try dsimp only
  exact Sub.env ⟨Z, Z, Z, Y⟩
 ·intro iv3 s hloiv3 hltiv3 _
  try dsimp only
  refine AWP.d (.d (.f (.a Z Z (.a Z Z (S.len Z Z (fun hl8 => .j Z Z Z (.nil (b5 (.q Z hltiv3 (.exit (d8 (d8 ⟨Z, ?_⟩))))))))))))
  exact Sub.env trivial
 ·intro iv3 s o hloiv3 hltiv3 h
  unfold Y1 at h
  try dsimp only at h ⊢
  refine AWP.d (.d (.f (.a Z Z (.a Z Z (S.len Z Z (fun hl8 => .j Z Z Z (.nil (b5 (.r Z hltiv3 (.skip (b5 (.d (.k (.d ?_))))))))))))))
  obtain ⟨a15, ha15, a17, ha17, h⟩ := b2 h
  refine AWP.f (.a Z Z (.a Z Z (.a Z Z (S.idx ha15 Z Z Z Z (.o Z Z Z Z (.l Z Z Z Z (F5 ha17) Z (.nil (b5 (.s Z h (fun hc4 h => ?_) (fun hc4 h => ?_))))))))))
  ·refine AWP.d (.f (.e Z Z (.nil (b5 (.ret (h9 (e8 ?_)))))))
   obtain rfl := oi h
   refine e8 ⟨_, Z, Z, ?_⟩
   exact Done.ret Z Z
  ·refine AWP.skip (d7 (b5 (.f (.a Z Z (.add Z Z Z (by omega) (.e Z Z (.nil ?_)))))))
   obtain rfl := oi h
   refine b5 ⟨_, Z, ?_⟩
   exact Sub.env ⟨Z, Z, Z, Y⟩
 ·intro e s hq
  rcases oo with u | x
  ·try dsimp only at h hq
   obtain ⟨rfl, hs⟩ := hq
   refine ⟨_, hs, ?_⟩
   refine g8 (b5 (.d (.f (.e Z Z (.nil (b5 (.ret ?_)))))))
   obtain rfl := oi h
   exact Done.ret Z Z
  ·try dsimp only at h hq
   obtain ⟨rfl, hs⟩ := hq
   refine ⟨_, Sub.refl _ _, ?_⟩
   refine h9 (e8 ?_)
   obtain rfl := oi h
   exact hs
theorem ao0 {ov : b9} {r : l6} (h : I3 ov = some r) : f8 Tryz.prog 13 [.agg (tO ov)] (.agg [int r.code, int r.index]) := by
 unfold f8
 refine FnOk.enter (rs := [.cell 2 28 2]) Tryz.func13 Z Tryz.ntmps13 Tryz.results13 Z ⟨rv _ Z, Y⟩ (by kernel_rfl) Z ?_
 unfold I3 at h
 refine AWP.d (.f (W.box Z Z Z Z Z Z (W.alloc Z Z Z Z (.nil (b5 (.d (.d ?_)))))))
 obtain ⟨a10, ha10, h⟩ := b6 h
 refine AWP.f (W.fieldAddr Z Z Z Z (.m Z Z Z Z Z Z (.l Z Z Z Z (P0 ha10) Z (.u Z Z (.nil (b5 (.s Z h (fun hc2 h => ?_) (fun hc2 h => ?_))))))))
 ·refine AWP.d ?_
  obtain ⟨a12, ha12, h⟩ := b6 h
  refine AWP.f (.l Z Z Z Z (ab5 ha12) Z (W.storeAgg Z Z Z Z Z Z Z (.nil (b5 (.ret (e8 ?_))))))
  obtain rfl := oi h
  exact Done.ret Z Z
 ·refine AWP.skip (b5 (.d (.d ?_)))
  obtain ⟨a17, ha17, h⟩ := b6 h
  refine AWP.f (W.fieldAddr Z Z Z Z (.m Z Z Z Z Z Z (W.fieldAddr Z Z Z Z (.m Z Z Z Z Z Z (.l Z Z Z Z (E2 ha17) Z (.u Z Z (.nil (b5 (.s Z h (fun hc3 h => ?_) (fun hc3 h => ?_))))))))))
  ·refine AWP.d ?_
   obtain ⟨a19, ha19, h⟩ := b6 h
   refine AWP.f (.l Z Z Z Z (ab5 ha19) Z (W.storeAgg Z Z Z Z Z Z Z (.nil (b5 (.ret (e8 ?_))))))
   obtain rfl := oi h
   exact Done.ret Z Z
  ·refine AWP.skip (b5 (.d (.d ?_)))
   obtain ⟨a24, ha24, h⟩ := b6 h
   refine AWP.f (W.fieldAddr Z Z Z Z (.m Z Z Z Z Z Z (W.fieldAddr Z Z Z Z (.m Z Z Z Z Z Z (.l Z Z Z Z (E2 ha24) Z (.u Z Z (.nil (b5 (.s Z h (fun hc4 h => ?_) (fun hc4 h => ?_))))))))))
   ·refine AWP.d ?_
    obtain ⟨a26, ha26, h⟩ := b6 h
    refine AWP.f (.l Z Z Z Z (ab5 ha26) Z (W.storeAgg Z Z Z Z Z Z Z (.nil (b5 (.ret (e8 ?_))))))
    obtain rfl := oi h
    exact Done.ret Z Z
   ·refine AWP.skip (b5 (.d (.d (.f (W.fieldAddr Z Z Z Z (.m Z Z Z Z Z Z (S.len Z Z (fun hl29 => .gtr Z Z Z (.nil (b5 (.ite Z h (fun hc5 h => ?_) (fun hc5 h => ?_))))))))))))
    ·refine AWP.d ?_
     obtain ⟨a31, ha31, h⟩ := b6 h
     refine AWP.f (.l Z Z Z Z (ab5 ha31) Z (W.storeAgg Z Z Z Z Z Z Z (.nil (b5 (.ret (e8 ?_))))))
     obtain rfl := oi h
     exact Done.ret Z Z
    ·refine AWP.skip (b5 (.d (.d (.f (.e Z Z (.nil (b5 (.k ?_))))))))
     obtain ⟨oo, ho1, h⟩ := b6 h
     refine AWP.rngS ho1 (fun iv6 _ => ⟨[(1, .c (.ptr 0 0 0)), (2, .c (.ptr 1 0 0)), (3, .c (int iv6))], [.one (.cells 4 [(tO ov)]), .one (.cells 2 [[int 0, int 0]])]⟩) (fun o e st => match o with | .inl _ => e = .exit 0 ∧ Sub [] st ⟨[(2, .c (.ptr 1 0 0))], [.one (.cells 4 [(tO ov)]), .one (.cells 2 [[int 0, int 0]])]⟩ | .inr x => e = .ret ∧ Done [.cell 2 28 2] (fun t _ => t = .agg [int x.code, int x.index]) .ret st) ?_ ?_ ?_ ?_
     ·try dsimp only
      exact Sub.env ⟨Z, Z, Z, Y⟩
     ·intro iv6 s hloiv6 hltiv6 _
      try dsimp only
      refine AWP.d (.d (.f (.a Z Z (W.fieldAddr Z Z Z Z (.m Z Z Z Z Z Z (S.len Z Z (fun hl35 => .j Z Z Z (.nil (b5 (.q Z hltiv6 (.exit (d8 (d8 ⟨Z, ?_⟩)))))))))))))
      exact Sub.env ⟨Z, Y⟩
     ·intro iv6 s o hloiv6 hltiv6 h
      unfold D7 at h
      try dsimp only at h ⊢
      refine AWP.d (.d (.f (.a Z Z (W.fieldAddr Z Z Z Z (.m Z Z Z Z Z Z (S.len Z Z (fun hl35 => .j Z Z Z (.nil (b5 (.r Z hltiv6 (.skip (b5 (.d (.k (.d ?_)))))))))))))))
      obtain ⟨a42, ha42, h⟩ := b6 h
      refine AWP.f (W.fieldAddr Z Z Z Z (.m Z Z Z Z Z Z (.a Z Z (S.idx ha42 Z Z Z Z (W.loadIAgg Z Z Z Z Z (W.alloc Z Z Z Z (W.storeAgg Z Z Z Z Z Z Z (.nil (b5 (.d (.f (.e Z Z (.nil (b5 ?_))))))))))))))
      obtain ⟨ev7, hx8, h⟩ := b6 h
      refine AWP.seqJ (⟨[(1, .c (.ptr 0 0 0)), (2, .c (.ptr 1 0 0)), (3, .c (int iv6)), (4, .c (.ptr 2 0 0)), (5, .c (int ev7))], [.one (.cells 4 [(tO ov)]), .one (.cells 2 [[int 0, int 0]]), .one (.cells 3 [[row 1 intI a42.pre, row 3 p7 a42.outcomes, int a42.cost]])]⟩) ?_ ?_
      ·refine AWP.d ?_
       obtain ⟨a48, ha48, hx8⟩ := b6 hx8
       refine AWP.f (W.fieldAddr Z Z Z Z (.m Z Z Z Z Z Z (W.fieldAddr Z Z Z Z (.m Z Z Z Z Z Z (.l Z Z Z Z (E2 ha48) Z (.u Z Z (.nil (b5 (.s Z hx8 (fun hc9 hx8 => ?_) (fun hc9 hx8 => ?_))))))))))
       ·refine AWP.f (.e Z Z (.nil ?_))
        obtain rfl := oi hx8
        refine b5 (Sub.env ⟨Z, Z, Z, Z, Z, Y⟩)
       ·refine AWP.d ?_
        obtain ⟨a52, ha52, hx8⟩ := b6 hx8
        refine AWP.f (W.fieldAddr Z Z Z Z (.m Z Z Z Z Z Z (.l Z Z Z Z (P0 ha52) Z (.u Z Z (.nil (b5 (.s Z hx8 (fun hc10 hx8 => ?_) (fun hc10 hx8 => ?_))))))))
        ·refine AWP.f (.e Z Z (.nil ?_))
         obtain rfl := oi hx8
         refine b5 (Sub.env ⟨Z, Z, Z, Z, Z, Y⟩)
        ·refine AWP.d ?_
         obtain ⟨a57, ha57, hx8⟩ := b6 hx8
         refine AWP.f (W.fieldAddr Z Z Z Z (.m Z Z Z Z Z Z (S.len Z Z (fun hl56 => .l Z Z Z Z (P0 ha57) Z (.u Z Z (.nil (b5 (.s Z hx8 (fun hc11 hx8 => ?_) (fun hc11 hx8 => ?_)))))))))
         ·refine AWP.f (.e Z Z (.nil ?_))
          obtain rfl := oi hx8
          refine b5 (Sub.env ⟨Z, Z, Z, Z, Z, Y⟩)
         ·refine AWP.skip ?_
          obtain rfl := oi hx8
          refine b5 (Sub.env ⟨Z, Z, Z, Z, Z, Y⟩)
      ·refine AWP.d (.d (.f (.e Z Z (.nil (b5 (.k ?_))))))
       obtain ⟨ev14, ho2, h⟩ := b6 h
       refine AWP.loopS ho2 (fun (ev12, kv13) => ⟨[(1, .c (.ptr 0 0 0)), (2, .c (.ptr 1 0 0)), (3, .c (int iv6)), (4, .c (.ptr 2 0 0)), (5, .c (int ev12)), (6, .c (int kv13))], [.one (.cells 4 [(tO ov)]), .one (.cells 2 [[int 0, int 0]]), .one (.cells 3 [[row 1 intI a42.pre, row 3 p7 a42.outcomes, int a42.cost]])]⟩) (fun ev14 e st => e = .exit 2 ∧ Sub [] st ⟨[(1, .c (.ptr 0 0 0)), (2, .c (.ptr 1 0 0)), (3, .c (int iv6)), (5, .c (int ev14))], [.one (.cells 4 [(tO ov)]), .one (.cells 2 [[int 0, int 0]])]⟩) ?_ ?_ ?_
       ·try dsimp only
        exact Sub.env ⟨Z, Z, Z, Z, Z, Z, Y⟩
       ·intro s o h
        obtain ⟨ev12, kv13⟩ := s
        unfold y4 at h
        try dsimp only at h ⊢
        refine AWP.d (.seqJ (⟨[(1, .c (.ptr 0 0 0)), (2, .c (.ptr 1 0 0)), (3, .c (int iv6)), (4, .c (.ptr 2 0 0)), (5, .c (int ev12)), (6, .c (int kv13)), (67, .c (bool ((decide (kv13 < (a42.outcomes.length : Int))) && (decide (ev12 = 0)))))], [.one (.cells 4 [(tO ov)]), .one (.cells 2 [[int 0, int 0]]), .one (.cells 3 [[row 1 intI a42.pre, row 3 p7 a42.outcomes, int a42.cost]])]⟩) ?_ ?_)
        ·rcases bft (decide (kv13 < (a42.outcomes.length : Int))) with hb1 | hb1
         ·refine AWP.f (.a Z Z (W.fieldAddr Z Z Z Z (.m Z Z Z Z Z Z (S.len Z Z (fun hl62 => .j Z Z Z (.a Z Z (.g Z Z Z hb1 (.a Z Z (.g Z Z Z hb1 (.v Z Z Z (.p Z hb1 Z Z (.nil (b5 ?_)))))))))))))
          simp only [and_t hb1, or_t hb1, Bool.false_or, Bool.true_or, Bool.false_and, Bool.true_and]
          exact Sub.env ⟨Z, Z, Z, Z, Z, Z, Z, Y⟩
         ·refine AWP.f (.a Z Z (W.fieldAddr Z Z Z Z (.m Z Z Z Z Z Z (S.len Z Z (fun hl62 => .j Z Z Z (.a Z Z (.i Z Z Z hb1 (.i Z Z Z hb1 (.n Z hb1 Z Z (.nil (b5 ?_)))))))))))
          simp only [and_f hb1, or_f hb1, Bool.false_or, Bool.true_or, Bool.false_and, Bool.true_and]
          exact Sub.env ⟨Z, Z, Z, Z, Z, Z, Z, Y⟩
        ·refine AWP.s Z h (fun hc15 h => ?_) (fun hc15 h => ?_)
         ·refine AWP.skip (b5 ?_)
          obtain ⟨ev16, hx17, h⟩ := b6 h
          refine AWP.seqJ (⟨[(1, .c (.ptr 0 0 0)), (2, .c (.ptr 1 0 0)), (3, .c (int iv6)), (4, .c (.ptr 2 0 0)), (5, .c (int ev16)), (6, .c (int kv13))], [.one (.cells 4 [(tO ov)]), .one (.cells 2 [[int 0, int 0]]), .one (.cells 3 [[row 1 intI a42.pre, row 3 p7 a42.outcomes, int a42.cost]])]⟩) ?_ ?_
          ·refine AWP.k (.d ?_)
           obtain ⟨a73, ha73, hx17⟩ := b6 hx17
           refine AWP.f (W.fieldAddr Z Z Z Z (.m Z Z Z Z Z Z (.a Z Z (S.idx ha73 Z Z Z Z (W.loadIAgg Z Z Z Z Z (W.alloc Z Z Z Z (W.storeAgg Z Z Z Z Z Z Z (.nil (b5 ?_)))))))))
           obtain ⟨t18, hx19, hx17⟩ := b6 hx17
           refine AWP.seqJ (⟨[(1, .c (.ptr 0 0 0)), (2, .c (.ptr 1 0 0)), (3, .c (int iv6)), (4, .c (.ptr 2 0 0)), (5, .c (int ev12)), (6, .c (int kv13)), (7, .c (.ptr 3 0 0)), (96, .c (bool t18))], [.one (.cells 4 [(tO ov)]), .one (.cells 2 [[int 0, int 0]]), .one (.cells 3 [[row 1 intI a42.pre, row 3 p7 a42.outcomes, int a42.cost]]), .one (.cells 3 [[row 1 intI a73.add, row 1 intI a73.del, int a73.weight]])]⟩) ?_ ?_
           ·obtain ⟨a79, ha79, hx19⟩ := b6 hx19
            rcases bft (!a79) with hb20 | hb20
            ·replace hx19 := w9 hb20 hx19
             refine AWP.f (W.fieldAddr Z Z Z Z (.m Z Z Z Z Z Z (W.fieldAddr Z Z Z Z (.m Z Z Z Z Z Z (.l Z Z Z Z (E2 ha79) Z (.u Z Z (.a Z Z (.i Z Z Z hb20 (.i Z Z Z hb20 (.i Z Z Z hb20 (.i Z Z Z hb20 (.i Z Z Z hb20 (.i Z Z Z hb20 (.p Z hb20 Z Z (.a Z Z (.i Z Z Z Z (.i Z Z Z Z (.i Z Z Z Z (.i Z Z Z Z (.i Z Z Z Z (.i Z Z Z Z (.p Z Z Z Z (.nil ?_)))))))))))))))))))))))
             obtain rfl := oi hx19
             refine b5 (Sub.env ⟨Z, Z, Z, Z, Z, Z, Z, Z, Y⟩)
            ·replace hx19 := w6 hb20 hx19
             obtain ⟨a86, ha86, hx19⟩ := b6 hx19
             rcases bft (!a86) with hb21 | hb21
             ·replace hx19 := w9 hb21 hx19
              refine AWP.f (W.fieldAddr Z Z Z Z (.m Z Z Z Z Z Z (W.fieldAddr Z Z Z Z (.m Z Z Z Z Z Z (.l Z Z Z Z (E2 ha79) Z (.u Z Z (.a Z Z (.g Z Z Z hb20 (W.fieldAddr Z Z Z Z (.g Z Z Z hb20 (.m Z Z Z Z Z Z (.g Z Z Z hb20 (W.fieldAddr Z Z Z Z (.g Z Z Z hb20 (.m Z Z Z Z Z Z (.g Z Z Z hb20 (.l Z Z Z Z (E2 ha86) Z (.g Z Z Z hb20 (.u Z Z (.n Z hb20 Z Z (.a Z Z (.i Z Z Z hb21 (.i Z Z Z hb21 (.i Z Z Z hb21 (.i Z Z Z hb21 (.i Z Z Z hb21 (.i Z Z Z hb21 (.p Z hb21 Z Z (.nil ?_)))))))))))))))))))))))))))))
              obtain rfl := oi hx19
              refine b5 (Sub.env ⟨Z, Z, Z, Z, Z, Z, Z, Z, Y⟩)
             ·replace hx19 := w6 hb21 hx19
              obtain ⟨a94, ha94, hx19⟩ := b6 hx19
              refine AWP.f (W.fieldAddr Z Z Z Z (.m Z Z Z Z Z Z (W.fieldAddr Z Z Z Z (.m Z Z Z Z Z Z (.l Z Z Z Z (E2 ha79) Z (.u Z Z (.a Z Z (.g Z Z Z hb20 (W.fieldAddr Z Z Z Z (.g Z Z Z hb20 (.m Z Z Z Z Z Z (.g Z Z Z hb20 (W.fieldAddr Z Z Z Z (.g Z Z Z hb20 (.m Z Z Z Z Z Z (.g Z Z Z hb20 (.l Z Z Z Z (E2 ha86) Z (.g Z Z Z hb20 (.u Z Z (.n Z hb20 Z Z (.a Z Z (.g Z Z Z hb21 (W.fieldAddr Z Z Z Z (.g Z Z Z hb21 (.m Z Z Z Z Z Z (.g Z Z Z hb21 (W.fieldAddr Z Z Z Z (.g Z Z Z hb21 (.m Z Z Z Z Z Z (.g Z Z Z hb21 (.l Z Z Z Z (ao3 ha94) Z (.g Z Z Z hb21 (.u Z Z (.n Z hb21 Z Z (.nil ?_)))))))))))))))))))))))))))))))))))
              obtain rfl := oi hx19
              refine b5 (Sub.env ⟨Z, Z, Z, Z, Z, Z, Z, Z, Y⟩)
           ·refine AWP.s Z hx17 (fun hc22 hx17 => ?_) (fun hc22 hx17 => ?_)
            ·refine AWP.f (.e Z Z (.nil (d7 ?_)))
             obtain rfl := oi hx17
             refine b5 (Sub.cut ⟨Z, Z, Z, Z, Z, Z, Y⟩ Z ⟨.one Z, .one Z, .one Z, Y⟩ Z)
            ·refine AWP.d ?_
             obtain ⟨a99, ha99, hx17⟩ := b6 hx17
             refine AWP.f (W.fieldAddr Z Z Z Z (.m Z Z Z Z Z Z (.l Z Z Z Z (P0 ha99) Z (.u Z Z (.nil (b5 (.s Z hx17 (fun hc23 hx17 => ?_) (fun hc23 hx17 => ?_))))))))
             ·refine AWP.f (.e Z Z (.nil (d7 ?_)))
              obtain rfl := oi hx17
              refine b5 (Sub.cut ⟨Z, Z, Z, Z, Z, Z, Y⟩ Z ⟨.one Z, .one Z, .one Z, Y⟩ Z)
             ·refine AWP.skip (d7 ?_)
              obtain rfl := oi hx17
              refine b5 (Sub.cut ⟨Z, Z, Z, Z, Z, Z, Y⟩ Z ⟨.one Z, .one Z, .one Z, Y⟩ Z)
          ·refine AWP.f (.a Z Z (S.add Z Z Z (.e Z Z (.nil ?_))))
           obtain rfl := oi h
           refine b5 ⟨_, Z, ?_⟩
           exact Sub.env ⟨Z, Z, Z, Z, Z, Z, Y⟩
         ·refine AWP.exit (d8 ?_)
          obtain rfl := oi h
          refine d8 ⟨_, Z, Z, ?_⟩
          exact Sub.cut ⟨Z, Z, Z, Z, Y⟩ Z ⟨.one Z, .one Z, Y⟩ Z
       ·intro e s hq
        obtain ⟨rfl, hs⟩ := hq
        refine ⟨_, hs, ?_⟩
        refine g8 (b5 (.d (.f (.a Z Z (.neq Z Z Z (.nil (b5 (.iteN Z h (fun hc24 h => ?_) (fun hc24 h => ?_)))))))))
        ·refine AWP.d ?_
         obtain ⟨a105, ha105, h⟩ := b6 h
         refine AWP.f (.a Z Z (.a Z Z (.l Z Z Z Z (ab5 ha105) Z (W.storeAgg Z Z Z Z Z Z Z (.nil (b5 (.ret (h9 (e8 ?_)))))))))
         obtain rfl := oi h
         refine e8 ⟨_, Z, Z, ?_⟩
         exact Done.ret Z Z
        ·refine AWP.skip (d7 (b5 (.f (.a Z Z (.add Z Z Z (by omega) (.e Z Z (.nil ?_)))))))
         obtain rfl := oi h
         refine b5 ⟨_, Z, ?_⟩
         exact Sub.env ⟨Z, Z, Z, Y⟩
     ·intro e s hq
      rcases oo with u | x
      ·try dsimp only at h hq
       obtain ⟨rfl, hs⟩ := hq
       refine ⟨_, hs, ?_⟩
       refine g8 (b5 (.d (.f (W.build Z Z Z Z (W.storeAgg Z Z Z Z Z Z Z (.nil (b5 (.ret ?_))))))))
       obtain rfl := oi h
       exact Done.ret Z Z
      ·try dsimp only at h hq
       obtain ⟨rfl, hs⟩ := hq
       refine ⟨_, Sub.refl _ _, ?_⟩
       refine h9 (e8 ?_)
       obtain rfl := oi h
       exact hs
theorem ai5 {ov : b9} {policy : List d9} {r : l6} (h : E8 ov policy = some r) : f8 Tryz.prog 52 [.agg (tO ov), .c (row 2 g7 policy)] (.agg [int r.code, int r.index]) := by
 unfold f8
 refine FnOk.enter (rs := [.cell 4 28 2]) Tryz.func52 Z Tryz.ntmps52 Tryz.results52 Z ⟨rv _ Z, Y⟩ (by kernel_rfl) Z ?_
 unfold E8 at h
 refine AWP.d (.f (W.box Z Z Z Z Z Z (W.alloc Z Z Z Z (.nil (b5 (.d (.d ?_)))))))
 obtain ⟨a10, ha10, h⟩ := b6 h
 refine AWP.f (W.loadAgg Z Z Z Z Z Z Z (.l Z Z Z Z (ag7 ha10) Z (W.alloc Z Z Z Z (W.storeAgg Z Z Z Z Z Z Z (.nil (b5 (.d (.f (W.loadAgg Z Z Z Z Z Z Z (W.build Z Z Z Z (.neqP Z Z Z Z Z Z Z (.nil (b5 (.s Z h (fun hc3 h => ?_) (fun hc3 h => ?_)))))))))))))))
 ·refine AWP.d (.f (W.loadAgg Z Z Z Z Z Z Z (W.storeAgg Z Z Z Z Z Z Z (.nil (b5 (.ret (e8 ?_)))))))
  obtain rfl := oi h
  exact Done.ret Z Z
 ·refine AWP.skip (b5 (.d (.d (.f (.a Z Z (S.len Z Z (fun hl16 => .gtr Z Z Z (.nil (b5 (.ite Z h (fun hc4 h => ?_) (fun hc4 h => ?_)))))))))))
  ·refine AWP.d (.f (W.build Z Z Z Z (W.storeAgg Z Z Z Z Z Z Z (.nil (b5 (.ret (e8 ?_)))))))
   obtain rfl := oi h
   exact Done.ret Z Z
  ·refine AWP.skip (b5 (.d (.d (.f (.a Z Z (S.len Z Z (fun hl20 => .a Z Z (.nil (b5 (.k ?_))))))))))
   obtain ⟨oo, ho1, h⟩ := b6 h
   refine AWP.rngS ho1 (fun t5 _ => ⟨[(1, .c (row 2 g7 policy)), (2, .c (.ptr 0 0 0)), (4, .c (.ptr 1 0 0)), (19, .c (row 2 g7 policy)), (20, .c (int (policy.length : Int))), (21, .c (int t5))], [.one (.cells 4 [(tO ov)]), .one (.cells 2 [[int 0, int 0]])]⟩) (fun o e st => match o with | .inl _ => e = .exit 0 ∧ Sub [] st ⟨[(4, .c (.ptr 1 0 0))], [.one (.cells 4 [(tO ov)]), .one (.cells 2 [[int 0, int 0]])]⟩ | .inr x => e = .ret ∧ Done [.cell 4 28 2] (fun t _ => t = .agg [int x.code, int x.index]) .ret st) ?_ ?_ ?_ ?_
   ·try dsimp only
    exact Sub.cut ⟨Z, Z, Z, Z, Z, Z, Y⟩ Z ⟨.one Z, .one Z, Y⟩ Z
   ·intro t5 s hlot5 hltt5 _
    try dsimp only
    refine AWP.d (.f (.j Z Z Z (.nil (b5 (.d (.q Z hltt5 (.exit (d8 (d8 ⟨Z, ?_⟩)))))))))
    exact Sub.env ⟨Z, Y⟩
   ·intro t5 s o hlot5 hltt5 h
    unfold B7 at h
    try dsimp only at h ⊢
    refine AWP.d (.f (.j Z Z Z (.nil (b5 (.d (.r Z hltt5 (.skip (b5 (.d (.k (.d ?_)))))))))))
    obtain ⟨a24, ha24, h⟩ := b6 h
    refine AWP.f (.a Z Z (S.idx ha24 Z Z Z Z (W.loadIAgg Z Z Z Z Z (W.alloc Z Z Z Z (.e Z Z (W.storeAgg Z Z Z Z Z Z Z (.nil (b5 (.d (.f (.e Z Z (.nil (b5 ?_)))))))))))))
    obtain ⟨ev6, hx7, h⟩ := b6 h
    refine AWP.seqJ (⟨[(1, .c (row 2 g7 policy)), (2, .c (.ptr 0 0 0)), (4, .c (.ptr 1 0 0)), (6, .c (int t5)), (8, .c (int ev6)), (19, .c (row 2 g7 policy)), (20, .c (int (policy.length : Int))), (21, .c (int t5))], [.one (.cells 4 [(tO ov)]), .one (.cells 2 [[int 0, int 0]])]⟩) ?_ ?_
    ·refine AWP.k ?_
     obtain ⟨t8, hx9, hx7⟩ := b6 hx7
     refine AWP.seqJ (⟨[(1, .c (row 2 g7 policy)), (2, .c (.ptr 0 0 0)), (4, .c (.ptr 1 0 0)), (6, .c (int t5)), (7, .c (.ptr 2 0 0)), (8, .c (int 0)), (19, .c (row 2 g7 policy)), (20, .c (int (policy.length : Int))), (21, .c (int t5)), (26, .c (bool t8))], [.one (.cells 4 [(tO ov)]), .one (.cells 2 [[int 0, int 0]]), .one (.cells 2 [[row 1 intI a24.state, int a24.operator]])]⟩) ?_ ?_
     ·obtain ⟨a31, ha31, hx9⟩ := b6 hx9
      rcases bft (!a31) with hb10 | hb10
      ·replace hx9 := w9 hb10 hx9
       refine AWP.drawI mixed Z ?_
       refine i5.consF Z (fun E => W.fieldAddr Z Z Z Z (.nil ⟨Z, Z⟩)) Z (.consF Z (fun E => AOps.m Z Z Z Z Z Z (.nil ⟨Z, Z⟩)) Z (.consF Z (fun E => W.fieldAddr Z Z Z Z (.nil ⟨Z, Z⟩)) Z (.consF Z (fun E => AOps.m Z Z Z Z Z Z (.nil ⟨Z, Z⟩)) Z (.consF Z (fun E => AOps.l Z Z Z Z (r9 ha31) Z (.nil ⟨Z, Z⟩)) Z (.consF Z (fun E => AOps.u Z Z (.nil ⟨Z, Z⟩)) Z (.consF Z (fun E => AOps.a Z Z (.nil ⟨Z, Z⟩)) Z (.consF Z (fun E => AOps.i Z Z Z hb10 (.nil ⟨Z, Z⟩)) Z (.consF Z (fun E => AOps.i Z Z Z hb10 (.nil ⟨Z, Z⟩)) Z (.consF Z (fun E => AOps.i Z Z Z hb10 (.nil ⟨Z, Z⟩)) Z (.consF Z (fun E => AOps.x Z Z Z (.nil ⟨Z, Z⟩)) Z (.consF Z (fun E => AOps.x Z Z Z (.nil ⟨Z, Z⟩)) Z (.consF Z (fun E => AOps.x Z Z Z (.nil ⟨Z, Z⟩)) Z (.consF Z (fun E => AOps.x Z Z Z (.nil ⟨Z, Z⟩)) Z (.consF Z (fun E => AOps.x Z Z Z (.nil ⟨Z, Z⟩)) Z (.consF Z (fun E => AOps.x Z Z Z (.nil ⟨Z, Z⟩)) Z (.consF Z (fun E => AOps.x Z Z Z (.nil ⟨Z, Z⟩)) Z (.consF Z (fun E => AOps.x Z Z Z (.nil ⟨Z, Z⟩)) Z (.consF Z (fun E => AOps.x Z Z Z (.nil ⟨Z, Z⟩)) Z (.consF Z (fun E => AOps.x Z Z Z (.nil ⟨Z, Z⟩)) Z (.consF Z (fun E => AOps.i Z Z Z hb10 (.nil ⟨Z, Z⟩)) Z (.consF Z (fun E => AOps.p Z hb10 Z Z (.nil ⟨Z, Z⟩)) Z (.consF Z (fun E => AOps.e Z Z (.nil ⟨Z, Z⟩)) Z ?_))))))))))))))))))))))
       refine i5.done ?_
       dsimp only [j6]
       obtain rfl := oi hx9
       refine b5 (Sub.env ⟨Z, Z, Z, Z, Z, Z, Z, Z, Z, Z, Y⟩)
      ·replace hx9 := w6 hb10 hx9
       rcases bft (decide (0 < t5)) with hb11 | hb11
       ·replace hx9 := C2 hb11 hx9
        obtain ⟨a40, ha40, a45, ha45, hx9⟩ := b2 hx9
        refine AWP.drawI mixed Z ?_
        refine i5.consF Z (fun E => W.fieldAddr Z Z Z Z (.nil ⟨Z, Z⟩)) Z (.consF Z (fun E => AOps.m Z Z Z Z Z Z (.nil ⟨Z, Z⟩)) Z (.consF Z (fun E => W.fieldAddr Z Z Z Z (.nil ⟨Z, Z⟩)) Z (.consF Z (fun E => AOps.m Z Z Z Z Z Z (.nil ⟨Z, Z⟩)) Z (.consF Z (fun E => AOps.l Z Z Z Z (r9 ha31) Z (.nil ⟨Z, Z⟩)) Z (.consF Z (fun E => AOps.u Z Z (.nil ⟨Z, Z⟩)) Z (.consF Z (fun E => AOps.a Z Z (.nil ⟨Z, Z⟩)) Z (.consF Z (fun E => AOps.g Z Z Z hb10 (.a Z Z (.nil ⟨Z, Z⟩))) Z (.consF Z (fun E => AOps.g Z Z Z hb10 (.gtr Z Z Z (.nil ⟨Z, Z⟩))) Z (.consF Z (fun E => AOps.g Z Z Z hb10 (.a Z Z (.nil ⟨Z, Z⟩))) Z (.consF Z (fun E => AOps.g Z Z Z hb11 (.a Z Z (.nil ⟨Z, Z⟩))) Z (.consF Z (fun E => AOps.g Z Z Z hb11 (.a Z Z (.nil ⟨Z, Z⟩))) Z (.consF Z (fun E => AOps.g Z Z Z hb11 (.sub' Z Z Z (by omega) (.nil ⟨Z, Z⟩))) Z (.consF Z (fun E => AOps.g Z Z Z hb11 (S.idx ha40 Z Z Z Z (.nil ⟨Z, Z⟩))) Z (.consF Z (fun E => AOps.g Z Z Z hb11 (W.fieldAddrI Z Z Z Z (.nil ⟨Z, Z⟩))) Z (.consF Z (fun E => AOps.g Z Z Z hb11 (.o Z Z Z Z (.nil ⟨Z, Z⟩))) Z (.consF Z (fun E => AOps.g Z Z Z hb11 (W.fieldAddr Z Z Z Z (.nil ⟨Z, Z⟩))) Z (.consF Z (fun E => AOps.g Z Z Z hb11 (.m Z Z Z Z Z Z (.nil ⟨Z, Z⟩))) Z (.consF Z (fun E => AOps.g Z Z Z hb11 (.l Z Z Z Z (u3 ha45) Z (.nil ⟨Z, Z⟩))) Z (.consF Z (fun E => AOps.g Z Z Z hb11 (.geq Z Z Z (.nil ⟨Z, Z⟩))) Z (.consF Z (fun E => AOps.g Z Z Z hb10 (.p Z hb11 Z Z (.nil ⟨Z, Z⟩))) Z (.consF Z (fun E => AOps.n Z hb10 Z Z (.nil ⟨Z, Z⟩)) Z (.consF Z (fun E => AOps.e Z Z (.nil ⟨Z, Z⟩)) Z ?_))))))))))))))))))))))
        refine i5.done ?_
        dsimp only [j6]
        obtain rfl := oi hx9
        refine b5 (Sub.env ⟨Z, Z, Z, Z, Z, Z, Z, Z, Z, Z, Y⟩)
       ·replace hx9 := B9 hb11 hx9
        refine AWP.drawI mixed Z ?_
        refine i5.consF Z (fun E => W.fieldAddr Z Z Z Z (.nil ⟨Z, Z⟩)) Z (.consF Z (fun E => AOps.m Z Z Z Z Z Z (.nil ⟨Z, Z⟩)) Z (.consF Z (fun E => W.fieldAddr Z Z Z Z (.nil ⟨Z, Z⟩)) Z (.consF Z (fun E => AOps.m Z Z Z Z Z Z (.nil ⟨Z, Z⟩)) Z (.consF Z (fun E => AOps.l Z Z Z Z (r9 ha31) Z (.nil ⟨Z, Z⟩)) Z (.consF Z (fun E => AOps.u Z Z (.nil ⟨Z, Z⟩)) Z (.consF Z (fun E => AOps.a Z Z (.nil ⟨Z, Z⟩)) Z (.consF Z (fun E => AOps.g Z Z Z hb10 (.a Z Z (.nil ⟨Z, Z⟩))) Z (.consF Z (fun E => AOps.g Z Z Z hb10 (.gtr Z Z Z (.nil ⟨Z, Z⟩))) Z (.consF Z (fun E => AOps.g Z Z Z hb10 (.a Z Z (.nil ⟨Z, Z⟩))) Z (.consF Z (fun E => AOps.i Z Z Z hb11 (.nil ⟨Z, Z⟩)) Z (.consF Z (fun E => AOps.i Z Z Z hb11 (.nil ⟨Z, Z⟩)) Z (.consF Z (fun E => AOps.i Z Z Z hb11 (.nil ⟨Z, Z⟩)) Z (.consF Z (fun E => AOps.i Z Z Z hb11 (.nil ⟨Z, Z⟩)) Z (.consF Z (fun E => AOps.i Z Z Z hb11 (.nil ⟨Z, Z⟩)) Z (.consF Z (fun E => AOps.i Z Z Z hb11 (.nil ⟨Z, Z⟩)) Z (.consF Z (fun E => AOps.i Z Z Z hb11 (.nil ⟨Z, Z⟩)) Z (.consF Z (fun E => AOps.i Z Z Z hb11 (.nil ⟨Z, Z⟩)) Z (.consF Z (fun E => AOps.i Z Z Z hb11 (.nil ⟨Z, Z⟩)) Z (.consF Z (fun E => AOps.i Z Z Z hb11 (.nil ⟨Z, Z⟩)) Z (.consF Z (fun E => AOps.g Z Z Z hb10 (.n Z hb11 Z Z (.nil ⟨Z, Z⟩))) Z (.consF Z (fun E => AOps.n Z hb10 Z Z (.nil ⟨Z, Z⟩)) Z (.consF Z (fun E => AOps.e Z Z (.nil ⟨Z, Z⟩)) Z ?_))))))))))))))))))))))
        refine i5.done ?_
        dsimp only [j6]
        obtain rfl := oi hx9
        refine b5 (Sub.env ⟨Z, Z, Z, Z, Z, Z, Z, Z, Z, Z, Y⟩)
     ·refine AWP.s Z hx7 (fun hc12 hx7 => ?_) (fun hc12 hx7 => ?_)
      ·refine AWP.f (.e Z Z (.nil (d7 ?_)))
       obtain rfl := oi hx7
       refine b5 (Sub.cut ⟨Z, Z, Z, Z, Z, Z, Z, Z, Y⟩ Z ⟨.one Z, .one Z, Y⟩ Z)
      ·refine AWP.seqJ (⟨[(1, .c (row 2 g7 policy)), (2, .c (.ptr 0 0 0)), (4, .c (.ptr 1 0 0)), (6, .c (int t5)), (7, .c (.ptr 2 0 0)), (8, .c (int 0)), (19, .c (row 2 g7 policy)), (20, .c (int (policy.length : Int))), (21, .c (int t5)), (49, .c (bool ((decide (a24.operator < 0)) || (decide ((ov.operators.length : Int) ≤ a24.operator)))))], [.one (.cells 4 [(tO ov)]), .one (.cells 2 [[int 0, int 0]]), .one (.cells 2 [[row 1 intI a24.state, int a24.operator]])]⟩) ?_ ?_
       ·rcases bft (decide (a24.operator < 0)) with hb1 | hb1
        ·refine AWP.f (W.fieldAddr Z Z Z Z (.m Z Z Z Z Z Z (.j Z Z Z (.a Z Z (.i Z Z Z hb1 (.i Z Z Z hb1 (.i Z Z Z hb1 (.i Z Z Z hb1 (.i Z Z Z hb1 (.i Z Z Z hb1 (.p Z hb1 Z Z (.e Z Z (.nil (b5 ?_))))))))))))))
         simp only [and_t hb1, or_t hb1, Bool.false_or, Bool.true_or, Bool.false_and, Bool.true_and]
         exact Sub.env ⟨Z, Z, Z, Z, Z, Z, Z, Z, Z, Z, Y⟩
        ·refine AWP.f (W.fieldAddr Z Z Z Z (.m Z Z Z Z Z Z (.j Z Z Z (.a Z Z (.g Z Z Z hb1 (W.fieldAddr Z Z Z Z (.g Z Z Z hb1 (.m Z Z Z Z Z Z (.g Z Z Z hb1 (W.fieldAddr Z Z Z Z (.g Z Z Z hb1 (.m Z Z Z Z Z Z ?_))))))))))))
         refine AOps.g Z Z Z hb1 ?_; refine S.len Z Z (fun hl58 => ?_)
         refine AOps.g Z Z Z hb1 (.geq Z Z Z (.n Z hb1 Z Z (.e Z Z (.nil (b5 ?_)))))
         simp only [and_f hb1, or_f hb1, Bool.false_or, Bool.true_or, Bool.false_and, Bool.true_and]
         exact Sub.env ⟨Z, Z, Z, Z, Z, Z, Z, Z, Z, Z, Y⟩
       ·refine AWP.s Z hx7 (fun hc13 hx7 => ?_) (fun hc13 hx7 => ?_)
        ·refine AWP.f (.e Z Z (.nil (d7 ?_)))
         obtain rfl := oi hx7
         refine b5 (Sub.cut ⟨Z, Z, Z, Z, Z, Z, Z, Z, Y⟩ Z ⟨.one Z, .one Z, Y⟩ Z)
        ·refine AWP.d ?_
         obtain ⟨a67, ha67, hx7⟩ := b6 hx7
         refine AWP.f (W.loadAgg Z Z Z Z Z Z Z (W.fieldAddr Z Z Z Z (.m Z Z Z Z Z Z (W.fieldAddr Z Z Z Z (.m Z Z Z Z Z Z (.l Z Z Z Z (ad3 ha67) Z (.u Z Z (.e Z Z (.nil (b5 (.s Z hx7 (fun hc14 hx7 => ?_) (fun hc14 hx7 => ?_))))))))))))
         ·refine AWP.f (.e Z Z (.nil (d7 ?_)))
          obtain rfl := oi hx7
          refine b5 (Sub.cut ⟨Z, Z, Z, Z, Z, Z, Z, Z, Y⟩ Z ⟨.one Z, .one Z, Y⟩ Z)
         ·refine AWP.skip (d7 ?_)
          obtain rfl := oi hx7
          refine b5 (Sub.cut ⟨Z, Z, Z, Z, Z, Z, Z, Z, Y⟩ Z ⟨.one Z, .one Z, Y⟩ Z)
    ·refine AWP.d (.f (.a Z Z (.neq Z Z Z (.nil (b5 (.iteN Z h (fun hc15 h => ?_) (fun hc15 h => ?_)))))))
     ·refine AWP.d (.f (.a Z Z (.a Z Z (S.sub Z Z Z (W.build Z Z Z Z (W.storeAgg Z Z Z Z Z Z Z (.nil (b5 (.ret (h9 (e8 ?_)))))))))))
      obtain rfl := oi h
      refine e8 ⟨_, Z, Z, ?_⟩
      exact Done.ret Z Z
     ·refine AWP.skip (d7 (b5 (.f (.add Z Z Z (by omega) (.a Z Z (.nil ?_))))))
      obtain rfl := oi h
      refine b5 ⟨_, Z, ?_⟩
      exact Sub.env ⟨Z, Z, Z, Z, Z, Z, Y⟩
   ·intro e s hq
    rcases oo with u | x
    ·try dsimp only at h hq
     obtain ⟨rfl, hs⟩ := hq
     refine ⟨_, hs, ?_⟩
     refine g8 (b5 (.d (.f (W.build Z Z Z Z (W.storeAgg Z Z Z Z Z Z Z (.nil (b5 (.ret ?_))))))))
     obtain rfl := oi h
     exact Done.ret Z Z
    ·try dsimp only at h hq
     obtain ⟨rfl, hs⟩ := hq
     refine ⟨_, Sub.refl _ _, ?_⟩
     refine h9 (e8 ?_)
     obtain rfl := oi h
     exact hs
theorem ao2 {xv : List Int} {c2 : List Int} {r : Bool} (h : I4 xv c2 = some r) : f8 Tryz.prog 81 [.c (row 1 intI xv), .c (.imm (.ipt [.sl 1 (List.map intI c2)]))] (.c (bool r)) := by
 unfold f8
 refine FnOk.enter (rs := [.t 3]) Tryz.func81 Z Tryz.ntmps81 Tryz.results81 Z ⟨trivial, Y⟩ (by kernel_rfl) Z ?_
 unfold I4 at h
 refine AWP.d (.f (.e Z Z (.nil (b5 (.d ?_)))))
 obtain ⟨a6, ha6, h⟩ := b6 h
 refine AWP.f (.a Z Z (.o Z Z Z Z (.l Z Z Z Z (J8 ha6) Z (.e Z Z (.nil (b5 (.ret ?_)))))))
 obtain rfl := oi h
 exact Done.ret Z Z
theorem ae6 {sv : LL} {fv : (List Int) → Option Bool} {r : Int} {fvfv : FuncId} {cvfv : List C} (hcvfv : C.okL 0 cvfv = true) (hfv : ∀ {y1 : List Int} {z : Bool}, fv y1 = some z → f8 Tryz.prog fvfv ([.c (row 1 intI y1)] ++ cvfv.map T.c) (.c (bool z))) (h : B6 sv fv = some r) : f8 Tryz.prog 98 [.c (row 1 d6 sv), .c (.fn fvfv cvfv)] (.c (int r)) := by
 unfold f8
 refine FnOk.enter (rs := [.t 4]) Tryz.func98 Z Tryz.ntmps98 Tryz.results98 Z ⟨trivial, Y⟩ (by kernel_rfl) Z ?_
 unfold B6 at h
 refine AWP.d (.f (.e Z Z (.nil (b5 (.d (.d (.f (.a Z Z (S.len Z Z (fun hl7 => .a Z Z (.nil (b5 (.k ?_)))))))))))))
 obtain ⟨oo, ho1, h⟩ := b6 h
 refine AWP.rngS ho1 (fun t3 _ => ⟨[(0, .c (row 1 d6 sv)), (1, .c (.fn fvfv cvfv)), (7, .c (int (sv.length : Int))), (8, .c (int t3))], []⟩) (fun o e st => match o with | .inl _ => e = .exit 0 ∧ Sub [] st ⟨[], []⟩ | .inr x => e = .ret ∧ Done [.t 4] (fun t _ => t = .c (int x)) .ret st) ?_ ?_ ?_ ?_
 ·try dsimp only
  exact Sub.env ⟨Z, Z, Z, Z, Y⟩
 ·intro t3 s hlot3 hltt3 _
  try dsimp only
  refine AWP.d (.f (.j Z Z Z (.nil (b5 (.d (.q Z hltt3 (.exit (d8 (d8 ⟨Z, ?_⟩)))))))))
  exact Sub.env trivial
 ·intro t3 s o hlot3 hltt3 h
  unfold s9 at h
  try dsimp only at h ⊢
  refine AWP.d (.f (.j Z Z Z (.nil (b5 (.d (.r Z hltt3 (.skip (b5 (.d (.k (.d (.f (.a Z Z (.e Z Z (.nil (b5 (.d ?_)))))))))))))))))
  obtain ⟨a14, ha14, a16, ha16, h⟩ := b2 h
  refine AWP.f (.a Z Z (.a Z Z (.a Z Z (S.idx ha14 Z Z Z Z (.o Z Z Z Z (.l Z Z (ab8 Z hcvfv) Z (hfv ha16) Z (.nil (b5 (.s Z h (fun hc4 h => ?_) (fun hc4 h => ?_))))))))))
  ·refine AWP.d (.f (.a Z Z (.e Z Z (.nil (b5 (.ret (h9 (e8 ?_))))))))
   obtain rfl := oi h
   refine e8 ⟨_, Z, Z, ?_⟩
   exact Done.ret Z Z
  ·refine AWP.skip (d7 (b5 (.f (.add Z Z Z (by omega) (.a Z Z (.nil ?_))))))
   obtain rfl := oi h
   refine b5 ⟨_, Z, ?_⟩
   exact Sub.env ⟨Z, Z, Z, Z, Y⟩
 ·intro e s hq
  rcases oo with u | x
  ·try dsimp only at h hq
   obtain ⟨rfl, hs⟩ := hq
   refine ⟨_, hs, ?_⟩
   refine g8 (b5 (.d (.f (.e Z Z (.nil (b5 (.ret ?_)))))))
   obtain rfl := oi h
   exact Done.ret Z Z
  ·try dsimp only at h hq
   obtain ⟨rfl, hs⟩ := hq
   refine ⟨_, Sub.refl _ _, ?_⟩
   refine h9 (e8 ?_)
   obtain rfl := oi h
   exact hs
theorem N1 {sv : LL} {fv : (List Int) → Option Bool} {r : Bool} {fvfv : FuncId} {cvfv : List C} (hcvfv : C.okL 0 cvfv = true) (hfv : ∀ {y1 : List Int} {z : Bool}, fv y1 = some z → f8 Tryz.prog fvfv ([.c (row 1 intI y1)] ++ cvfv.map T.c) (.c (bool z))) (h : n5 sv fv = some r) : f8 Tryz.prog 80 [.c (row 1 d6 sv), .c (.fn fvfv cvfv)] (.c (bool r)) := by
 unfold f8
 refine FnOk.enter (rs := [.t 4]) Tryz.func80 Z Tryz.ntmps80 Tryz.results80 Z ⟨trivial, Y⟩ (by kernel_rfl) Z ?_
 unfold n5 at h
 refine AWP.d (.f (.e Z Z (.nil (b5 (.d ?_)))))
 obtain ⟨a7, ha7, h⟩ := b6 h
 refine AWP.f (.a Z Z (.a Z Z (.l Z Z (by simp [T.okL, T.ok, C.ok, C.okL, hcvfv]) Z (ae6 hcvfv hfv ha7) Z (.geq Z Z Z (.e Z Z (.nil (b5 (.ret ?_))))))))
 obtain rfl := oi h
 exact Done.ret Z Z
end Ab
end
