/-
  Texts that the proof stands on.
-/
import Derived.Test.YthohgmigdbaedaaGreatDoorKRwRecBnd3
set_option linter.all false
section
namespace Ab
open Go Go.Proofs
open Tryz
set_option maxHeartbeats 4000000
set_option linter.all false
attribute [local irreducible] AWP AOps thn inB Done f8 l6 Sub
abbrev tT (v : e8) : List C := [int v.facts, row 1 intI v.init, row 1 intI v.goal, row 4 n4 v.operators]
abbrev tF (a : Int) (b c : List Int) (d : List g9) : List C := [int a, row 1 intI b, row 1 intI c, row 4 n4 d]
abbrev vI : Int → Value := Value.int .i64
abbrev nL : Value := .slice none 0 0
instance : MethF prog 79 "Len" 43 false := ⟨by kernel_rfl⟩
instance : MethF prog 79 "Less" 179 false := ⟨by kernel_rfl⟩
instance : MethF prog 79 "Pop" 180 true := ⟨by kernel_rfl⟩
instance : MethF prog 79 "Push" 181 true := ⟨by kernel_rfl⟩
instance : MethF prog 79 "Swap" 182 false := ⟨by kernel_rfl⟩
theorem m5 {l : List Int} {nv : Int} {r : Bool} (h : w6 l nv = some r) : f8 prog 38 [.c (row 1 intI l), .c (int nv)] (.c (bool r)) := by
 unfold f8
 refine FnOk.enter (rs := [.t 4]) func38 Z ntmps38 results38 Z ⟨trivial, Y⟩ (by kernel_rfl) Z ?_
 unfold w6 at h
 refine AWP.q (.u (.z Z Z (.nil (b6 (.q (.q (.u (.j Z Z (S.len Z Z (fun hl8 => .j Z Z (.nil (b6 (.aa ?_)))))))))))))
 obtain ⟨oo, ho1, h⟩ := bind_some h
 refine AWP.rngS ho1 (fun t3 _ => ⟨[(0, .c (row 1 intI l)), (1, .c (int nv)), (7, .c (row 1 intI l)), (8, .c (int (l.length : Int))), (9, .c (int t3))], []⟩) (fun o e st => match o with | .inl _ => e = .exit 0 ∧ Sub [] st ⟨[], []⟩ | .inr x => e = .ret ∧ Done [.t 4] (fun t _ => t = .c (bool x)) .ret st) ?_ ?_ ?_ ?_
 ·try dsimp only
  exact Sub.env ⟨Z, Z, Z, Z, Z, Y⟩
 ·intro t3 s hlot3 hltt3 _
  try dsimp only
  refine AWP.q (.u (.F Z Z Z (.nil (b6 (.q (.ac Z hltt3 (.exit (e9 (e9 ⟨Z, ?_⟩)))))))))
  exact Sub.env trivial
 ·intro t3 s o hlot3 hltt3 h
  unfold L5 at h
  try dsimp only at h ⊢
  refine AWP.q (.u (.F Z Z Z (.nil (b6 (.q (.ad Z hltt3 (.skip (b6 (.q (.aa (.q ?_)))))))))))
  obtain ⟨a12, ha12, h⟩ := bind_some h
  refine AWP.u (.j Z Z (S.idx ha12 Z Z Z Z (.ab Z Z Z Z (.z Z Z (.z Z Z (.nil (b6 ?_)))))))
  obtain ⟨t4, hx5, h⟩ := bind_some h
  refine AWP.seqJ (⟨[(0, .c (row 1 intI l)), (1, .c (int nv)), (7, .c (row 1 intI l)), (8, .c (int (l.length : Int))), (9, .c (int t3)), (33, .c (bool t4))], []⟩) ?_ ?_
  ·rcases bft (decide (a12 < 0)) with hb6 | hb6
   ·replace hx5 := B3 hb6 hx5
    refine AWP.u (.j Z Z (.F Z Z Z (.j Z Z (.B Z Z Z hb6 (.B Z Z Z hb6 (.B Z Z Z hb6 (.J Z hb6 Z Z (.j Z Z (.B Z Z Z Z (.B Z Z Z Z (.B Z Z Z Z (.ae Z Z Z (.ae Z Z Z (.ae Z Z Z (.ae Z Z Z (.ae Z Z Z (.ae Z Z Z (.ae Z Z Z (.B Z Z Z Z (.J Z Z Z Z (.nil ?_)))))))))))))))))))))
    obtain rfl := oi hx5
    refine b6 (Sub.env ⟨Z, Z, Z, Z, Z, Z, Y⟩)
   ·replace hx5 := B2 hb6 hx5
    rcases bft (decide (nv ≤ a12)) with hb7 | hb7
    ·replace hx5 := B3 hb7 hx5
     refine AWP.u (.j Z Z (.F Z Z Z (.j Z Z (.v Z Z Z hb6 (.j Z Z (.v Z Z Z hb6 (.j Z Z (.v Z Z Z hb6 (.geq Z Z Z (.U Z hb6 Z Z (.j Z Z (.B Z Z Z hb7 (.B Z Z Z hb7 (.B Z Z Z hb7 (.ae Z Z Z (.ae Z Z Z (.ae Z Z Z (.ae Z Z Z (.ae Z Z Z (.ae Z Z Z (.ae Z Z Z (.B Z Z Z hb7 (.J Z hb7 Z Z (.nil ?_))))))))))))))))))))))))
     obtain rfl := oi hx5
     refine b6 (Sub.env ⟨Z, Z, Z, Z, Z, Z, Y⟩)
    ·replace hx5 := B2 hb7 hx5
     rcases bft (decide (0 < t3)) with hb8 | hb8
     ·replace hx5 := B3 hb8 hx5
      obtain ⟨a29, ha29, hx5⟩ := bind_some hx5
      refine AWP.u (.j Z Z (.F Z Z Z (.j Z Z (.v Z Z Z hb6 (.j Z Z (.v Z Z Z hb6 (.j Z Z (.v Z Z Z hb6 (.geq Z Z Z (.U Z hb6 Z Z (.j Z Z (.v Z Z Z hb7 (.j Z Z (.v Z Z Z hb7 (.gtr Z Z Z (.v Z Z Z hb7 (.j Z Z (.v Z Z Z hb8 (.j Z Z (.v Z Z Z hb8 (.j Z Z (.v Z Z Z hb8 (.j Z Z (.v Z Z Z hb8 (.sub' Z Z Z (by omega) (.v Z Z Z hb8 (S.idx ha29 Z Z Z Z (.v Z Z Z hb8 (.ab Z Z Z Z (.v Z Z Z hb8 (.leq Z Z Z (.v Z Z Z hb7 (.J Z hb8 Z Z (.U Z hb7 Z Z (.nil ?_)))))))))))))))))))))))))))))))))))
      obtain rfl := oi hx5
      refine b6 (Sub.env ⟨Z, Z, Z, Z, Z, Z, Y⟩)
     ·replace hx5 := B2 hb8 hx5
      refine AWP.u (.j Z Z (.F Z Z Z (.j Z Z (.v Z Z Z hb6 (.j Z Z (.v Z Z Z hb6 (.j Z Z (.v Z Z Z hb6 (.geq Z Z Z (.U Z hb6 Z Z (.j Z Z (.v Z Z Z hb7 (.j Z Z (.v Z Z Z hb7 (.gtr Z Z Z (.v Z Z Z hb7 (.j Z Z (.B Z Z Z hb8 (.B Z Z Z hb8 (.B Z Z Z hb8 (.B Z Z Z hb8 (.B Z Z Z hb8 (.B Z Z Z hb8 (.B Z Z Z hb8 (.v Z Z Z hb7 (.U Z hb8 Z Z (.U Z hb7 Z Z (.nil ?_))))))))))))))))))))))))))))
      obtain rfl := oi hx5
      refine b6 (Sub.env ⟨Z, Z, Z, Z, Z, Z, Y⟩)
  ·refine AWP.af Z h (fun hc9 h => ?_) (fun hc9 h => ?_)
   ·refine AWP.q (.u (.z Z Z (.nil (b6 (.ret (i8 (f5 ?_)))))))
    obtain rfl := oi h
    refine f5 ⟨_, Z, Z, ?_⟩
    exact Done.ret Z Z
   ·refine AWP.skip (e6 (b6 (.u (.add Z Z Z (by omega) (.j Z Z (.nil ?_))))))
    obtain rfl := oi h
    refine b6 ⟨_, Z, ?_⟩
    exact Sub.env ⟨Z, Z, Z, Z, Z, Y⟩
 ·intro e s hq
  rcases oo with u | x
  ·try dsimp only at h hq
   obtain ⟨rfl, hs⟩ := hq
   refine ⟨_, hs, ?_⟩
   refine i7 (b6 (.q (.u (.z Z Z (.nil (b6 (.ret ?_)))))))
   obtain rfl := oi h
   exact Done.ret Z Z
  ·try dsimp only at h hq
   obtain ⟨rfl, hs⟩ := hq
   refine ⟨_, Sub.refl _ _, ?_⟩
   refine i8 (f5 ?_)
   obtain rfl := oi h
   exact hs
theorem x6 {xv : Int} {r : Bool} (h : A6 xv = some r) : f8 prog 104 [.c (int xv)] (.c (bool r)) := by
 unfold f8
 refine FnOk.enter (rs := [.t 2]) func104 Z ntmps104 results104 Z ⟨trivial, Y⟩ (by kernel_rfl) Z ?_
 unfold A6 at h
 refine AWP.q (.u (.z Z Z (.nil (b6 (.q (.u (.j Z Z (.j Z Z (.neq Z Z Z (.z Z Z (.nil (b6 (.ret ?_)))))))))))))
 obtain rfl := oi h
 exact Done.ret Z Z
theorem cmp_Less_int_ok {xv : Int} {yv : Int} {r : Bool} (h : M7 xv yv = some r) : f8 prog 120 [.c (int xv), .c (int yv)] (.c (bool r)) := by
 unfold f8
 refine FnOk.enter (rs := [.t 4]) func120 Z ntmps120 results120 Z ⟨trivial, Y⟩ (by kernel_rfl) Z ?_
 unfold M7 at h
 refine AWP.q (.u (.z Z Z (.nil (b6 ?_))))
 obtain ⟨t3, hx4, h⟩ := bind_some h
 refine AWP.seqJ (⟨[(4, .c (bool t3))], []⟩) ?_ ?_
 ·obtain ⟨a6, ha6, hx4⟩ := bind_some hx4
  rcases bft (a6) with hb5 | hb5
  ·replace hx4 := K9 hb5 hx4
   obtain ⟨a9, ha9, hx4⟩ := bind_some hx4
   rcases bft (!a9) with hb6 | hb6
   ·replace hx4 := K9 hb6 hx4
    refine AWP.u (.j Z Z (.O Z Z Z Z (x6 ha6) Z (.j Z Z (.v Z Z Z hb5 (.j Z Z (.v Z Z Z hb5 (.O Z Z Z Z (x6 ha9) Z (.v Z Z Z hb5 (.not Z Z (.J Z hb5 Z Z (.j Z Z (.B Z Z Z hb6 (.B Z Z Z hb6 (.B Z Z Z hb6 (.J Z hb6 Z Z (.z Z Z (.nil ?_)))))))))))))))))
    obtain rfl := oi hx4
    refine b6 (Sub.env ⟨Z, Y⟩)
   ·replace hx4 := K6 hb6 hx4
    refine AWP.u (.j Z Z (.O Z Z Z Z (x6 ha6) Z (.j Z Z (.v Z Z Z hb5 (.j Z Z (.v Z Z Z hb5 (.O Z Z Z Z (x6 ha9) Z (.v Z Z Z hb5 (.not Z Z (.J Z hb5 Z Z (.j Z Z (.v Z Z Z hb6 (.j Z Z (.v Z Z Z hb6 (.j Z Z (.v Z Z Z hb6 (.F Z Z Z (.U Z hb6 Z Z (.z Z Z (.nil ?_))))))))))))))))))))
    obtain rfl := oi hx4
    refine b6 (Sub.env ⟨Z, Y⟩)
  ·replace hx4 := K6 hb5 hx4
   refine AWP.u (.j Z Z (.O Z Z Z Z (x6 ha6) Z (.j Z Z (.B Z Z Z hb5 (.B Z Z Z hb5 (.B Z Z Z hb5 (.U Z hb5 Z Z (.j Z Z (.v Z Z Z Z (.j Z Z (.v Z Z Z Z (.j Z Z (.v Z Z Z Z (.F Z Z Z (.U Z Z Z Z (.z Z Z (.nil ?_)))))))))))))))))
   obtain rfl := oi hx4
   refine b6 (Sub.env ⟨Z, Y⟩)
 ·refine AWP.ret ?_
  obtain rfl := oi h
  exact Done.ret Z Z
theorem K3 {xv : Int} {r : Bool} (h : E3 xv = some r) : f8 prog 121 [.c (int xv)] (.c (bool r)) := by
 unfold f8
 refine FnOk.enter (rs := [.t 2]) func121 Z ntmps121 results121 Z ⟨trivial, Y⟩ (by kernel_rfl) Z ?_
 unfold E3 at h
 refine AWP.q (.u (.z Z Z (.nil (b6 (.q (.u (.j Z Z (.j Z Z (.neq Z Z Z (.z Z Z (.nil (b6 (.ret ?_)))))))))))))
 obtain rfl := oi h
 exact Done.ret Z Z
theorem G1 {xv : List Int} {target : Int} {r : Int × Bool} (h : l8 xv target = some r) : f8 prog 107 [.c (row 1 intI xv), .c (int target)] (.tup [.c (int r.1), .c (bool r.2)]) := by
 unfold f8
 refine FnOk.enter (rs := [.t 4, .t 5]) func107 Z ntmps107 results107 Z ⟨trivial, trivial, Y⟩ (by kernel_rfl) Z ?_
 unfold l8 at h
 refine AWP.q (.u (.z Z Z (.z Z Z (.nil (b6 (.q (.u (.j Z Z (S.len Z Z (fun hl11 => .z Z Z (.nil (b6 (.q (.u (.j Z Z (.z Z Z (.z Z Z (.nil (b6 (.q (.aa ?_)))))))))))))))))))))
 obtain ⟨iv5, ho1, h⟩ := bind_some h
 refine AWP.loopS ho1 (fun (iv3, j4) => ⟨[(0, .c (row 1 intI xv)), (1, .c (int target)), (6, .c (int (xv.length : Int))), (7, .c (int iv3)), (8, .c (int j4))], []⟩) (fun iv5 e st => e = .exit 0 ∧ Sub [] st ⟨[(0, .c (row 1 intI xv)), (1, .c (int target)), (6, .c (int (xv.length : Int))), (7, .c (int iv5))], []⟩) ?_ ?_ ?_
 ·try dsimp only
  exact Sub.env ⟨Z, Z, Z, Z, Z, Y⟩
 ·intro s o h
  obtain ⟨iv3, j4⟩ := s
  unfold q6 at h
  try dsimp only at h ⊢
  refine AWP.q (.q (.u (.j Z Z (.j Z Z (.F Z Z Z (.nil (b6 (.ite Z h (fun hc6 h => ?_) (fun hc6 h => ?_)))))))))
  ·refine AWP.skip (b6 (.aa (.q (.u (.j Z Z (.j Z Z (S.add Z Z Z (.convInt Z Z (.shr Z Z Z (by first | decide | omega) Z (.convInt Z Z (.z Z Z (.nil (b6 (.q ?_))))))))))))))
   obtain ⟨a24, ha24, a27, ha27, h⟩ := b2 h
   refine AWP.u (.j Z Z (.j Z Z (S.idx ha24 Z Z Z Z (.ab Z Z Z Z (.j Z Z (.O Z Z Z Z (cmp_Less_int_ok ha27) Z (.nil (b6 (.af Z h (fun hc7 h => ?_) (fun hc7 h => ?_))))))))))
   ·refine AWP.u (.j Z Z (S.add Z Z Z (.z Z Z (.nil (e6 ?_)))))
    obtain rfl := oi h
    refine b6 ⟨_, Z, ?_⟩
    exact Sub.env ⟨Z, Z, Z, Z, Z, Y⟩
   ·refine AWP.u (.j Z Z (.z Z Z (.nil (e6 ?_))))
    obtain rfl := oi h
    refine b6 ⟨_, Z, ?_⟩
    exact Sub.env ⟨Z, Z, Z, Z, Z, Y⟩
  ·refine AWP.exit (e9 ?_)
   obtain rfl := oi h
   refine e9 ⟨_, Z, Z, ?_⟩
   exact Sub.env ⟨Z, Z, Z, Z, Y⟩
 ·intro e s hq
  obtain ⟨rfl, hs⟩ := hq
  refine ⟨_, hs, ?_⟩
  refine i7 (b6 ?_)
  obtain ⟨t8, hx9, h⟩ := bind_some h
  refine AWP.seqJ (⟨[(4, .c (int iv5)), (5, .c (bool t8))], []⟩) ?_ ?_
  ·rcases bft (decide (iv5 < (xv.length : Int))) with hb10 | hb10
   ·replace hx9 := B3 hb10 hx9
    obtain ⟨a38, ha38, hx9⟩ := bind_some hx9
    rcases bft (decide (a38 = target)) with hb11 | hb11
    ·replace hx9 := B3 hb11 hx9
     refine AWP.u (.j Z Z (.j Z Z (.j Z Z (.F Z Z Z (.j Z Z (.v Z Z Z hb10 (.j Z Z (.v Z Z Z hb10 (.j Z Z (.v Z Z Z hb10 (S.idx ha38 Z Z Z Z (.v Z Z Z hb10 (.ab Z Z Z Z (.v Z Z Z hb10 (.j Z Z (.v Z Z Z hb10 (.eql Z Z Z (.v Z Z Z hb10 (.j Z Z (.B Z Z Z hb11 (.B Z Z Z hb11 (.B Z Z Z hb11 (.B Z Z Z hb11 (.B Z Z Z hb11 (.B Z Z Z hb11 (.ae Z Z Z (.ae Z Z Z (.B Z Z Z hb11 (.v Z Z Z hb10 (.J Z hb11 Z Z (.J Z hb10 Z Z (.z Z Z (.z Z Z (.nil ?_))))))))))))))))))))))))))))))))))
     obtain rfl := oi hx9
     refine b6 (Sub.env ⟨Z, Z, Y⟩)
    ·replace hx9 := B2 hb11 hx9
     obtain ⟨a45, ha45, a47, ha47, hx9⟩ := b2 hx9
     rcases bft (a47) with hb12 | hb12
     ·replace hx9 := K9 hb12 hx9
      obtain ⟨a50, ha50, hx9⟩ := bind_some hx9
      refine AWP.u (.j Z Z (.j Z Z (.j Z Z (.F Z Z Z (.j Z Z (.v Z Z Z hb10 (.j Z Z (.v Z Z Z hb10 (.j Z Z (.v Z Z Z hb10 (S.idx ha38 Z Z Z Z (.v Z Z Z hb10 (.ab Z Z Z Z (.v Z Z Z hb10 (.j Z Z (.v Z Z Z hb10 (.eql Z Z Z (.v Z Z Z hb10 (.j Z Z (.v Z Z Z hb11 (.j Z Z (.v Z Z Z hb11 (.j Z Z (.v Z Z Z hb11 (S.idx ha45 Z Z Z Z (.v Z Z Z hb11 (.ab Z Z Z Z (.v Z Z Z hb11 (.O Z Z Z Z (K3 ha47) Z (.v Z Z Z hb11 (.j Z Z (.v Z Z Z hb12 (.j Z Z (.v Z Z Z hb12 (.O Z Z Z Z (K3 ha50) Z (.v Z Z Z hb11 (.J Z hb12 Z Z (.v Z Z Z hb10 (.U Z hb11 Z Z (.J Z hb10 Z Z (.z Z Z (.z Z Z (.nil ?_)))))))))))))))))))))))))))))))))))))))))))
      obtain rfl := oi hx9
      refine b6 (Sub.env ⟨Z, Z, Y⟩)
     ·replace hx9 := K6 hb12 hx9
      refine AWP.u (.j Z Z (.j Z Z (.j Z Z (.F Z Z Z (.j Z Z (.v Z Z Z hb10 (.j Z Z (.v Z Z Z hb10 (.j Z Z (.v Z Z Z hb10 (S.idx ha38 Z Z Z Z (.v Z Z Z hb10 (.ab Z Z Z Z (.v Z Z Z hb10 (.j Z Z (.v Z Z Z hb10 (.eql Z Z Z (.v Z Z Z hb10 (.j Z Z (.v Z Z Z hb11 (.j Z Z (.v Z Z Z hb11 (.j Z Z (.v Z Z Z hb11 (S.idx ha45 Z Z Z Z (.v Z Z Z hb11 (.ab Z Z Z Z (.v Z Z Z hb11 (.O Z Z Z Z (K3 ha47) Z (.v Z Z Z hb11 (.j Z Z (.B Z Z Z hb12 (.B Z Z Z hb12 (.v Z Z Z hb11 (.U Z hb12 Z Z (.v Z Z Z hb10 (.U Z hb11 Z Z (.J Z hb10 Z Z (.z Z Z (.z Z Z (.nil ?_)))))))))))))))))))))))))))))))))))))))))
      obtain rfl := oi hx9
      refine b6 (Sub.env ⟨Z, Z, Y⟩)
   ·replace hx9 := B2 hb10 hx9
    refine AWP.u (.j Z Z (.j Z Z (.j Z Z (.F Z Z Z (.j Z Z (.B Z Z Z hb10 (.B Z Z Z hb10 (.B Z Z Z hb10 (.B Z Z Z hb10 (.B Z Z Z hb10 (.B Z Z Z hb10 (.B Z Z Z hb10 (.ae Z Z Z (.ae Z Z Z (.ae Z Z Z (.ae Z Z Z (.ae Z Z Z (.ae Z Z Z (.ae Z Z Z (.ae Z Z Z (.ae Z Z Z (.B Z Z Z hb10 (.U Z hb10 Z Z (.z Z Z (.z Z Z (.nil ?_))))))))))))))))))))))))))
    obtain rfl := oi hx9
    refine b6 (Sub.env ⟨Z, Z, Y⟩)
  ·refine AWP.ret ?_
   obtain rfl := oi h
   exact Done.ret Z Z
theorem af4 {xv : Int} {c2 : List Int} {r : Bool} (h : N4 xv c2 = some r) : f8 prog 106 [.c (int xv), .c (.imm (.ipt [.sl 1 (List.map intI c2)]))] (.c (bool r)) := by
 unfold f8
 refine FnOk.enter (rs := [.t 3]) func106 Z ntmps106 results106 Z ⟨trivial, Y⟩ (by kernel_rfl) Z ?_
 unfold N4 at h
 refine AWP.q (.u (.z Z Z (.nil (b6 (.q ?_)))))
 obtain ⟨a9, ha9, h⟩ := bind_some h
 refine AWP.u (.ab Z Z Z Z (.j Z Z (.O Z Z Z Z (G1 ha9) Z (.j Z Z (.ag Z Z Z (.ag Z Z Z (.z Z Z (.z Z Z (.nil (b6 (.q (.u (.j Z Z (.z Z Z (.nil (b6 (.ret ?_)))))))))))))))))
 obtain rfl := oi h
 exact Done.ret Z Z
theorem U7 {sv : List Int} {fv : Int → Option Bool} {r : Int} {fvfv : FuncId} {cvfv : List C} (hcvfv : C.okL 0 cvfv = true) (hfv : ∀ {y1 : Int} {z : Bool}, fv y1 = some z → f8 prog fvfv ([.c (int y1)] ++ cvfv.map T.c) (.c (bool z))) (h : A4 sv fv = some r) : f8 prog 119 [.c (row 1 intI sv), .c (.fn fvfv cvfv)] (.c (int r)) := by
 unfold f8
 refine FnOk.enter (rs := [.t 4]) func119 Z ntmps119 results119 Z ⟨trivial, Y⟩ (by kernel_rfl) Z ?_
 unfold A4 at h
 refine AWP.q (.u (.z Z Z (.nil (b6 (.q (.q (.u (.j Z Z (S.len Z Z (fun hl7 => .j Z Z (.nil (b6 (.aa ?_)))))))))))))
 obtain ⟨oo, ho1, h⟩ := bind_some h
 refine AWP.rngS ho1 (fun t3 _ => ⟨[(0, .c (row 1 intI sv)), (1, .c (.fn fvfv cvfv)), (7, .c (int (sv.length : Int))), (8, .c (int t3))], []⟩) (fun o e st => match o with | .inl _ => e = .exit 0 ∧ Sub [] st ⟨[], []⟩ | .inr x => e = .ret ∧ Done [.t 4] (fun t _ => t = .c (int x)) .ret st) ?_ ?_ ?_ ?_
 ·try dsimp only
  exact Sub.env ⟨Z, Z, Z, Z, Y⟩
 ·intro t3 s hlot3 hltt3 _
  try dsimp only
  refine AWP.q (.u (.F Z Z Z (.nil (b6 (.q (.ac Z hltt3 (.exit (e9 (e9 ⟨Z, ?_⟩)))))))))
  exact Sub.env trivial
 ·intro t3 s o hlot3 hltt3 h
  unfold u9 at h
  try dsimp only at h ⊢
  refine AWP.q (.u (.F Z Z Z (.nil (b6 (.q (.ad Z hltt3 (.skip (b6 (.q (.aa (.q (.u (.j Z Z (.z Z Z (.nil (b6 (.q ?_)))))))))))))))))
  obtain ⟨a14, ha14, a16, ha16, h⟩ := b2 h
  refine AWP.u (.j Z Z (.j Z Z (.j Z Z (S.idx ha14 Z Z Z Z (.ab Z Z Z Z (.O Z Z (okL_app Z hcvfv) Z (hfv ha16) Z (.nil (b6 (.af Z h (fun hc4 h => ?_) (fun hc4 h => ?_))))))))))
  ·refine AWP.q (.u (.j Z Z (.z Z Z (.nil (b6 (.ret (i8 (f5 ?_))))))))
   obtain rfl := oi h
   refine f5 ⟨_, Z, Z, ?_⟩
   exact Done.ret Z Z
  ·refine AWP.skip (e6 (b6 (.u (.add Z Z Z (by omega) (.j Z Z (.nil ?_))))))
   obtain rfl := oi h
   refine b6 ⟨_, Z, ?_⟩
   exact Sub.env ⟨Z, Z, Z, Z, Y⟩
 ·intro e s hq
  rcases oo with u | x
  ·try dsimp only at h hq
   obtain ⟨rfl, hs⟩ := hq
   refine ⟨_, hs, ?_⟩
   refine i7 (b6 (.q (.u (.z Z Z (.nil (b6 (.ret ?_)))))))
   obtain rfl := oi h
   exact Done.ret Z Z
  ·try dsimp only at h hq
   obtain ⟨rfl, hs⟩ := hq
   refine ⟨_, Sub.refl _ _, ?_⟩
   refine i8 (f5 ?_)
   obtain rfl := oi h
   exact hs
theorem R0 {sv : List Int} {fv : Int → Option Bool} {r : Bool} {fvfv : FuncId} {cvfv : List C} (hcvfv : C.okL 0 cvfv = true) (hfv : ∀ {y1 : Int} {z : Bool}, fv y1 = some z → f8 prog fvfv ([.c (int y1)] ++ cvfv.map T.c) (.c (bool z))) (h : o6 sv fv = some r) : f8 prog 105 [.c (row 1 intI sv), .c (.fn fvfv cvfv)] (.c (bool r)) := by
 unfold f8
 refine FnOk.enter (rs := [.t 4]) func105 Z ntmps105 results105 Z ⟨trivial, Y⟩ (by kernel_rfl) Z ?_
 unfold o6 at h
 refine AWP.q (.u (.z Z Z (.nil (b6 (.q ?_)))))
 obtain ⟨a7, ha7, h⟩ := bind_some h
 refine AWP.u (.j Z Z (.j Z Z (.O Z Z (by simp [T.okL, T.ok, C.ok, C.okL, hcvfv]) Z (U7 hcvfv hfv ha7) Z (.geq Z Z Z (.z Z Z (.nil (b6 (.ret ?_))))))))
 obtain rfl := oi h
 exact Done.ret Z Z
theorem strips_Meets_ok {av : List Int} {bv : List Int} {r : Bool} (h : M4 av bv = some r) : f8 prog 85 [.c (row 1 intI av), .c (row 1 intI bv)] (.c (bool r)) := by
 unfold f8
 refine FnOk.enter (rs := [.t 4]) func85 Z ntmps85 results85 Z ⟨trivial, Y⟩ (by kernel_rfl) Z ?_
 unfold M4 at h
 refine AWP.q (.u (W.box Z Z Z Z Z Z (.z Z Z (.nil (b6 (.q ?_))))))
 obtain ⟨a7, ha7, h⟩ := bind_some h
 refine AWP.u (.j Z Z (.makeFunc Z Z (.callL Z Z (.cons (.c .imm) (.cons (.c (.fn (.cons (.ptr (es := [.sl 1 (List.map intI bv)]) Z Z (.cons .imm .nil)) .nil))) .nil)) Z (R0 Z (fun hy => af4 hy) ha7) Z ?_)))
 refine AOps.z Z Z (.nil (b6 (.ret ?_)))
 obtain rfl := oi h
 exact Done.ret Z Z
theorem ae8 {ov : g9} {facts : Int} {r : Int} (h : G8 ov facts = some r) : f8 prog 66 [.agg [row 1 intI ov.pre, row 1 intI ov.add, row 1 intI ov.del, int ov.cost], .c (int facts)] (.c (int r)) := by
 unfold f8
 refine FnOk.enter (rs := [.t 4]) func66 Z ntmps66 results66 Z ⟨trivial, Y⟩ (by kernel_rfl) Z ?_
 unfold G8 at h
 refine AWP.q (.u (W.box Z Z Z Z Z Z (.z Z Z (.nil (b6 (.q (.aa ?_)))))))
 obtain ⟨t3, hx4, h⟩ := bind_some h
 refine AWP.seqJ (⟨[(2, .c (.ptr 0 0 0)), (5, .c (bool t3))], [.one (.cells 4 [[row 1 intI ov.pre, row 1 intI ov.add, row 1 intI ov.del, int ov.cost]])]⟩) ?_ ?_
 ·obtain ⟨a9, ha9, hx4⟩ := bind_some hx4
  rcases bft (!a9) with hb5 | hb5
  ·replace hx4 := K9 hb5 hx4
   refine AWP.u (W.fieldAddr Z Z Z Z (.E Z Z Z Z Z Z (.j Z Z (.O Z Z Z Z (m5 ha9) Z (.not Z Z (.j Z Z (.B Z Z Z hb5 (.B Z Z Z hb5 (.B Z Z Z hb5 (.B Z Z Z hb5 (.B Z Z Z hb5 (.J Z hb5 Z Z (.j Z Z (.B Z Z Z Z (.B Z Z Z Z (.B Z Z Z Z (.B Z Z Z Z (.B Z Z Z Z (.J Z Z Z Z (.j Z Z (.B Z Z Z Z (.B Z Z Z Z (.B Z Z Z Z (.B Z Z Z Z (.B Z Z Z Z (.J Z Z Z Z (.z Z Z (.nil ?_))))))))))))))))))))))))))))
   obtain rfl := oi hx4
   refine b6 (Sub.env ⟨Z, Z, Y⟩)
  ·replace hx4 := K6 hb5 hx4
   obtain ⟨a15, ha15, hx4⟩ := bind_some hx4
   rcases bft (!a15) with hb6 | hb6
   ·replace hx4 := K9 hb6 hx4
    refine AWP.u (W.fieldAddr Z Z Z Z (.E Z Z Z Z Z Z (.j Z Z (.O Z Z Z Z (m5 ha9) Z (.not Z Z (.j Z Z (.v Z Z Z hb5 (W.fieldAddr Z Z Z Z (.v Z Z Z hb5 (.E Z Z Z Z Z Z (.v Z Z Z hb5 (.j Z Z (.v Z Z Z hb5 (.O Z Z Z Z (m5 ha15) Z (.v Z Z Z hb5 (.not Z Z (.U Z hb5 Z Z (.j Z Z (.B Z Z Z hb6 (.B Z Z Z hb6 (.B Z Z Z hb6 (.B Z Z Z hb6 (.B Z Z Z hb6 (.J Z hb6 Z Z (.j Z Z (.B Z Z Z Z (.B Z Z Z Z (.B Z Z Z Z (.B Z Z Z Z (.B Z Z Z Z (.J Z Z Z Z (.z Z Z (.nil ?_)))))))))))))))))))))))))))))))))
    obtain rfl := oi hx4
    refine b6 (Sub.env ⟨Z, Z, Y⟩)
   ·replace hx4 := K6 hb6 hx4
    obtain ⟨a22, ha22, hx4⟩ := bind_some hx4
    rcases bft (!a22) with hb7 | hb7
    ·replace hx4 := K9 hb7 hx4
     refine AWP.u (W.fieldAddr Z Z Z Z (.E Z Z Z Z Z Z (.j Z Z (.O Z Z Z Z (m5 ha9) Z (.not Z Z (.j Z Z (.v Z Z Z hb5 (W.fieldAddr Z Z Z Z (.v Z Z Z hb5 (.E Z Z Z Z Z Z (.v Z Z Z hb5 (.j Z Z (.v Z Z Z hb5 (.O Z Z Z Z (m5 ha15) Z (.v Z Z Z hb5 (.not Z Z (.U Z hb5 Z Z (.j Z Z (.v Z Z Z hb6 (W.fieldAddr Z Z Z Z (.v Z Z Z hb6 (.E Z Z Z Z Z Z (.v Z Z Z hb6 (.j Z Z (.v Z Z Z hb6 (.O Z Z Z Z (m5 ha22) Z (.v Z Z Z hb6 (.not Z Z (.U Z hb6 Z Z (.j Z Z (.B Z Z Z hb7 (.B Z Z Z hb7 (.B Z Z Z hb7 (.B Z Z Z hb7 (.B Z Z Z hb7 (.J Z hb7 Z Z (.z Z Z (.nil ?_))))))))))))))))))))))))))))))))))))))
     obtain rfl := oi hx4
     refine b6 (Sub.env ⟨Z, Z, Y⟩)
    ·replace hx4 := K6 hb7 hx4
     obtain ⟨a30, ha30, hx4⟩ := bind_some hx4
     refine AWP.u (W.fieldAddr Z Z Z Z (.E Z Z Z Z Z Z (.j Z Z (.O Z Z Z Z (m5 ha9) Z (.not Z Z (.j Z Z (.v Z Z Z hb5 (W.fieldAddr Z Z Z Z (.v Z Z Z hb5 (.E Z Z Z Z Z Z (.v Z Z Z hb5 (.j Z Z (.v Z Z Z hb5 (.O Z Z Z Z (m5 ha15) Z (.v Z Z Z hb5 (.not Z Z (.U Z hb5 Z Z (.j Z Z (.v Z Z Z hb6 (W.fieldAddr Z Z Z Z (.v Z Z Z hb6 (.E Z Z Z Z Z Z (.v Z Z Z hb6 (.j Z Z (.v Z Z Z hb6 (.O Z Z Z Z (m5 ha22) Z (.v Z Z Z hb6 (.not Z Z (.U Z hb6 Z Z (.j Z Z (.v Z Z Z hb7 (W.fieldAddr Z Z Z Z (.v Z Z Z hb7 (.E Z Z Z Z Z Z (.v Z Z Z hb7 (W.fieldAddr Z Z Z Z (.v Z Z Z hb7 (.E Z Z Z Z Z Z (.v Z Z Z hb7 (.O Z Z Z Z (strips_Meets_ok ha30) Z (.U Z hb7 Z Z (.z Z Z (.nil ?_)))))))))))))))))))))))))))))))))))))))))))
     obtain rfl := oi hx4
     refine b6 (Sub.env ⟨Z, Z, Y⟩)
 ·refine AWP.af Z h (fun hc8 h => ?_) (fun hc8 h => ?_)
  ·refine AWP.q (.u (.z Z Z (.nil (b6 (.ret (i8 (f5 ?_)))))))
   obtain rfl := oi h
   exact Done.ret Z Z
  ·refine AWP.seqJ (⟨[(32, .c (bool ((decide (ov.cost < 0)) || (decide (100 < ov.cost)))))], [.one (.cells 4 [[row 1 intI ov.pre, row 1 intI ov.add, row 1 intI ov.del, int ov.cost]])]⟩) ?_ ?_
   ·rcases bft (decide (ov.cost < 0)) with hb1 | hb1
    ·refine AWP.u (W.fieldAddr Z Z Z Z (.E Z Z Z Z Z Z (.F Z Z Z (.j Z Z (.B Z Z Z hb1 (.B Z Z Z hb1 (.B Z Z Z hb1 (.J Z hb1 Z Z (.z Z Z (.nil (b6 ?_)))))))))))
     simp only [and_t hb1, or_t hb1, Bool.false_or, Bool.true_or, Bool.false_and, Bool.true_and]
     exact Sub.env ⟨Z, Y⟩
    ·refine AWP.u (W.fieldAddr Z Z Z Z (.E Z Z Z Z Z Z (.F Z Z Z (.j Z Z (.v Z Z Z hb1 (W.fieldAddr Z Z Z Z (.v Z Z Z hb1 (.E Z Z Z Z Z Z (.v Z Z Z hb1 (.gtr Z Z Z (.U Z hb1 Z Z (.z Z Z (.nil (b6 ?_))))))))))))))
     simp only [and_f hb1, or_f hb1, Bool.false_or, Bool.true_or, Bool.false_and, Bool.true_and]
     exact Sub.env ⟨Z, Y⟩
   ·refine AWP.af Z h (fun hc9 h => ?_) (fun hc9 h => ?_)
    ·refine AWP.q (.u (.z Z Z (.nil (b6 (.ret (i8 (f5 ?_)))))))
     obtain rfl := oi h
     exact Done.ret Z Z
    ·refine AWP.skip (e6 (b6 (.q (.u (.z Z Z (.nil (b6 (.ret ?_))))))))
     obtain rfl := oi h
     exact Done.ret Z Z
theorem V4 {t : e8} {r : TFault} (h : s4 t = some r) : f8 prog 37 [.agg (tT t)] (.agg [int r.code, int r.index]) := by
 unfold f8
 refine FnOk.enter (rs := [.cell 2 29 2]) func37 Z ntmps37 results37 Z ⟨rv _ Z, Y⟩ (by kernel_rfl) Z ?_
 unfold s4 at h
 refine AWP.q (.u (W.box Z Z Z Z Z Z (W.alloc Z Z Z Z (.nil (b6 (.q (.aa (.seqJ (⟨[(1, .c (.ptr 0 0 0)), (2, .c (.ptr 1 0 0)), (6, .c (bool ((decide (t.facts < 0)) || (decide (24 < t.facts)))))], [.one (.cells 4 [(tT t)]), .one (.cells 2 [[int 0, int 0]])]⟩) ?_ ?_))))))))
 ·rcases bft (decide (t.facts < 0)) with hb1 | hb1
  ·refine AWP.u (W.fieldAddr Z Z Z Z (.E Z Z Z Z Z Z (.F Z Z Z (.j Z Z (.B Z Z Z hb1 (.B Z Z Z hb1 (.B Z Z Z hb1 (.J Z hb1 Z Z (.z Z Z (.nil (b6 ?_)))))))))))
   simp only [and_t hb1, or_t hb1, Bool.false_or, Bool.true_or, Bool.false_and, Bool.true_and]
   exact Sub.env ⟨Z, Z, Z, Y⟩
  ·refine AWP.u (W.fieldAddr Z Z Z Z (.E Z Z Z Z Z Z (.F Z Z Z (.j Z Z (.v Z Z Z hb1 (W.fieldAddr Z Z Z Z (.v Z Z Z hb1 (.E Z Z Z Z Z Z (.v Z Z Z hb1 (.gtr Z Z Z (.U Z hb1 Z Z (.z Z Z (.nil (b6 ?_))))))))))))))
   simp only [and_f hb1, or_f hb1, Bool.false_or, Bool.true_or, Bool.false_and, Bool.true_and]
   exact Sub.env ⟨Z, Z, Z, Y⟩
 ·refine AWP.af Z h (fun hc2 h => ?_) (fun hc2 h => ?_)
  ·refine AWP.q (.u (W.build Z Z Z Z (W.storeAgg Z Z Z Z Z Z Z (.nil (b6 (.ret (i8 (f5 ?_))))))))
   obtain rfl := oi h
   exact Done.ret Z Z
  ·refine AWP.q ?_
   obtain ⟨a21, ha21, h⟩ := bind_some h
   refine AWP.u (W.fieldAddr Z Z Z Z (.E Z Z Z Z Z Z (W.fieldAddr Z Z Z Z (.E Z Z Z Z Z Z (.O Z Z Z Z (m5 ha21) Z (.not Z Z (.z Z Z (.nil (b6 (.af Z h (fun hc3 h => ?_) (fun hc3 h => ?_)))))))))))
   ·refine AWP.q (.u (W.build Z Z Z Z (W.storeAgg Z Z Z Z Z Z Z (.nil (b6 (.ret (i8 (f5 ?_))))))))
    obtain rfl := oi h
    exact Done.ret Z Z
   ·refine AWP.q ?_
    obtain ⟨a29, ha29, h⟩ := bind_some h
    refine AWP.u (W.fieldAddr Z Z Z Z (.E Z Z Z Z Z Z (W.fieldAddr Z Z Z Z (.E Z Z Z Z Z Z (.O Z Z Z Z (m5 ha29) Z (.not Z Z (.z Z Z (.nil (b6 (.af Z h (fun hc4 h => ?_) (fun hc4 h => ?_)))))))))))
    ·refine AWP.q (.u (W.build Z Z Z Z (W.storeAgg Z Z Z Z Z Z Z (.nil (b6 (.ret (i8 (f5 ?_))))))))
     obtain rfl := oi h
     exact Done.ret Z Z
    ·refine AWP.q (.u (W.fieldAddr Z Z Z Z (.E Z Z Z Z Z Z (S.len Z Z (fun hl35 => .gtr Z Z Z (.z Z Z (.nil (b6 (.ite Z h (fun hc5 h => ?_) (fun hc5 h => ?_))))))))))
     ·refine AWP.q (.u (W.build Z Z Z Z (W.storeAgg Z Z Z Z Z Z Z (.nil (b6 (.ret (i8 (f5 ?_))))))))
      obtain rfl := oi h
      exact Done.ret Z Z
     ·refine AWP.skip (e6 (b6 (.q (.q (.u (W.fieldAddr Z Z Z Z (.E Z Z Z Z Z Z (S.len Z Z (fun hl40 => .j Z Z (.nil (b6 (.aa ?_))))))))))))
      obtain ⟨oo, ho1, h⟩ := bind_some h
      refine AWP.rngS ho1 (fun t6 _ => ⟨[(1, .c (.ptr 0 0 0)), (2, .c (.ptr 1 0 0)), (39, .c (row 4 n4 t.operators)), (40, .c (int (t.operators.length : Int))), (41, .c (int t6))], [.one (.cells 4 [(tT t)]), .one (.cells 2 [[int 0, int 0]])]⟩) (fun o e st => match o with | .inl _ => e = .exit 1 ∧ Sub [] st ⟨[(2, .c (.ptr 1 0 0))], [.one (.cells 4 [(tT t)]), .one (.cells 2 [[int 0, int 0]])]⟩ | .inr x => e = .ret ∧ Done [.cell 2 29 2] (fun t _ => t = .agg [int x.code, int x.index]) .ret st) ?_ ?_ ?_ ?_
      ·try dsimp only
       exact Sub.env ⟨Z, Z, Z, Z, Z, Y⟩
      ·intro t6 s hlot6 hltt6 _
       try dsimp only
       refine AWP.q (.u (.F Z Z Z (.nil (b6 (.q (.ac Z hltt6 (.exit (e9 (e9 ⟨Z, ?_⟩)))))))))
       exact Sub.env ⟨Z, Y⟩
      ·intro t6 s o hlot6 hltt6 h
       unfold C3 at h
       try dsimp only at h ⊢
       refine AWP.q (.u (.F Z Z Z (.nil (b6 (.q (.ad Z hltt6 (.skip (b6 (.q (.aa (.q ?_)))))))))))
       obtain ⟨a44, ha44, h⟩ := bind_some h
       refine AWP.u (.j Z Z (S.idx ha44 Z Z Z Z (W.loadIAgg Z Z Z Z Z (W.alloc Z Z Z Z (.z Z Z (W.storeAgg Z Z Z Z Z Z Z (.nil (b6 (.q ?_)))))))))
       obtain ⟨a49, ha49, h⟩ := bind_some h
       refine AWP.u (W.loadAgg Z Z Z Z Z Z Z (W.fieldAddr Z Z Z Z (.E Z Z Z Z Z Z (.O Z Z Z Z (ae8 ha49) Z (.z Z Z (.nil (b6 (.q (.u (.j Z Z (.neq Z Z Z (.nil (b6 (.iteN Z h (fun hc7 h => ?_) (fun hc7 h => ?_)))))))))))))))
       ·refine AWP.q (.u (.j Z Z (.j Z Z (W.build Z Z Z Z (W.storeAgg Z Z Z Z Z Z Z (.nil (b6 (.ret (i8 (f5 ?_))))))))))
        obtain rfl := oi h
        refine f5 ⟨_, Z, Z, ?_⟩
        exact Done.ret Z Z
       ·refine AWP.skip (e6 (b6 (.u (.add Z Z Z (by omega) (.j Z Z (.nil ?_))))))
        obtain rfl := oi h
        refine b6 ⟨_, Z, ?_⟩
        exact Sub.cut ⟨Z, Z, Z, Z, Z, Y⟩ Z ⟨.one Z, .one Z, Y⟩ Z
      ·intro e s hq
       rcases oo with u | x
       ·try dsimp only at h hq
        obtain ⟨rfl, hs⟩ := hq
        refine ⟨_, hs, ?_⟩
        refine i7 (b6 (.q (.u (W.build Z Z Z Z (W.storeAgg Z Z Z Z Z Z Z (.nil (b6 (.ret ?_))))))))
        obtain rfl := oi h
        exact Done.ret Z Z
       ·try dsimp only at h hq
        obtain ⟨rfl, hs⟩ := hq
        refine ⟨_, Sub.refl _ _, ?_⟩
        refine i8 (f5 ?_)
        obtain rfl := oi h
        exact hs
theorem F8 {sv : List Int} {part : List Int} {r : Bool} (h : v6 sv part = some r) : f8 prog 45 [.c (row 1 intI sv), .c (row 1 intI part)] (.c (bool r)) := by
 unfold f8
 refine FnOk.enter (rs := [.t 4]) func45 Z ntmps45 results45 Z ⟨trivial, Y⟩ (by kernel_rfl) Z ?_
 unfold v6 at h
 refine AWP.q (.u (.z Z Z (.nil (b6 (.q (.u (.z Z Z (.nil (b6 (.q (.q (.u (.j Z Z (S.len Z Z (fun hl9 => .j Z Z (.nil (b6 (.aa ?_))))))))))))))))))
 obtain ⟨oo, ho1, h⟩ := bind_some h
 refine AWP.rngS ho1 (fun t4 iv3 => ⟨[(0, .c (row 1 intI sv)), (5, .c (int iv3)), (8, .c (row 1 intI part)), (9, .c (int (part.length : Int))), (10, .c (int t4))], []⟩) (fun o e st => match o with | .inl iv3 => e = .exit 0 ∧ Sub [] st ⟨[], []⟩ | .inr x => e = .ret ∧ Done [.t 4] (fun t _ => t = .c (bool x)) .ret st) ?_ ?_ ?_ ?_
 ·try dsimp only
  exact Sub.env ⟨Z, Z, Z, Z, Z, Y⟩
 ·intro t4 iv3 hlot4 hltt4 _
  try dsimp only
  refine AWP.q (.u (.F Z Z Z (.nil (b6 (.q (.ac Z hltt4 (.exit (e9 (e9 ⟨Z, ?_⟩)))))))))
  exact Sub.env trivial
 ·intro t4 iv3 o hlot4 hltt4 h
  unfold G9 at h
  try dsimp only at h ⊢
  refine AWP.q (.u (.F Z Z Z (.nil (b6 (.q (.ad Z hltt4 (.skip (b6 (.q (.aa (.q ?_)))))))))))
  obtain ⟨a12, ha12, h⟩ := bind_some h
  refine AWP.u (S.idx ha12 Z Z Z Z (.ab Z Z Z Z (.z Z Z (.nil (b6 (.q (.aa ?_)))))))
  obtain ⟨iv6, ho2, h⟩ := bind_some h
  refine AWP.loopS ho2 (fun iv5 => ⟨[(0, .c (row 1 intI sv)), (5, .c (int iv5)), (7, .c (int a12)), (8, .c (row 1 intI part)), (9, .c (int (part.length : Int))), (10, .c (int t4))], []⟩) (fun iv6 e st => e = .exit 2 ∧ Sub [] st ⟨[(0, .c (row 1 intI sv)), (5, .c (int iv6)), (7, .c (int a12)), (8, .c (row 1 intI part)), (9, .c (int (part.length : Int))), (10, .c (int t4))], []⟩) ?_ ?_ ?_
  ·try dsimp only
   exact Sub.env ⟨Z, Z, Z, Z, Z, Z, Y⟩
  ·intro iv5 o h
   unfold C1 at h
   try dsimp only at h ⊢
   refine AWP.q ?_
   obtain ⟨t7, hx8, h⟩ := bind_some h
   refine AWP.seqJ (⟨[(0, .c (row 1 intI sv)), (5, .c (int iv5)), (7, .c (int a12)), (8, .c (row 1 intI part)), (9, .c (int (part.length : Int))), (10, .c (int t4)), (25, .c (bool t7))], []⟩) ?_ ?_
   ·rcases bft (decide (iv5 < (sv.length : Int))) with hb9 | hb9
    ·replace hx8 := B3 hb9 hx8
     obtain ⟨a21, ha21, hx8⟩ := bind_some hx8
     refine AWP.u (.j Z Z (.j Z Z (S.len Z Z (fun hl16 => .F Z Z Z (.j Z Z (.v Z Z Z hb9 (.j Z Z (.v Z Z Z hb9 (.j Z Z (.v Z Z Z hb9 (S.idx ha21 Z Z Z Z (.v Z Z Z hb9 (.ab Z Z Z Z (.v Z Z Z hb9 (.j Z Z (.v Z Z Z hb9 (.F Z Z Z (.J Z hb9 Z Z (.nil ?_)))))))))))))))))))
     obtain rfl := oi hx8
     refine b6 (Sub.env ⟨Z, Z, Z, Z, Z, Z, Z, Y⟩)
    ·replace hx8 := B2 hb9 hx8
     refine AWP.u (.j Z Z (.j Z Z (S.len Z Z (fun hl16 => .F Z Z Z (.j Z Z (.B Z Z Z hb9 (.B Z Z Z hb9 (.B Z Z Z hb9 (.B Z Z Z hb9 (.B Z Z Z hb9 (.B Z Z Z hb9 (.U Z hb9 Z Z (.nil ?_)))))))))))))
     obtain rfl := oi hx8
     refine b6 (Sub.env ⟨Z, Z, Z, Z, Z, Z, Z, Y⟩)
   ·refine AWP.af Z h (fun hc10 h => ?_) (fun hc10 h => ?_)
    ·refine AWP.skip (b6 (.aa (.u (.j Z Z (S.add Z Z Z (.z Z Z (.nil (e6 ?_))))))))
     obtain rfl := oi h
     refine b6 ⟨_, Z, ?_⟩
     exact Sub.env ⟨Z, Z, Z, Z, Z, Z, Y⟩
    ·refine AWP.exit (e9 ?_)
     obtain rfl := oi h
     refine e9 ⟨_, Z, Z, ?_⟩
     exact Sub.env ⟨Z, Z, Z, Z, Z, Z, Y⟩
  ·intro e s hq
   obtain ⟨rfl, hs⟩ := hq
   refine ⟨_, hs, ?_⟩
   refine i7 (b6 ?_)
   obtain ⟨t11, hx12, h⟩ := bind_some h
   refine AWP.seqJ (⟨[(0, .c (row 1 intI sv)), (5, .c (int iv6)), (8, .c (row 1 intI part)), (9, .c (int (part.length : Int))), (10, .c (int t4)), (39, .c (bool t11))], []⟩) ?_ ?_
   ·rcases bft (decide (iv6 = (sv.length : Int))) with hb13 | hb13
    ·replace hx12 := B3 hb13 hx12
     refine AWP.u (.j Z Z (.j Z Z (S.len Z Z (fun hl30 => .eql Z Z Z (.j Z Z (.B Z Z Z hb13 (.B Z Z Z hb13 (.B Z Z Z hb13 (.B Z Z Z hb13 (.B Z Z Z hb13 (.B Z Z Z hb13 (.J Z hb13 Z Z (.nil ?_)))))))))))))
     obtain rfl := oi hx12
     refine b6 (Sub.env ⟨Z, Z, Z, Z, Z, Z, Y⟩)
    ·replace hx12 := B2 hb13 hx12
     obtain ⟨a35, ha35, hx12⟩ := bind_some hx12
     refine AWP.u (.j Z Z (.j Z Z (S.len Z Z (fun hl30 => .eql Z Z Z (.j Z Z (.v Z Z Z hb13 (.j Z Z (.v Z Z Z hb13 (.j Z Z (.v Z Z Z hb13 (S.idx ha35 Z Z Z Z (.v Z Z Z hb13 (.ab Z Z Z Z (.v Z Z Z hb13 (.j Z Z (.v Z Z Z hb13 (.neq Z Z Z (.U Z hb13 Z Z (.nil ?_)))))))))))))))))))
     obtain rfl := oi hx12
     refine b6 (Sub.env ⟨Z, Z, Z, Z, Z, Z, Y⟩)
   ·refine AWP.af Z h (fun hc14 h => ?_) (fun hc14 h => ?_)
    ·refine AWP.q (.u (.z Z Z (.nil (b6 (.ret (i8 (f5 ?_)))))))
     obtain rfl := oi h
     refine f5 ⟨_, Z, Z, ?_⟩
     exact Done.ret Z Z
    ·refine AWP.skip (e6 (b6 (.u (.add Z Z Z (by omega) (.j Z Z (.nil ?_))))))
     obtain rfl := oi h
     refine b6 ⟨_, Z, ?_⟩
     exact Sub.env ⟨Z, Z, Z, Z, Z, Y⟩
 ·intro e s hq
  rcases oo with iv3 | x
  ·try dsimp only at h hq
   obtain ⟨rfl, hs⟩ := hq
   refine ⟨_, hs, ?_⟩
   refine i7 (b6 (.q (.u (.z Z Z (.nil (b6 (.ret ?_)))))))
   obtain rfl := oi h
   exact Done.ret Z Z
  ·try dsimp only at h hq
   obtain ⟨rfl, hs⟩ := hq
   refine ⟨_, Sub.refl _ _, ?_⟩
   refine i8 (f5 ?_)
   obtain rfl := oi h
   exact hs
theorem af9 {sv : List Int} {c2 : List Int} {r : Bool} (h : O9 sv c2 = some r) : f8 prog 110 [.c (row 1 intI sv), .c (.imm (.ipt [.sl 1 (List.map intI c2)]))] (.c (bool r)) := by
 unfold f8
 refine FnOk.enter (rs := [.t 3]) func110 Z ntmps110 results110 Z ⟨trivial, Y⟩ (by kernel_rfl) Z ?_
 unfold O9 at h
 refine AWP.q (.u (.z Z Z (.nil (b6 (.q ?_)))))
 obtain ⟨a6, ha6, h⟩ := bind_some h
 refine AWP.u (.j Z Z (.ab Z Z Z Z (.O Z Z Z Z (F8 ha6) Z (.not Z Z (.z Z Z (.nil (b6 (.ret ?_))))))))
 obtain rfl := oi h
 exact Done.ret Z Z
theorem W6 {sv : List (List Int)} {fv : (List Int) → Option Bool} {r : Int} {fvfv : FuncId} {cvfv : List C} (hcvfv : C.okL 0 cvfv = true) (hfv : ∀ {y1 : List Int} {z : Bool}, fv y1 = some z → f8 prog fvfv ([.c (row 1 intI y1)] ++ cvfv.map T.c) (.c (bool z))) (h : B7 sv fv = some r) : f8 prog 126 [.c (row 1 f7 sv), .c (.fn fvfv cvfv)] (.c (int r)) := by
 unfold f8
 refine FnOk.enter (rs := [.t 4]) func126 Z ntmps126 results126 Z ⟨trivial, Y⟩ (by kernel_rfl) Z ?_
 unfold B7 at h
 refine AWP.q (.u (.z Z Z (.nil (b6 (.q (.q (.u (.j Z Z (S.len Z Z (fun hl7 => .j Z Z (.nil (b6 (.aa ?_)))))))))))))
 obtain ⟨oo, ho1, h⟩ := bind_some h
 refine AWP.rngS ho1 (fun t3 _ => ⟨[(0, .c (row 1 f7 sv)), (1, .c (.fn fvfv cvfv)), (7, .c (int (sv.length : Int))), (8, .c (int t3))], []⟩) (fun o e st => match o with | .inl _ => e = .exit 0 ∧ Sub [] st ⟨[], []⟩ | .inr x => e = .ret ∧ Done [.t 4] (fun t _ => t = .c (int x)) .ret st) ?_ ?_ ?_ ?_
 ·try dsimp only
  exact Sub.env ⟨Z, Z, Z, Z, Y⟩
 ·intro t3 s hlot3 hltt3 _
  try dsimp only
  refine AWP.q (.u (.F Z Z Z (.nil (b6 (.q (.ac Z hltt3 (.exit (e9 (e9 ⟨Z, ?_⟩)))))))))
  exact Sub.env trivial
 ·intro t3 s o hlot3 hltt3 h
  unfold y6 at h
  try dsimp only at h ⊢
  refine AWP.q (.u (.F Z Z Z (.nil (b6 (.q (.ad Z hltt3 (.skip (b6 (.q (.aa (.q (.u (.j Z Z (.z Z Z (.nil (b6 (.q ?_)))))))))))))))))
  obtain ⟨a14, ha14, a16, ha16, h⟩ := b2 h
  refine AWP.u (.j Z Z (.j Z Z (.j Z Z (S.idx ha14 Z Z Z Z (.ab Z Z Z Z (.O Z Z (okL_app Z hcvfv) Z (hfv ha16) Z (.nil (b6 (.af Z h (fun hc4 h => ?_) (fun hc4 h => ?_))))))))))
  ·refine AWP.q (.u (.j Z Z (.z Z Z (.nil (b6 (.ret (i8 (f5 ?_))))))))
   obtain rfl := oi h
   refine f5 ⟨_, Z, Z, ?_⟩
   exact Done.ret Z Z
  ·refine AWP.skip (e6 (b6 (.u (.add Z Z Z (by omega) (.j Z Z (.nil ?_))))))
   obtain rfl := oi h
   refine b6 ⟨_, Z, ?_⟩
   exact Sub.env ⟨Z, Z, Z, Z, Y⟩
 ·intro e s hq
  rcases oo with u | x
  ·try dsimp only at h hq
   obtain ⟨rfl, hs⟩ := hq
   refine ⟨_, hs, ?_⟩
   refine i7 (b6 (.q (.u (.z Z Z (.nil (b6 (.ret ?_)))))))
   obtain rfl := oi h
   exact Done.ret Z Z
  ·try dsimp only at h hq
   obtain ⟨rfl, hs⟩ := hq
   refine ⟨_, Sub.refl _ _, ?_⟩
   refine i8 (f5 ?_)
   obtain rfl := oi h
   exact hs
theorem T7 {sv : List (List Int)} {fv : (List Int) → Option Bool} {r : Bool} {fvfv : FuncId} {cvfv : List C} (hcvfv : C.okL 0 cvfv = true) (hfv : ∀ {y1 : List Int} {z : Bool}, fv y1 = some z → f8 prog fvfv ([.c (row 1 intI y1)] ++ cvfv.map T.c) (.c (bool z))) (h : s3 sv fv = some r) : f8 prog 109 [.c (row 1 f7 sv), .c (.fn fvfv cvfv)] (.c (bool r)) := by
 unfold f8
 refine FnOk.enter (rs := [.t 4]) func109 Z ntmps109 results109 Z ⟨trivial, Y⟩ (by kernel_rfl) Z ?_
 unfold s3 at h
 refine AWP.q (.u (.z Z Z (.nil (b6 (.q ?_)))))
 obtain ⟨a7, ha7, h⟩ := bind_some h
 refine AWP.u (.j Z Z (.j Z Z (.O Z Z (by simp [T.okL, T.ok, C.ok, C.okL, hcvfv]) Z (W6 hcvfv hfv ha7) Z (.geq Z Z Z (.z Z Z (.nil (b6 (.ret ?_))))))))
 obtain rfl := oi h
 exact Done.ret Z Z
theorem ab3 {worlds : List (List Int)} {facts : List Int} {r : Bool} (h : O3 worlds facts = some r) : f8 prog 89 [.c (row 1 f7 worlds), .c (row 1 intI facts)] (.c (bool r)) := by
 unfold f8
 refine FnOk.enter (rs := [.t 4]) func89 Z ntmps89 results89 Z ⟨trivial, Y⟩ (by kernel_rfl) Z ?_
 unfold O3 at h
 refine AWP.q (.u (W.box Z Z Z Z Z Z (.z Z Z (.nil (b6 (.q ?_))))))
 obtain ⟨a7, ha7, h⟩ := bind_some h
 refine AWP.u (.j Z Z (.makeFunc Z Z (.callL Z Z (.cons (.c .imm) (.cons (.c (.fn (.cons (.ptr (es := [.sl 1 (List.map intI facts)]) Z Z (.cons .imm .nil)) .nil))) .nil)) Z (T7 Z (fun hy => af9 hy) ha7) Z ?_)))
 refine AOps.not Z Z (.z Z Z (.nil (b6 (.ret ?_))))
 obtain rfl := oi h
 exact Done.ret Z Z
theorem ag3 {sv : List Int} {add : List Int} {del : List Int} {r : (List Int)} (h : E9 sv add del = some r) : l6 prog 93 [.c (row 1 intI sv), .c (row 1 intI add), .c (row 1 intI del)] 1 (List.map intI r) := by
 unfold l6
 refine FnOk.enter (rs := [.t 6]) func93 Z ntmps93 results93 Z ⟨trivial, Y⟩ (by kernel_rfl) Z ?_
 unfold E9 at h
 refine AWP.q (.u (.z Z Z (.nil (b6 (.q (.u (.z Z Z (.nil (b6 (.q (.q (.u (.j Z Z (S.len Z Z (fun hl13 => .j Z Z (.nil (b6 (.aa (.virtV 1 intI 7 Z Z Z ?_)))))))))))))))))))
 obtain ⟨c4, ho1, h⟩ := bind_some h
 refine AWP.forS ho1 (fun t5 c4 => ⟨[(1, .c (row 1 intI add)), (2, .c (row 1 intI del)), (7, .c (.own 0 0 c4.length)), (12, .c (row 1 intI sv)), (13, .c (int (sv.length : Int))), (14, .c (int t5))], [.one (vec 1 intI c4)]⟩) (fun c4 e st => e = .exit 0 ∧ Sub [] st ⟨[(1, .c (row 1 intI add)), (7, .c (.own 0 0 c4.length))], [.one (vec 1 intI c4)]⟩) ?_ ?_ ?_ ?_
 ·try dsimp only
  exact Sub.env ⟨Z, Z, (Q4 (by first | rfl | simp only [List.length_set])), Z, Z, Z, Y⟩
 ·intro t5 c4 hlot5 hltt5 _
  try dsimp only
  refine AWP.q (.u (.F Z Z Z (.nil (b6 (.q (.ac Z hltt5 (.exit (e9 (e9 ⟨Z, ?_⟩)))))))))
  exact Sub.env ⟨Z, Z, Y⟩
 ·intro t5 c4 o hlot5 hltt5 h
  unfold P0 at h
  try dsimp only at h ⊢
  refine AWP.q (.u (.F Z Z Z (.nil (b6 (.q (.ad Z hltt5 (.skip (b6 ?_))))))))
  obtain ⟨c6, hx7, h⟩ := bind_some h
  refine AWP.seqJ (⟨[(1, .c (row 1 intI add)), (2, .c (row 1 intI del)), (7, .c (.own 2 0 c6.length)), (12, .c (row 1 intI sv)), (13, .c (int (sv.length : Int))), (14, .c (int t5))], [.dead, .dead, .one (vec 1 intI c6)]⟩) ?_ ?_
  ·refine AWP.aa (.q ?_)
   obtain ⟨a16, ha16, hx7⟩ := bind_some hx7
   refine AWP.u (S.idx ha16 Z Z Z Z (.ab Z Z Z Z (.z Z Z (.nil (b6 (.q ?_))))))
   obtain ⟨a21, ha21, hx7⟩ := bind_some hx7
   refine AWP.u (.j Z Z (.j Z Z (.O Z Z Z Z (G1 ha21) Z (.j Z Z (.ag Z Z Z (.ag Z Z Z (.z Z Z (.z Z Z (.nil (b6 (.q (.u (.j Z Z (.not Z Z (.nil (b6 (.af Z hx7 (fun hc8 hx7 => ?_) (fun hc8 hx7 => ?_))))))))))))))))))
   ·obtain ⟨a29, ha29, hx7⟩ := bind_some hx7
    refine AWP.u (.j Z Z (.j Z Z (S.lit (f := intI) (l := [a16]) (ess := [[int a16]]) Z Z Z Z Z Z Z ⟨⟨.inl Z, Y⟩, Y⟩ Z Z Z (S.append (f := intI) ha29 Z Z Z Z Z Z (.own Z Z) Z Z Z Z (.z Z Z (.nil (e6 ?_)))))))
    obtain rfl := oi hx7
    refine b6 (Sub.cut ⟨Z, Z, Z, Z, Z, Z, Y⟩ Z ⟨.dead, .dead, .vec, Y⟩ Z)
   ·refine AWP.skip (e6 ?_)
    obtain rfl := oi hx7
    refine b6 ((Sub.move (env' := [(1, .c (row 1 intI add)), (2, .c (row 1 intI del)), (7, .c (.own 2 0 c4.length)), (12, .c (row 1 intI sv)), (13, .c (int (sv.length : Int))), (14, .c (int t5))]) (σ' := [.dead, .dead, .one (vec 1 intI c4)]) 2 0 Z Z Z ⟨Z, Z, Z, Z, Z, Z, Y⟩ Z ⟨trivial, trivial, ⟨Blk.im_ok _ _ _, j7 Z⟩, Y⟩).trans (Sub.env ⟨Z, Z, Z, Z, Z, Z, Y⟩))
  ·refine AWP.u (.add Z Z Z (by omega) (.j Z Z (.nil ?_)))
   obtain rfl := oi h
   refine b6 ((Sub.move (env' := [(1, .c (row 1 intI add)), (2, .c (row 1 intI del)), (7, .c (.own 0 0 c6.length)), (12, .c (row 1 intI sv)), (13, .c (int (sv.length : Int))), (14, .c (int (t5 + 1)))]) (σ' := [.one (vec 1 intI c6), .dead]) 0 2 Z Z Z ⟨Z, Z, Z, Z, Z, Z, Y⟩ Z ⟨⟨Blk.im_ok _ _ _, j7 Z⟩, trivial, Y⟩).trans (Sub.cut ⟨Z, Z, Z, Z, Z, Z, Y⟩ Z ⟨.vec, Y⟩ Z))
 ·intro e s hq
  obtain ⟨rfl, hs⟩ := hq
  refine ⟨_, hs, ?_⟩
  refine i7 (b6 (.q ?_))
  obtain ⟨a33, ha33, h⟩ := bind_some h
  refine AWP.u (.j Z Z (.j Z Z (S.append (f := intI) ha33 Z Z Z Z Z Z .row Z Z Z Z (.z Z Z (.nil (b6 (.q (.j (env' := [(7, .c (.own 0 0 a33.length))]) (σ' := [.one (vec 1 intI a33)]) 0 1 Z Z Z ⟨Z, Y⟩ Z ⟨⟨Blk.im_ok _ _ _, j7 Z⟩, Y⟩ ?_))))))))
  obtain ⟨a35, ha35, h⟩ := bind_some h
  refine AWP.u (.j Z Z (S.sort ha35 sortL_ok Z Z Z Z Z Z (.nil (b6 (.q (.u (.j Z Z (S.compact compactL_ok Z Z (sortL_len ha35) Z Z Z Z Z (.z Z Z (.nil (b6 (.ret ?_))))))))))))
  obtain rfl := oi h
  exact Done.ret Z (Fresh.mk Z Z)
theorem T0 {t : e8} {sv : List Int} {op : Int} {r : (List Int)} (h : H0 t sv op = some r) : l6 prog 76 [.agg (tT t), .c (row 1 intI sv), .c (int op)] 1 (List.map intI r) := by
 unfold l6
 refine FnOk.enter (rs := [.t 6]) func76 Z ntmps76 results76 Z ⟨trivial, Y⟩ (by kernel_rfl) Z ?_
 unfold H0 at h
 refine AWP.q (.u (W.box Z Z Z Z Z Z (.z Z Z (.nil (b6 (.q ?_))))))
 obtain ⟨a11, ha11, h⟩ := bind_some h
 refine AWP.u (W.fieldAddr Z Z Z Z (.E Z Z Z Z Z Z (.j Z Z (S.idx ha11 Z Z Z Z (W.loadIAgg Z Z Z Z Z (W.alloc Z Z Z Z (W.storeAgg Z Z Z Z Z Z Z (.nil (b6 (.q ?_))))))))))
 obtain ⟨a18, ha18, h⟩ := bind_some h
 refine AWP.u (.j Z Z (W.fieldAddr Z Z Z Z (.E Z Z Z Z Z Z (W.fieldAddr Z Z Z Z (.E Z Z Z Z Z Z (S.fresh Z Z Z Z (ag3 ha18) Z Z (.z Z Z (.nil (b6 (.ret ?_))))))))))
 obtain rfl := oi h
 exact Done.ret Z (Fresh.mk Z Z)
theorem ad9 {xv : Int} {yv : Int} {r : Int} (h : F6 xv yv = some r) : f8 prog 82 [.c (int xv), .c (int yv)] (.c (int r)) := by
 unfold f8
 refine FnOk.enter (rs := [.t 4]) func82 Z ntmps82 results82 Z ⟨trivial, Y⟩ (by kernel_rfl) Z ?_
 unfold F6 at h
 refine AWP.q (.u (.z Z Z (.nil (b6 (.q ?_)))))
 obtain ⟨a8, ha8, h⟩ := bind_some h
 refine AWP.u (.j Z Z (.O Z Z Z Z (x6 ha8) Z (.z Z Z (.nil (b6 (.q ?_))))))
 obtain ⟨a10, ha10, h⟩ := bind_some h
 refine AWP.u (.j Z Z (.O Z Z Z Z (x6 ha10) Z (.z Z Z (.nil (b6 (.q (.q (.u (.j Z Z (.nil (b6 (.af Z h (fun hc3 h => ?_) (fun hc3 h => ?_)))))))))))))
 ·refine AWP.q (.q (.u (.j Z Z (.nil (b6 (.af Z h (fun hc4 h => ?_) (fun hc4 h => ?_)))))))
  ·refine AWP.q (.u (.z Z Z (.nil (b6 (.ret (f5 (f5 ?_)))))))
   obtain rfl := oi h
   exact Done.ret Z Z
  ·refine AWP.skip (b6 (.q (.u (.z Z Z (.nil (b6 (.ret (f5 ?_))))))))
   obtain rfl := oi h
   exact Done.ret Z Z
 ·refine AWP.skip (b6 (.q (.q (.u (.j Z Z (.nil (b6 (.af Z h (fun hc5 h => ?_) (fun hc5 h => ?_)))))))))
  ·refine AWP.q (.u (.z Z Z (.nil (b6 (.ret (f5 ?_))))))
   obtain rfl := oi h
   exact Done.ret Z Z
  ·refine AWP.skip (b6 (.q (.q (.u (.j Z Z (.j Z Z (.F Z Z Z (.nil (b6 (.ite Z h (fun hc6 h => ?_) (fun hc6 h => ?_)))))))))))
   ·refine AWP.q (.u (.z Z Z (.nil (b6 (.ret (f5 ?_))))))
    obtain rfl := oi h
    exact Done.ret Z Z
   ·refine AWP.skip (b6 (.q (.q (.u (.j Z Z (.j Z Z (.gtr Z Z Z (.nil (b6 (.ite Z h (fun hc7 h => ?_) (fun hc7 h => ?_)))))))))))
    ·refine AWP.q (.u (.z Z Z (.nil (b6 (.ret (f5 ?_))))))
     obtain rfl := oi h
     exact Done.ret Z Z
    ·refine AWP.skip (b6 (.q (.u (.z Z Z (.nil (b6 (.ret ?_)))))))
     obtain rfl := oi h
     exact Done.ret Z Z
theorem X2 {s11 : List Int} {s22 : List Int} {r : Int} (h : p8 s11 s22 = some r) : f8 prog 58 [.c (row 1 intI s11), .c (row 1 intI s22)] (.c (int r)) := by
 unfold f8
 refine FnOk.enter (rs := [.t 4]) func58 Z ntmps58 results58 Z ⟨trivial, Y⟩ (by kernel_rfl) Z ?_
 unfold p8 at h
 refine AWP.q (.u (.z Z Z (.nil (b6 (.q (.q (.u (.j Z Z (S.len Z Z (fun hl10 => .j Z Z (.nil (b6 (.aa ?_)))))))))))))
 obtain ⟨oo, ho1, h⟩ := bind_some h
 refine AWP.rngS ho1 (fun t3 _ => ⟨[(0, .c (row 1 intI s11)), (1, .c (row 1 intI s22)), (9, .c (row 1 intI s11)), (10, .c (int (s11.length : Int))), (11, .c (int t3))], []⟩) (fun o e st => match o with | .inl _ => e = .exit 0 ∧ Sub [] st ⟨[(0, .c (row 1 intI s11)), (1, .c (row 1 intI s22))], []⟩ | .inr x => e = .ret ∧ Done [.t 4] (fun t _ => t = .c (int x)) .ret st) ?_ ?_ ?_ ?_
 ·try dsimp only
  exact Sub.env ⟨Z, Z, Z, Z, Z, Y⟩
 ·intro t3 s hlot3 hltt3 _
  try dsimp only
  refine AWP.q (.u (.F Z Z Z (.nil (b6 (.q (.ac Z hltt3 (.exit (e9 (e9 ⟨Z, ?_⟩)))))))))
  exact Sub.env ⟨Z, Z, Y⟩
 ·intro t3 s o hlot3 hltt3 h
  unfold y9 at h
  try dsimp only at h ⊢
  refine AWP.q (.u (.F Z Z Z (.nil (b6 (.q (.ad Z hltt3 (.skip (b6 (.q (.aa (.q ?_)))))))))))
  obtain ⟨a14, ha14, h⟩ := bind_some h
  refine AWP.u (.j Z Z (S.idx ha14 Z Z Z Z (.ab Z Z Z Z (.z Z Z (.z Z Z (.nil (b6 (.q (.q (.u (.j Z Z (.j Z Z (S.len Z Z (fun hl18 => .geq Z Z Z (.nil (b6 (.ite Z h (fun hc4 h => ?_) (fun hc4 h => ?_))))))))))))))))))
  ·refine AWP.q (.u (.z Z Z (.nil (b6 (.ret (f5 (i8 (f5 ?_))))))))
   obtain rfl := oi h
   refine f5 ⟨_, Z, Z, ?_⟩
   exact Done.ret Z Z
  ·refine AWP.skip (b6 (.q ?_))
   obtain ⟨a22, ha22, h⟩ := bind_some h
   refine AWP.u (.j Z Z (.j Z Z (S.idx ha22 Z Z Z Z (.ab Z Z Z Z (.z Z Z (.nil (b6 (.q ?_))))))))
   obtain ⟨a26, ha26, h⟩ := bind_some h
   refine AWP.u (.j Z Z (.j Z Z (.O Z Z Z Z (ad9 ha26) Z (.z Z Z (.nil (b6 (.q (.u (.j Z Z (.neq Z Z Z (.nil (b6 (.iteN Z h (fun hc5 h => ?_) (fun hc5 h => ?_))))))))))))))
   ·refine AWP.q (.u (.j Z Z (.z Z Z (.nil (b6 (.ret (i8 (f5 ?_))))))))
    obtain rfl := oi h
    refine f5 ⟨_, Z, Z, ?_⟩
    exact Done.ret Z Z
   ·refine AWP.skip (e6 (b6 (.u (.add Z Z Z (by omega) (.j Z Z (.nil ?_))))))
    obtain rfl := oi h
    refine b6 ⟨_, Z, ?_⟩
    exact Sub.env ⟨Z, Z, Z, Z, Z, Y⟩
 ·intro e s hq
  rcases oo with u | x
  ·try dsimp only at h hq
   obtain ⟨rfl, hs⟩ := hq
   refine ⟨_, hs, ?_⟩
   refine i7 (b6 (.q (.q (.u (.j Z Z (S.len Z Z (fun hl32 => .j Z Z (S.len Z Z (fun hl34 => .F Z Z Z (.nil (b6 (.ite Z h (fun hc6 h => ?_) (fun hc6 h => ?_)))))))))))))
   ·refine AWP.q (.u (.z Z Z (.nil (b6 (.ret (f5 ?_))))))
    obtain rfl := oi h
    exact Done.ret Z Z
   ·refine AWP.skip (b6 (.q (.u (.z Z Z (.nil (b6 (.ret ?_)))))))
    obtain rfl := oi h
    exact Done.ret Z Z
  ·try dsimp only at h hq
   obtain ⟨rfl, hs⟩ := hq
   refine ⟨_, Sub.refl _ _, ?_⟩
   refine i8 (f5 ?_)
   obtain rfl := oi h
   exact hs
theorem N5 {s11 : List Int} {s22 : List Int} {r : Bool} (h : s9 s11 s22 = some r) : f8 prog 129 [.c (row 1 intI s11), .c (row 1 intI s22)] (.c (bool r)) := by
 unfold f8
 refine FnOk.enter (rs := [.t 4]) func129 Z ntmps129 results129 Z ⟨trivial, Y⟩ (by kernel_rfl) Z ?_
 unfold s9 at h
 refine AWP.q (.u (.z Z Z (.nil (b6 (.q (.q (.u (.j Z Z (S.len Z Z (fun hl7 => .j Z Z (S.len Z Z (fun hl9 => .neq Z Z Z (.nil (b6 (.iteN Z h (fun hc3 h => ?_) (fun hc3 h => ?_))))))))))))))))
 ·refine AWP.q (.u (.z Z Z (.nil (b6 (.ret (f5 ?_))))))
  obtain rfl := oi h
  exact Done.ret Z Z
 ·refine AWP.skip (b6 (.q (.q (.u (.j Z Z (S.len Z Z (fun hl12 => .j Z Z (.nil (b6 (.aa ?_))))))))))
  obtain ⟨oo, ho1, h⟩ := bind_some h
  refine AWP.rngS ho1 (fun t4 _ => ⟨[(0, .c (row 1 intI s11)), (1, .c (row 1 intI s22)), (12, .c (int (s11.length : Int))), (13, .c (int t4))], []⟩) (fun o e st => match o with | .inl _ => e = .exit 0 ∧ Sub [] st ⟨[], []⟩ | .inr x => e = .ret ∧ Done [.t 4] (fun t _ => t = .c (bool x)) .ret st) ?_ ?_ ?_ ?_
  ·try dsimp only
   exact Sub.env ⟨Z, Z, Z, Z, Y⟩
  ·intro t4 s hlot4 hltt4 _
   try dsimp only
   refine AWP.q (.u (.F Z Z Z (.nil (b6 (.q (.ac Z hltt4 (.exit (e9 (e9 ⟨Z, ?_⟩)))))))))
   exact Sub.env trivial
  ·intro t4 s o hlot4 hltt4 h
   unfold E6 at h
   try dsimp only at h ⊢
   refine AWP.q (.u (.F Z Z Z (.nil (b6 (.q (.ad Z hltt4 (.skip (b6 (.q (.aa (.q (.u (.j Z Z (.z Z Z (.nil (b6 (.q ?_)))))))))))))))))
   obtain ⟨a18, ha18, a22, ha22, h⟩ := b2 h
   refine AWP.drawI mixed Z ?_
   refine i9.consF Z (fun E => AOps.j Z Z .N) Z (.consF Z (fun E => AOps.j Z Z .N) Z (.consF Z (fun E => S.idx ha18 Z Z Z Z .N) Z (.consF Z (fun E => AOps.ab Z Z Z Z .N) Z (.consF Z (fun E => AOps.j Z Z .N) Z (.consF Z (fun E => AOps.j Z Z .N) Z (.consF Z (fun E => S.idx ha22 Z Z Z Z .N) Z (.consF Z (fun E => AOps.ab Z Z Z Z .N) Z (.consF Z (fun E => AOps.neq Z Z Z .N) Z ?_))))))))
   refine i9.done ?_
   dsimp only [l0]
   refine b6 (.iteN Z h (fun hc5 h => ?_) (fun hc5 h => ?_))
   ·refine AWP.q (.u (.z Z Z (.nil (b6 (.ret (i8 (f5 ?_)))))))
    obtain rfl := oi h
    refine f5 ⟨_, Z, Z, ?_⟩
    exact Done.ret Z Z
   ·refine AWP.skip (e6 (b6 (.u (.add Z Z Z (by omega) (.j Z Z (.nil ?_))))))
    obtain rfl := oi h
    refine b6 ⟨_, Z, ?_⟩
    exact Sub.env ⟨Z, Z, Z, Z, Y⟩
  ·intro e s hq
   rcases oo with u | x
   ·try dsimp only at h hq
    obtain ⟨rfl, hs⟩ := hq
    refine ⟨_, hs, ?_⟩
    refine i7 (b6 (.q (.u (.z Z Z (.nil (b6 (.ret ?_)))))))
    obtain rfl := oi h
    exact Done.ret Z Z
   ·try dsimp only at h hq
    obtain ⟨rfl, hs⟩ := hq
    refine ⟨_, Sub.refl _ _, ?_⟩
    refine i8 (f5 ?_)
    obtain rfl := oi h
    exact hs
theorem Q6 {l : List (List Int)} {r : (List (List Int))} (h : n8 l = some r) : FnOk prog 128 [.c (.own 0 0 l.length), .c (.fn 129 [])] (o9 l) (fun tt ss => tt = .c (.own 1 0 r.length) ∧ ss = [.dead, .one (vec 1 f7 r)]) := by
 refine FnOk.enter (rs := [.t 4]) func128 Z ntmps128 results128 Z ⟨trivial, Y⟩ (by kernel_rfl) Z ?_
 refine AWP.weak ?_
 unfold n8 at h
 refine AWP.j (env' := [(0, .c (.own 1 0 l.length)), (1, .c (.fn 129 []))]) (σ' := [.dead, .one (vec 1 f7 l)]) 1 0 Z Z Z ⟨Z, Z, Y⟩ Z ⟨trivial, ⟨Blk.im_ok _ _ _, j7 Z⟩, Y⟩ (.q (.u (.z Z Z (.nil (b6 (.q (.q (.u (.j Z Z (S.lenO Z Z Z (fun hl9 => .F Z Z Z (.nil (b6 (.ite Z h (fun hc53 h => ?_) (fun hc53 h => ?_)))))))))))))))
 ·refine AWP.q (.u (.j Z Z (.z Z Z (.nil (b6 (.ret (f5 ?_)))))))
  obtain rfl := oi h
  exact ⟨⟨[(4, .c (.own 1 0 l.length))], [.dead, .one (vec 1 f7 l)]⟩, Sub.env ⟨Z, Y⟩, Done.ret Z ⟨Z, Z⟩⟩
 ·refine AWP.skip (b6 (.q (.q (.u (.z Z Z (.nil (b6 (.aa ?_))))))))
  obtain ⟨oo, ho1, h⟩ := bind_some h
  refine AWP.rngS ho1 (fun kv54 _ => ⟨[(0, .c (.own 1 0 l.length)), (1, .c (.fn 129 [])), (5, .c (int kv54))], [.dead, .one (vec 1 f7 l)]⟩) (fun o e st => match o with | .inl _ => e = .exit 0 ∧ Sub (o9 l) st ⟨[(0, .c (.own 1 0 l.length))], [.dead, .one (vec 1 f7 l)]⟩ | .inr x => e = .ret ∧ ∃ J, Sub (o9 l) st J ∧ Done [.t 4] (fun tt ss => tt = .c (.own 1 0 x.length) ∧ ss = [.dead, .one (vec 1 f7 x)]) .ret J) ?_ ?_ ?_ ?_
  ·try dsimp only
   exact Sub.env ⟨Z, Z, Z, Y⟩
  ·intro kv54 s hlokv54 hltkv54 _
   try dsimp only
   refine AWP.q (.q (.u (.j Z Z (.j Z Z (S.lenO Z Z Z (fun hl14 => .F Z Z Z (.nil (b6 (.ac Z hltkv54 (.exit (e9 (e9 ⟨Z, ?_⟩))))))))))))
   exact Sub.env ⟨Z, Y⟩
  ·intro kv54 s o hlokv54 hltkv54 h
   unfold l7 at h
   try dsimp only at h ⊢
   refine AWP.q (.q (.u (.j Z Z (.j Z Z (S.lenO Z Z Z (fun hl14 => .F Z Z Z (.nil (b6 (.ad Z hltkv54 (.skip (b6 (.q (.aa (.q ?_))))))))))))))
   obtain ⟨a21, ha21, a26, ha26, a28, ha28, h⟩ := b3 h
   refine AWP.drawI mixed Z ?_
   refine i9.consF Z (fun E => AOps.j Z Z .N) Z (.consF Z (fun E => AOps.j Z Z .N) Z (.consF Z (fun E => AOps.j Z Z .N) Z (.consF Z (fun E => S.idxO ha21 Z Z Z Z Z .N) Z (.consF Z (fun E => S.loadO ha21 Z Z Z Z Z .N) Z (.consF Z (fun E => AOps.j Z Z .N) Z (.consF Z (fun E => AOps.j Z Z .N) Z (.consF Z (fun E => AOps.sub' Z Z Z (by omega) .N) Z (.consF Z (fun E => S.idxO ha26 Z Z Z Z Z .N) Z (.consF Z (fun E => S.loadO ha26 Z Z Z Z Z .N) Z (.consF Z (fun E => AOps.O Z Z Z Z (N5 ha28) Z .N) Z ?_))))))))))
   refine i9.done ?_
   dsimp only [l0]
   refine b6 (.af Z h (fun hc55 h => ?_) (fun hc55 h => ?_))
   ·refine AWP.q ?_
    obtain ⟨u31, hu31, h⟩ := bind_some h
    refine AWP.u (.j Z Z (.j Z Z (S.vFrom (H4 l) hu31 Z Z Z Z Z Z (.z Z Z (.nil (b6 (.q (.q (.u (.z Z Z (.nil (b6 (.aa ?_)))))))))))))
    obtain ⟨⟨c56, kv57⟩, ho2, h⟩ := bind_some h
    try dsimp only at h
    refine AWP.forS ho2 (fun k258 (c56, kv57) => ⟨[(0, .c (.own 1 0 c56.length)), (1, .c (.fn 129 [])), (5, .c (int kv57)), (6, .c (.own 1 ((0 + kv54).toNat) (((l.length : Int) - kv54).toNat))), (7, .c (int k258))], [.dead, .one (vec 1 f7 c56)]⟩) (fun (c56, kv57) e st => e = .exit 2 ∧ Sub (o9 l) st ⟨[(0, .c (.own 1 0 c56.length)), (5, .c (int kv57))], [.dead, .one (vec 1 f7 c56)]⟩) ?_ ?_ ?_ ?_
    ·try dsimp only
     exact Sub.env ⟨Z, Z, Z, Z, Z, Y⟩
    ·intro k258 s hlok258 hltk258 _
     obtain ⟨c56, kv57⟩ := s
     try dsimp only
     refine AWP.q (.q (.u (.j Z Z (.j Z Z (S.lenV (J2 (vw_cut (H4 l) hu31)).2.1 Z Z Z (fun hl34 => .F Z Z Z (.nil (b6 (.ac Z hltk258 (.exit (e9 (e9 ⟨Z, ?_⟩))))))))))))
     exact Sub.env ⟨Z, Z, Y⟩
    ·intro k258 s o hlok258 hltk258 h
     obtain ⟨c56, kv57⟩ := s
     unfold m7 at h
     try dsimp only at h ⊢
     refine AWP.q (.q (.u (.j Z Z (.j Z Z (S.lenV (J2 (vw_cut (H4 l) hu31)).2.1 Z Z Z (fun hl34 => .F Z Z Z (.nil (b6 (.ad Z hltk258 (.skip (b6 ?_)))))))))))
     obtain ⟨⟨c59, kv60⟩, hx61, h⟩ := bind_some h
     refine AWP.seqJ (⟨[(0, .c (.own 1 0 c59.length)), (1, .c (.fn 129 [])), (5, .c (int kv60)), (6, .c (.own 1 ((0 + kv54).toNat) (((l.length : Int) - kv54).toNat))), (7, .c (int k258))], [.dead, .one (vec 1 f7 c59)]⟩) ?_ ?_
     ·refine AWP.aa (.q ?_)
      obtain ⟨a41, ha41, a46, ha46, a48, ha48, hx61⟩ := b3 hx61
      refine AWP.drawI mixed Z ?_
      refine i9.consF Z (fun E => AOps.j Z Z .N) Z (.consF Z (fun E => AOps.j Z Z .N) Z (.consF Z (fun E => AOps.j Z Z .N) Z (.consF Z (fun E => S.idxV ha41 Z Z Z Z .N) Z (.consF Z (fun E => S.loadO (ixV_ix ha41) Z Z Z Z Z .N) Z (.consF Z (fun E => AOps.j Z Z .N) Z (.consF Z (fun E => AOps.j Z Z .N) Z (.consF Z (fun E => AOps.sub' Z Z Z (by omega) .N) Z (.consF Z (fun E => S.idxV ha46 Z Z Z Z .N) Z (.consF Z (fun E => S.loadO (ixV_ix ha46) Z Z Z Z Z .N) Z (.consF Z (fun E => AOps.O Z Z Z Z (N5 ha48) Z .N) Z (.consF Z (fun E => AOps.not Z Z .N) Z ?_)))))))))))
      refine i9.done ?_
      dsimp only [l0]
      refine b6 (.af Z hx61 (fun hc62 hx61 => ?_) (fun hc62 hx61 => ?_))
      ·refine AWP.q ?_
       obtain ⟨a54, ha54, a56, ha56, hx61⟩ := b2 hx61
       refine AWP.u (.j Z Z (.j Z Z (.j Z Z (.j Z Z (S.idxV ha54 Z Z Z Z (S.loadO (ixV_ix ha54) Z Z Z Z Z (S.idxO ha56 Z Z Z Z Z (S.storeO1 (f := f7) (a' := a54) (ix_lt ha56) (fun _ => ⟨_, Z⟩) Z Z Z Z Z ?_))))))))
       refine AOps.nil (b6 (.u (.j Z Z (S.add Z Z Z (.z Z Z (.nil (e6 ?_)))))))
       obtain ⟨ej0, ej1⟩ := o2 hx61
       subst ej0 ej1
       refine b6 (Sub.env ⟨(Q4 (by first | rfl | simp only [List.length_set])), Z, Z, Z, Z, Y⟩)
      ·refine AWP.skip (e6 ?_)
       obtain ⟨ej0, ej1⟩ := o2 hx61
       subst ej0 ej1
       refine b6 (Sub.env ⟨Z, Z, Z, Z, Z, Y⟩)
     ·try dsimp only at h
      refine AWP.u (.j Z Z (.add Z Z Z (by omega) (.z Z Z (.nil ?_))))
      obtain rfl := oi h
      refine b6 (Sub.env ⟨Z, Z, Z, Z, Z, Y⟩)
    ·intro e s hq
     obtain ⟨rfl, hs⟩ := hq
     refine ⟨_, hs, ?_⟩
     refine i7 (b6 (.q ?_))
     obtain ⟨u61, hu61, h⟩ := bind_some h
     refine AWP.u (.j Z Z (.j Z Z (S.vFrom (H4 c56) hu61 Z Z Z Z Z Z (S.clear (a0 := []) Z Z Z (fun _ _ _ _ => .imm .slNil) (vw_cut (H4 c56) hu61) Z Z Z Z Z ?_))))
     refine AOps.nil (b6 (.q ?_))
     obtain ⟨u64, hu64, h⟩ := bind_some h
     refine AWP.u (.j Z Z (.j Z Z ?_))
     refine S.vTo (H4 (clrL c56 (0 + kv57) ((c56.length : Int) - kv57) [])) hu64 Z Z (by rw [Int.toNat_natCast]; exact (clrL_len (vw_cut (H4 c56) hu61)).symm) Z Z Z ?_
     refine AOps.z Z Z (.nil (b6 (.reown (env' := [(4, .c (.own 2 0 ((i6 (clrL c56 (0 + kv57) ((c56.length : Int) - kv57) []) 0 kv57).length)))]) 4 (vw_to (H4 (clrL c56 (0 + kv57) ((c56.length : Int) - kv57) [])) hu64) Z Z Z Z Z Z Z Z (by exact ⟨.inl ⟨Z, Z⟩, Y⟩) (.ret (i8 (f5 ?_))))))
     obtain rfl := oi h
     refine f5 ⟨_, Z, Z, ?_⟩
     exact ⟨⟨[(4, .c (.own 1 0 ((i6 (clrL c56 (0 + kv57) ((c56.length : Int) - kv57) []) 0 kv57).length)))], [.dead, .one (vec 1 f7 (i6 (clrL c56 (0 + kv57) ((c56.length : Int) - kv57) []) 0 kv57))]⟩, (Sub.move (env' := [(4, .c (.own 1 0 ((i6 (clrL c56 (0 + kv57) ((c56.length : Int) - kv57) []) 0 kv57).length)))]) (σ' := [.dead, .one (vec 1 f7 (i6 (clrL c56 (0 + kv57) ((c56.length : Int) - kv57) []) 0 kv57))]) 1 2 Z Z Z ⟨Z, Y⟩ Z ⟨trivial, ⟨Blk.im_ok _ _ _, j7 Z⟩, Y⟩).trans (Sub.env ⟨Z, Y⟩), Done.ret Z ⟨Z, Z⟩⟩
   ·refine AWP.skip (e6 (b6 (.u (.j Z Z (.add Z Z Z (by omega) (.z Z Z (.nil ?_)))))))
    obtain rfl := oi h
    refine b6 ⟨_, Z, ?_⟩
    exact Sub.env ⟨Z, Z, Z, Y⟩
  ·intro e s hq
   rcases oo with u | x
   ·try dsimp only at h hq
    obtain ⟨rfl, hs⟩ := hq
    refine ⟨_, hs, ?_⟩
    refine i7 (b6 (.q (.u (.j Z Z (.z Z Z (.nil (b6 (.ret ?_))))))))
    obtain rfl := oi h
    exact ⟨⟨[(4, .c (.own 1 0 l.length))], [.dead, .one (vec 1 f7 l)]⟩, Sub.env ⟨Z, Y⟩, Done.ret Z ⟨Z, Z⟩⟩
   ·try dsimp only at h hq
    obtain ⟨rfl, hs⟩ := hq
    refine ⟨_, Sub.refl _ _, ?_⟩
    refine i8 (f5 ?_)
    obtain rfl := oi h
    exact hs
theorem af0 {l : List (List Int)} {r : (List (List Int))} (h : F1 l = some r) : FnOk prog 111 [.c (.own 0 0 l.length)] (ad8 l) (fun tt ss => tt = .c (.own 2 0 r.length) ∧ ss = [.dead, .dead, .one (vec 1 f7 r)]) := by
 refine FnOk.enter (rs := [.t 2]) func111 Z ntmps111 results111 Z ⟨trivial, Y⟩ (by kernel_rfl) Z ?_
 refine AWP.weak ?_
 unfold F1 at h
 refine AWP.j (env' := [(0, .c (.own 1 0 l.length))]) (σ' := [.dead, .one (vec 1 f7 l)]) 1 0 Z Z Z ⟨Z, Y⟩ Z ⟨trivial, ⟨Blk.im_ok _ _ _, j7 Z⟩, Y⟩ (.q (.u (.z Z Z (.nil (b6 (.q ?_))))))
 obtain ⟨a4, ha4, h⟩ := bind_some h
 refine AWP.u (.j Z Z (S.sortF (fun x => .sl 1 (List.map intI x)) ha4 Z (fun hy => X2 hy) sortF_LLi64_ok (⟨_, func58, Z, Z⟩) Z Z Z Z Z Z ?_))
 refine AOps.nil (b6 (.q ?_))
 obtain ⟨a6, ha6, h⟩ := bind_some h
 refine AWP.u (.j Z Z ?_)
 refine AOps.callF (r2 := .c (.own 2 0 a6.length)) (σ'' := [.dead, .dead, .one (vec 1 f7 a6)]) Z Z Z (FnOk.lend [1] (Q6 ha6) Z Z Z Z Z Z (by exact ⟨.vec, Y⟩) (by rw [(sortFL_len ha4)] <;> rfl) (by exact ⟨(.live Z .vec), Y⟩) Z Z (by exact ⟨.dead, .dead, (.new 1 Z Z .vec), Y⟩)) ?_
 refine AOps.z Z Z (.nil (b6 (.ret ?_)))
 obtain rfl := oi h
 exact ⟨⟨[(2, .c (.own 2 0 a6.length))], [.dead, .dead, .one (vec 1 f7 a6)]⟩, Sub.env ⟨Z, Y⟩, Done.ret Z ⟨Z, Z⟩⟩
theorem belief_After_ok {t : e8} {worlds : List (List Int)} {op : Int} {r : (List (List Int))} (h : I1 t worlds op = some r) : l6 prog 90 [.agg (tT t), .c (row 1 f7 worlds), .c (int op)] 1 (List.map f7 r) := by
 unfold l6
 refine FnOk.enter (rs := [.t 6]) func90 Z ntmps90 results90 Z ⟨trivial, Y⟩ (by kernel_rfl) Z ?_
 unfold I1 at h
 refine AWP.q (.u (W.box Z Z Z Z Z Z (.z Z Z (.nil (b6 (.q (.u (.z Z Z (.nil (b6 (.q (.q (.u (.j Z Z (S.len Z Z (fun hl11 => .j Z Z (.nil (b6 (.aa (.virtV 1 f7 7 Z Z Z ?_))))))))))))))))))))
 obtain ⟨c4, ho1, h⟩ := bind_some h
 refine AWP.forS ho1 (fun t5 c4 => ⟨[(2, .c (int op)), (3, .c (.ptr 0 0 0)), (7, .c (.own 1 0 c4.length)), (10, .c (row 1 f7 worlds)), (11, .c (int (worlds.length : Int))), (12, .c (int t5))], [.one (.cells 4 [(tT t)]), .one (vec 1 f7 c4)]⟩) (fun c4 e st => e = .exit 0 ∧ Sub [] st ⟨[(7, .c (.own 1 0 c4.length))], [.one (.cells 4 [(tT t)]), .one (vec 1 f7 c4)]⟩) ?_ ?_ ?_ ?_
 ·try dsimp only
  exact Sub.env ⟨Z, Z, (Q4 (by first | rfl | simp only [List.length_set])), Z, Z, Z, Y⟩
 ·intro t5 c4 hlot5 hltt5 _
  try dsimp only
  refine AWP.q (.u (.F Z Z Z (.nil (b6 (.q (.ac Z hltt5 (.exit (e9 (e9 ⟨Z, ?_⟩)))))))))
  exact Sub.env ⟨Z, Y⟩
 ·intro t5 c4 o hlot5 hltt5 h
  unfold G0 at h
  try dsimp only at h ⊢
  refine AWP.q (.u (.F Z Z Z (.nil (b6 (.q (.ad Z hltt5 (.skip (b6 (.q (.aa (.q ?_)))))))))))
  obtain ⟨a14, ha14, h⟩ := bind_some h
  refine AWP.u (S.idx ha14 Z Z Z Z (.ab Z Z Z Z (.z Z Z (.nil (b6 ?_)))))
  obtain ⟨a20, ha20, a22, ha22, h⟩ := b2 h
  refine AWP.u (.j Z Z (W.loadAgg Z Z Z Z Z Z Z (.j Z Z (.j Z Z (S.fresh Z Z Z Z (T0 ha20) Z Z (.frzV (id := 2) (l := a20) (env2 := [(2, .c (int op)), (3, .c (.ptr 0 0 0)), (10, .c (row 1 f7 worlds)), (11, .c (int (worlds.length : Int))), (12, .c (int t5)), (16, .c (.own 1 0 c4.length)), (20, .c (row 1 intI a20))]) (σ2 := [.one (.cells 4 [(tT t)]), .one (vec 1 f7 c4), .dead]) Z Z (by exact ⟨⟨_, Z, .inl ⟨Z, Z⟩⟩, ⟨_, Z, .inl ⟨Z, Z⟩⟩, ⟨_, Z, .inl ⟨Z, Z⟩⟩, ⟨_, Z, .inl ⟨Z, Z⟩⟩, ⟨_, Z, .inl ⟨Z, Z⟩⟩, ⟨_, Z, .inl ⟨Z, Z⟩⟩, ⟨_, Z, .inr ⟨_, Z, Z, Z⟩⟩, Y⟩) Z (by exact ⟨⟨Z, .inl ⟨Z, Z⟩, .inl ⟨Z, Z⟩, .inl ⟨Z, Z⟩, .inl ⟨Z, Z⟩, Y⟩, FrzB.vec, trivial, Y⟩) (S.lit (f := f7) (l := [a20]) (ess := [[row 1 intI a20]]) Z Z Z Z Z Z Z ⟨⟨.inl Z, Y⟩, Y⟩ Z Z Z (S.append (f := f7) ha22 Z Z Z Z Z Z (.own Z Z) Z Z Z Z (.z Z Z (.nil (e6 (b6 (.j (env' := [(2, .c (int op)), (3, .c (.ptr 0 0 0)), (7, .c (.own 1 0 a22.length)), (10, .c (row 1 f7 worlds)), (11, .c (int (worlds.length : Int))), (12, .c (int t5))]) (σ' := [.one (.cells 4 [(tT t)]), .one (vec 1 f7 a22), .dead, .one (vec 1 f7 [a20])]) 1 4 Z Z Z ⟨Z, Z, Z, Z, Z, Z, Y⟩ Z ⟨⟨Z, Z⟩, ⟨Blk.im_ok _ _ _, j7 Z⟩, trivial, ⟨Blk.im_ok _ _ _, j7 Z⟩, Y⟩ (.u (.add Z Z Z (by omega) (.j Z Z (.nil ?_)))))))))))))))))
  obtain rfl := oi h
  refine b6 (Sub.cut ⟨Z, Z, Z, Z, Z, Z, Y⟩ Z ⟨.one Z, .vec, Y⟩ Z)
 ·intro e s hq
  obtain ⟨rfl, hs⟩ := hq
  refine ⟨_, hs, ?_⟩
  refine i7 (b6 (.q ?_))
  obtain ⟨a25, ha25, h⟩ := bind_some h
  refine AWP.u (.j Z Z (.callF (r2 := .c (.own 3 0 a25.length)) (σ'' := [.one (.cells 4 [(tT t)]), .dead, .dead, .one (vec 1 f7 a25)]) Z Z Z (FnOk.lend [1] (af0 ha25) Z Z Z Z Z Z (by exact ⟨.vec, Y⟩) Z (by exact ⟨(.live Z .vec), Y⟩) Z Z (by exact ⟨(.old Z Z Z), .dead, .dead, (.new 2 Z Z .vec), Y⟩)) (.z Z Z (.nil (b6 (.ret ?_))))))
  obtain rfl := oi h
  exact Done.ret Z (Fresh.mk Z Z)
theorem ab0 {t : e8} {worlds : List (List Int)} {r : Unit} (h : E4 t worlds = some r) : FnOk prog 71 [.agg (tT t), .c (row 1 f7 worlds)] (ab1 t worlds) (fun tt ss => tt = .c (.fn 88 [.ptr 0 0 0, .ptr 1 0 0]) ∧ ss = [.one (.cells 4 [(tT t)]), .one (.cells 1 [[row 1 f7 worlds]])]) := by
 refine FnOk.enter (rs := [.t 4]) func71 Z ntmps71 results71 Z ⟨trivial, Y⟩ (by kernel_rfl) Z ?_
 refine AWP.weak ?_
 unfold E4 at h
 refine AWP.q (.u (W.box Z Z Z Z Z Z (W.box Z Z Z Z Z Z (.z Z Z (.nil (b6 (.q (.u (.makeFunc Z Z (.z Z Z (.nil (b6 (.ret ?_)))))))))))))
 obtain rfl := oi h
 exact ⟨⟨[(4, .c (.fn 88 [.ptr 0 0 0, .ptr 1 0 0]))], [.one (.cells 4 [(tT t)]), .one (.cells 1 [[row 1 f7 worlds]])]⟩, Sub.env ⟨Z, Y⟩, Done.ret Z ⟨Z, Z⟩⟩
theorem ab4 {v : List (List Int)} {r : Bool} (h : F4 v = some r) : f8 prog 68 [.c (row 1 f7 v)] (.c (bool r)) := by
 unfold f8
 refine FnOk.enter (rs := [.t 2]) func68 Z ntmps68 results68 Z ⟨trivial, Y⟩ (by kernel_rfl) Z ?_
 unfold F4 at h
 refine AWP.q (.u (.z Z Z (.nil (b6 (.q (.u (.z Z Z (.nil (b6 (.ret ?_))))))))))
 obtain rfl := oi h
 exact Done.ret Z Z
theorem X0 {iv : Int} {r : ByteArray} (h : internal_strconv_small iv = some r) : f8 prog 122 [.c (int iv)] (.c (.imm (.val (.string r)))) := by
 unfold f8
 refine FnOk.enter (rs := [.t 2]) func122 Z ntmps122 results122 Z ⟨trivial, Y⟩ (by kernel_rfl) Z ?_
 unfold internal_strconv_small at h
 refine AWP.q (.u (.z Z Z (.nil (b6 (.q (.q (.u (.j Z Z (.F Z Z Z (.nil (b6 (.ite Z h (fun hc2 h => ?_) (fun hc2 h => ?_)))))))))))))
 ·refine AWP.q ?_
  obtain ⟨a8, ha8, h⟩ := bind_some h
  refine AWP.u (.j Z Z (.j Z Z (S.add Z Z Z (S.subStr ha8 Z Z Z Z (.z Z Z (.nil (b6 (.ret (f5 ?_)))))))))
  obtain rfl := oi h
  exact Done.ret Z Z
 ·refine AWP.skip (b6 (.q ?_))
  obtain ⟨a14, ha14, h⟩ := bind_some h
  refine AWP.u (.j Z Z (S.mul Z Z Z (.j Z Z (S.mul Z Z Z (S.add Z Z Z (S.subStr ha14 Z Z Z Z (.z Z Z (.nil (b6 (.ret ?_))))))))))
  obtain rfl := oi h
  exact Done.ret Z Z
theorem O2 {iv : Int} {base : Int} {l : List Int} {r : (List Int)} (h : q7 iv base l = some r) : FnOk prog 108 [.c (.own 0 0 l.length), .c (.imm (.val (.int .u64 iv))), .c (int base)] (O4 iv base l) (fun tt ss => tt = .c (.own 2 0 r.length) ∧ ss = [.dead, .dead, .one (vec 1 eU8 r)]) := by
 refine FnOk.enter (rs := [.t 6]) func108 Z ntmps108 results108 Z ⟨trivial, Y⟩ (by kernel_rfl) Z ?_
 refine AWP.weak ?_
 unfold q7 at h
 refine AWP.j (env' := [(0, .c (.own 1 0 l.length)), (1, .c (.imm (.val (.int .u64 iv)))), (2, .c (int base))]) (σ' := [.dead, .one (vec 1 eU8 l)]) 1 0 Z Z Z ⟨Z, Z, Z, Y⟩ Z ⟨trivial, ⟨Blk.im_ok _ _ _, j7 Z⟩, Y⟩ (.q (.u (.z Z Z (.nil (b6 (.q (.q (.u (.j Z Z (.eql Z Z Z (.nil (b6 (.ite Z h (fun hc55 h => ?_) (fun hc55 h => ?_))))))))))))))
 ·refine AWP.q (.q (.u (.j Z Z (.F Z Z Z (.nil (b6 (.ite Z h (fun hc56 h => ?_) (fun hc56 h => ?_))))))))
  ·refine AWP.q ?_
   obtain ⟨a16, ha16, a17, ha17, h⟩ := b2 h
   refine AWP.u (.j Z Z (.j Z Z (.convInt Z Z (.O Z Z Z Z (X0 ha16) Z (S.appendStr ha17 Z Z Z Z Z Z Z Z Z Z (.z Z Z (.nil (b6 (.ret (f5 (f5 ?_)))))))))))
   obtain rfl := oi h
   exact ⟨⟨[(6, .c (.own 2 0 a17.length))], [.dead, .dead, .one (vec 1 eU8 a17)]⟩, Sub.env ⟨Z, Y⟩, Done.ret Z ⟨Z, Z⟩⟩
  ·cases h
 ·cases h
theorem P7 {iv : Int} {base : Int} {l : List Int} {r : (List Int)} (h : s7 iv base l = some r) : FnOk prog 87 [.c (.own 0 0 l.length), .c (int iv), .c (int base)] (P5 iv base l) (fun tt ss => tt = .c (.own 3 0 r.length) ∧ ss = [.dead, .dead, .dead, .one (vec 1 eU8 r)]) := by
 refine FnOk.enter (rs := [.t 6]) func87 Z ntmps87 results87 Z ⟨trivial, Y⟩ (by kernel_rfl) Z ?_
 refine AWP.weak ?_
 unfold s7 at h
 refine AWP.j (env' := [(0, .c (.own 1 0 l.length)), (1, .c (int iv)), (2, .c (int base))]) (σ' := [.dead, .one (vec 1 eU8 l)]) 1 0 Z Z Z ⟨Z, Z, Z, Y⟩ Z ⟨trivial, ⟨Blk.im_ok _ _ _, j7 Z⟩, Y⟩ (.q (.u (.z Z Z (.nil (b6 (.q (.u (.j Z Z (.convInt Z Z (.z Z Z (.nil (b6 ?_))))))))))))
 obtain ⟨u, hx55, h⟩ := bind_some h
 refine AWP.seqJ (⟨[(0, .c (.own 1 0 l.length)), (2, .c (int base)), (7, .c (.imm (.val (.int .u64 ((IntKind.u64).wrap iv)))))], [.dead, .one (vec 1 eU8 l)]⟩) ?_ ?_
 ·refine AWP.q (.u (.j Z Z (.F Z Z Z (.nil (b6 (.ite Z hx55 (fun hc56 hx55 => ?_) (fun hc56 hx55 => ?_)))))))
  ·cases hx55
  ·refine AWP.skip ?_
   obtain rfl := oi hx55
   refine b6 (Sub.env ⟨Z, Z, Z, Y⟩)
 ·try dsimp only at h
  refine AWP.q ?_
  obtain ⟨a20, ha20, h⟩ := bind_some h
  refine AWP.u (.j Z Z (.j Z Z (.j Z Z (.callF (r2 := .c (.own 3 0 a20.length)) (σ'' := [.dead, .dead, .dead, .one (vec 1 eU8 a20)]) Z Z Z (FnOk.lend [1] (O2 ha20) Z Z Z Z Z Z (by exact ⟨.vec, Y⟩) Z (by exact ⟨(.live Z .vec), Y⟩) Z Z (by exact ⟨.dead, .dead, .dead, (.new 2 Z Z .vec), Y⟩)) (.z Z Z (.nil (b6 (.ret ?_))))))))
  obtain rfl := oi h
  exact ⟨⟨[(6, .c (.own 3 0 a20.length))], [.dead, .dead, .dead, .one (vec 1 eU8 a20)]⟩, Sub.env ⟨Z, Y⟩, Done.ret Z ⟨Z, Z⟩⟩
theorem aa3 {iv : Int} {base : Int} {l : List Int} {r : (List Int)} (h : u3 iv base l = some r) : FnOk prog 69 [.c (.own 0 0 l.length), .c (int iv), .c (int base)] (aa2 iv base l) (fun tt ss => tt = .c (.own 4 0 r.length) ∧ ss = [.dead, .dead, .dead, .dead, .one (vec 1 eU8 r)]) := by
 refine FnOk.enter (rs := [.t 6]) func69 Z ntmps69 results69 Z ⟨trivial, Y⟩ (by kernel_rfl) Z ?_
 refine AWP.weak ?_
 unfold u3 at h
 refine AWP.j (env' := [(0, .c (.own 1 0 l.length)), (1, .c (int iv)), (2, .c (int base))]) (σ' := [.dead, .one (vec 1 eU8 l)]) 1 0 Z Z Z ⟨Z, Z, Z, Y⟩ Z ⟨trivial, ⟨Blk.im_ok _ _ _, j7 Z⟩, Y⟩ (.q (.u (.z Z Z (.nil (b6 (.q ?_))))))
 obtain ⟨a10, ha10, h⟩ := bind_some h
 refine AWP.u (.j Z Z (.j Z Z (.j Z Z (.callF (r2 := .c (.own 4 0 a10.length)) (σ'' := [.dead, .dead, .dead, .dead, .one (vec 1 eU8 a10)]) Z Z Z (FnOk.lend [1] (P7 ha10) Z Z Z Z Z Z (by exact ⟨.vec, Y⟩) Z (by exact ⟨(.live Z .vec), Y⟩) Z Z (by exact ⟨.dead, .dead, .dead, .dead, (.new 3 Z Z .vec), Y⟩)) (.z Z Z (.nil (b6 (.ret ?_))))))))
 obtain rfl := oi h
 exact ⟨⟨[(6, .c (.own 4 0 a10.length))], [.dead, .dead, .dead, .dead, .one (vec 1 eU8 a10)]⟩, Sub.env ⟨Z, Y⟩, Done.ret Z ⟨Z, Z⟩⟩
theorem W0 {l : List (List Int)} {r : ByteArray} (h : B9 l = some r) : f8 prog 40 [.c (row 1 f7 l)] (.c (.imm (.val (.string r)))) := by
 unfold f8
 refine FnOk.enter (rs := [.t 2]) func40 Z ntmps40 results40 Z ⟨trivial, Y⟩ (by kernel_rfl) Z ?_
 unfold B9 at h
 refine AWP.q (.u (.z Z Z (.nil (b6 (.q (.u (.z Z Z (.nil (b6 (.q (.q (.u (.j Z Z (S.len Z Z (fun hl9 => .j Z Z (.nil (b6 (.aa (.virtV 1 eU8 3 Z Z Z ?_)))))))))))))))))))
 obtain ⟨c2, ho1, h⟩ := bind_some h
 refine AWP.forS ho1 (fun t3 c2 => ⟨[(3, .c (.own 0 0 c2.length)), (8, .c (row 1 f7 l)), (9, .c (int (l.length : Int))), (10, .c (int t3))], [.one (vec 1 eU8 c2)]⟩) (fun c2 e st => e = .exit 0 ∧ Sub [] st ⟨[(3, .c (.own 0 0 c2.length))], [.one (vec 1 eU8 c2)]⟩) ?_ ?_ ?_ ?_
 ·try dsimp only
  exact Sub.env ⟨(Q4 (by first | rfl | simp only [List.length_set])), Z, Z, Z, Y⟩
 ·intro t3 c2 hlot3 hltt3 _
  try dsimp only
  refine AWP.q (.u (.F Z Z Z (.nil (b6 (.q (.ac Z hltt3 (.exit (e9 (e9 ⟨Z, ?_⟩)))))))))
  exact Sub.env ⟨Z, Y⟩
 ·intro t3 c2 o hlot3 hltt3 h
  unfold W2 at h
  try dsimp only at h ⊢
  refine AWP.q (.u (.F Z Z Z (.nil (b6 (.q (.ad Z hltt3 (.skip (b6 (.q (.aa (.q ?_)))))))))))
  obtain ⟨a12, ha12, h⟩ := bind_some h
  refine AWP.u (S.idx ha12 Z Z Z Z (.ab Z Z Z Z (.z Z Z (.nil (b6 (.q (.q (.u (.j Z Z (S.len Z Z (fun hl15 => .j Z Z (.nil (b6 (.aa ?_))))))))))))))
  obtain ⟨c4, ho2, h⟩ := bind_some h
  refine AWP.forS ho2 (fun t5 c4 => ⟨[(3, .c (.own 0 0 c4.length)), (8, .c (row 1 f7 l)), (9, .c (int (l.length : Int))), (10, .c (int t3)), (14, .c (row 1 intI a12)), (15, .c (int (a12.length : Int))), (16, .c (int t5))], [.one (vec 1 eU8 c4)]⟩) (fun c4 e st => e = .exit 2 ∧ Sub [] st ⟨[(3, .c (.own 0 0 c4.length)), (8, .c (row 1 f7 l)), (9, .c (int (l.length : Int))), (10, .c (int t3))], [.one (vec 1 eU8 c4)]⟩) ?_ ?_ ?_ ?_
  ·try dsimp only
   exact Sub.env ⟨Z, Z, Z, Z, Z, Z, Z, Y⟩
  ·intro t5 c4 hlot5 hltt5 _
   try dsimp only
   refine AWP.q (.u (.F Z Z Z (.nil (b6 (.q (.ac Z hltt5 (.exit (e9 (e9 ⟨Z, ?_⟩)))))))))
   exact Sub.env ⟨Z, Z, Z, Z, Y⟩
  ·intro t5 c4 o hlot5 hltt5 h
   unfold V8 at h
   try dsimp only at h ⊢
   refine AWP.q (.u (.F Z Z Z (.nil (b6 (.q (.ad Z hltt5 (.skip (b6 (.q (.aa (.q ?_)))))))))))
   obtain ⟨a18, ha18, h⟩ := bind_some h
   refine AWP.u (S.idx ha18 Z Z Z Z (.ab Z Z Z Z (.z Z Z (.nil (b6 ?_)))))
   obtain ⟨a22, ha22, a24, ha24, h⟩ := b2 h
   refine AWP.u (.j Z Z (.j Z Z (.callF (r2 := .c (.own 4 0 a22.length)) (σ'' := [.dead, .dead, .dead, .dead, .one (vec 1 eU8 a22)]) Z Z Z (FnOk.lend [0] (aa3 ha22) Z Z Z Z Z Z (by exact ⟨.vec, Y⟩) Z (by exact ⟨(.live Z .vec), Y⟩) Z Z (by exact ⟨.dead, .dead, .dead, .dead, (.new 4 Z Z .vec), Y⟩)) (S.lit (f := eU8) (l := [44]) (ess := [[.imm (.val (.int .u8 44))]]) Z Z Z Z Z Z Z ⟨⟨.inl Z, Y⟩, Y⟩ Z Z Z (S.append (f := eU8) ha24 Z Z Z Z Z Z (.own Z Z) Z Z Z Z (.z Z Z (.nil (e6 (b6 (.j (env' := [(3, .c (.own 4 0 a24.length)), (8, .c (row 1 f7 l)), (9, .c (int (l.length : Int))), (10, .c (int t3)), (14, .c (row 1 intI a12)), (15, .c (int (a12.length : Int))), (16, .c (int t5))]) (σ' := [.dead, .dead, .dead, .dead, .one (vec 1 eU8 a24), .one (vec 1 eU8 [44])]) 4 6 Z Z Z ⟨Z, Z, Z, Z, Z, Z, Z, Y⟩ Z ⟨trivial, trivial, trivial, trivial, ⟨Blk.im_ok _ _ _, j7 Z⟩, ⟨Blk.im_ok _ _ _, j7 Z⟩, Y⟩ (.u (.add Z Z Z (by omega) (.j Z Z (.nil ?_))))))))))))))
   obtain rfl := oi h
   refine b6 ((Sub.move (env' := [(3, .c (.own 0 0 a24.length)), (8, .c (row 1 f7 l)), (9, .c (int (l.length : Int))), (10, .c (int t3)), (14, .c (row 1 intI a12)), (15, .c (int (a12.length : Int))), (16, .c (int (t5 + 1)))]) (σ' := [.one (vec 1 eU8 a24), .dead, .dead, .dead, .dead, .one (vec 1 eU8 [44])]) 0 4 Z Z Z ⟨Z, Z, Z, Z, Z, Z, Z, Y⟩ Z ⟨⟨Blk.im_ok _ _ _, j7 Z⟩, trivial, trivial, trivial, trivial, ⟨Blk.im_ok _ _ _, j7 Z⟩, Y⟩).trans (Sub.cut ⟨Z, Z, Z, Z, Z, Z, Z, Y⟩ Z ⟨.vec, Y⟩ Z))
  ·intro e s hq
   obtain ⟨rfl, hs⟩ := hq
   refine ⟨_, hs, ?_⟩
   refine i7 (b6 ?_)
   obtain ⟨a28, ha28, h⟩ := bind_some h
   refine AWP.u (.j Z Z (S.lit (f := eU8) (l := [59]) (ess := [[.imm (.val (.int .u8 59))]]) Z Z Z Z Z Z Z ⟨⟨.inl Z, Y⟩, Y⟩ Z Z Z (S.append (f := eU8) ha28 Z Z Z Z Z Z (.own Z Z) Z Z Z Z (.z Z Z (.nil (e6 (b6 (.j (env' := [(3, .c (.own 0 0 a28.length)), (8, .c (row 1 f7 l)), (9, .c (int (l.length : Int))), (10, .c (int t3))]) (σ' := [.one (vec 1 eU8 a28), .one (vec 1 eU8 [59])]) 0 2 Z Z Z ⟨Z, Z, Z, Z, Y⟩ Z ⟨⟨Blk.im_ok _ _ _, j7 Z⟩, ⟨Blk.im_ok _ _ _, j7 Z⟩, Y⟩ (.u (.add Z Z Z (by omega) (.j Z Z (.nil ?_))))))))))))
   obtain rfl := oi h
   refine b6 (Sub.cut ⟨Z, Z, Z, Z, Y⟩ Z ⟨.vec, Y⟩ Z)
 ·intro e s hq
  obtain ⟨rfl, hs⟩ := hq
  refine ⟨_, hs, ?_⟩
  refine i7 (b6 (.q (.u (.j Z Z (S.bytesStr Z Z Z Z (.z Z Z (.nil (b6 (.ret ?_)))))))))
  obtain rfl := oi h
  exact Done.ret Z Z
theorem ag1 {t : e8} {r : Unit} (h : O7 t = some r) : FnOk prog 41 [.agg (tT t)] (ag4 t) (fun tt ss => tt = .c (.fn 70 [.ptr 0 0 0]) ∧ ss = [.one (.cells 4 [(tT t)])]) := by
 refine FnOk.enter (rs := [.t 2]) func41 Z ntmps41 results41 Z ⟨trivial, Y⟩ (by kernel_rfl) Z ?_
 refine AWP.weak ?_
 unfold O7 at h
 refine AWP.q (.u (W.box Z Z Z Z Z Z (.z Z Z (.nil (b6 (.q (.u (.makeFunc Z Z (.z Z Z (.nil (b6 (.ret ?_))))))))))))
 obtain rfl := oi h
 exact ⟨⟨[(2, .c (.fn 70 [.ptr 0 0 0]))], [.one (.cells 4 [(tT t)])]⟩, Sub.env ⟨Z, Y⟩, Done.ret Z ⟨Z, Z⟩⟩
theorem ae7 {worlds : List (List Int)} {Facts : Int} {Init : List Int} {Goal : List Int} {Operators : List g9} {r : Unit} (h : L4 worlds Facts Init Goal Operators = some r) : FnOk prog 70 [.c (row 1 f7 worlds), .c (.ptr 0 0 0)] (ae9 worlds Facts Init Goal Operators) (fun tt ss => tt = .c (.fn 88 [.ptr 1 0 0, .ptr 2 0 0]) ∧ ss = [.one (.cells 4 [(tF Facts Init Goal Operators)]), .one (.cells 4 [(tF Facts Init Goal Operators)]), .one (.cells 1 [[row 1 f7 worlds]])]) := by
 refine FnOk.enter (rs := [.t 3]) func70 Z ntmps70 results70 Z ⟨trivial, Y⟩ (by kernel_rfl) Z ?_
 refine AWP.weak ?_
 unfold L4 at h
 refine AWP.q (.u (.z Z Z (.nil (b6 (.q ?_)))))
 obtain ⟨a6, ha6, h⟩ := bind_some h
 refine AWP.u (W.loadAgg Z Z Z Z Z Z Z (.j Z Z (.callF (r2 := .c (.fn 88 [.ptr 1 0 0, .ptr 2 0 0])) (σ'' := [.one (.cells 4 [(tF Facts Init Goal Operators)]), .one (.cells 4 [(tF Facts Init Goal Operators)]), .one (.cells 1 [[row 1 f7 worlds]])]) Z Z Z (FnOk.lend [] (ab0 ha6) Z Z Z Z Z Z (by exact trivial) Z (by exact trivial) Z Z (by exact ⟨(.old Z Z Z), (.new 0 Z Z (.one Z)), (.new 1 Z Z (.one Z)), Y⟩)) (.z Z Z (.nil (b6 (.ret ?_)))))))
 obtain rfl := oi h
 exact ⟨⟨[(3, .c (.fn 88 [.ptr 1 0 0, .ptr 2 0 0]))], [.one (.cells 4 [(tF Facts Init Goal Operators)]), .one (.cells 4 [(tF Facts Init Goal Operators)]), .one (.cells 1 [[row 1 f7 worlds]])]⟩, Sub.env ⟨Z, Y⟩, Done.ret Z ⟨Z, Z⟩⟩
theorem aa1 {start : List (List Int)} {Facts : Int} {Init : List Int} {Goal : List Int} {Operators : List g9} {r : (List Int) × Bool × Bool} (h : D4 start Facts Init Goal Operators = some r) : FnOk prog 67 [.c (row 1 f7 start), .c (.fn 40 []), .c (.fn 70 [.ptr 0 0 0]), .c (.fn 68 [])] (B1 start Facts Init Goal Operators) (fun tt ss => tt = .tup [.c (row 1 intI r.1), .c (bool r.2.1), .c (bool r.2.2)] ∧ ss = [.one (.cells 4 [(tF Facts Init Goal Operators)]), .dead, .one (.cells 1 [[row 1 intI r.1]]), .one (.cells 1 [[bool r.2.1]]), .one (.cells 1 [[bool r.2.2]])]) := by
 refine FnOk.enter (rs := [.one 8 22, .one 9 4, .one 10 4]) func67 Z ntmps67 results67 Z ⟨rv1 _ Z, rv1 _ Z, rv1 _ Z, Y⟩ (by kernel_rfl) Z ?_
 refine AWP.weak ?_
 unfold D4 at h
 refine AWP.q (.u (W.box Z Z Z Z Z Z (W.alloc Z Z Z Z (W.alloc Z Z Z Z (W.alloc Z Z Z Z (.nil (b6 (.q (.u (.j Z Z (W.build Z Z Z Z (S.lit (f := g8) (l := [(⟨start, -1, 0⟩ : g7)]) (ess := [[row 1 f7 start, int (-1), int 0]]) Z Z Z Z Z Z Z ⟨⟨.inl Z, .inl Z, .inl Z, Y⟩, Y⟩ Z Z Z (W.alloc Z Z Z Z (W.store Z Z Z Z Z (.nil (b6 (.q ?_)))))))))))))))))
 obtain ⟨a25, ha25, h⟩ := bind_some h
 refine AWP.u (W.makeMap Value.string vI Z Z Z (.E Z Z Z Z Z Z (.j Z Z (.O Z Z Z Z (W0 ha25) Z (W.insert (fk := Value.string) (fv := vI) (k := a25) (a := 1) keyStr Z Z Z Z Z (.j Z Z (W.alloc Z Z Z Z (W.store Z Z Z Z Z (.nil (b6 (.q (.q (.u (W.alloc Z Z Z Z (W.store Z Z Z Z Z (.nil (b6 (.aa ?_))))))))))))))))))
 obtain ⟨oo, ho1, h⟩ := bind_some h
 refine AWP.loopS ho1 (fun (c59, c60, c61) => ⟨[(2, .c (.fn 70 [.ptr 0 0 0])), (3, .c (.fn 68 [])), (5, .c (.ptr 1 0 0)), (8, .c (.ptr 2 0 0)), (9, .c (.ptr 3 0 0)), (10, .c (.ptr 4 0 0)), (11, .c (.ptr 6 0 0)), (12, .c (.ptr 8 0 0)), (13, .c (.ptr 9 0 0))], [.one (.cells 4 [(tF Facts Init Goal Operators)]), .one (.cells 1 [[.fn 40 []]]), .one (.cells 1 [[.imm (.val nL)]]), .one (.cells 1 [[bool false]]), .one (.cells 1 [[bool false]]), .one (vec 3 g8 c59), .one (.cells 1 [[.own 5 0 c59.length]]), .one (mapB Value.string vI c60), .one (.cells 1 [[.map 7]]), .one (.cells 1 [[int c61]])]⟩) (fun o e st => match o with | .inl _ => e = .exit 0 ∧ Sub (B1 start Facts Init Goal Operators) st ⟨[(8, .c (.ptr 2 0 0)), (9, .c (.ptr 3 0 0)), (10, .c (.ptr 4 0 0))], [.one (.cells 4 [(tF Facts Init Goal Operators)]), .dead, .one (.cells 1 [[.imm (.val nL)]]), .one (.cells 1 [[bool false]]), .one (.cells 1 [[bool false]])]⟩ | .inr x => e = .ret ∧ ∃ J, Sub (B1 start Facts Init Goal Operators) st J ∧ Done [.one 8 22, .one 9 4, .one 10 4] (fun tt ss => tt = .tup [.c (row 1 intI x.1), .c (bool x.2.1), .c (bool x.2.2)] ∧ ss = [.one (.cells 4 [(tF Facts Init Goal Operators)]), .dead, .one (.cells 1 [[row 1 intI x.1]]), .one (.cells 1 [[bool x.2.1]]), .one (.cells 1 [[bool x.2.2]])]) .ret J) ?_ ?_ ?_
 ·try dsimp only
  exact Sub.env ⟨Z, Z, Z, Z, Z, Z, Z, Z, Z, Y⟩
 ·intro s o h
  obtain ⟨c59, c60, c61⟩ := s
  unfold B0 at h
  try dsimp only at h ⊢
  refine AWP.q (.q (.u (.E Z Z Z Z Z Z (.E Z Z Z Z Z Z (S.lenO Z Z Z (fun hl29 => .F Z Z Z (.nil (b6 (.ite Z h (fun hc62 h => ?_) (fun hc62 h => ?_))))))))))
  ·refine AWP.skip (b6 (.q (.aa (.q (.q ?_)))))
   obtain ⟨a36, ha36, a39, ha39, h⟩ := b2 h
   refine AWP.u (.j Z Z (.E Z Z Z Z Z Z (.E Z Z Z Z Z Z (S.idxO ha36 Z Z Z Z Z (W.fieldAddr Z Z Z Z (S.loadO ha36 Z Z Z Z Z (.O Z Z Z Z (ab4 ha39) Z (.nil (b6 (.af Z h (fun hc63 h => ?_) (fun hc63 h => ?_)))))))))))
   ·refine AWP.q (.u (.z Z Z (.nil (b6 (.q (.q (.u (.E Z Z Z Z Z Z (.z Z Z (.nil (b6 (.aa (.virtV 1 intI 14 Z Z Z ?_)))))))))))))
    obtain ⟨c66, ho2, h⟩ := bind_some h
    refine AWP.loopS ho2 (fun (c64, iv65) => ⟨[(8, .c (.ptr 2 0 0)), (9, .c (.ptr 3 0 0)), (10, .c (.ptr 4 0 0)), (11, .c (.ptr 6 0 0)), (14, .c (.own 10 0 c64.length)), (15, .c (int iv65))], [.one (.cells 4 [(tF Facts Init Goal Operators)]), .dead, .one (.cells 1 [[.imm (.val nL)]]), .one (.cells 1 [[bool false]]), .one (.cells 1 [[bool false]]), .one (vec 3 g8 c59), .one (.cells 1 [[.own 5 0 c59.length]]), .dead, .dead, .dead, .one (vec 1 intI c64)]⟩) (fun c66 e st => e = .exit 2 ∧ Sub (B1 start Facts Init Goal Operators) st ⟨[(8, .c (.ptr 2 0 0)), (9, .c (.ptr 3 0 0)), (10, .c (.ptr 4 0 0)), (14, .c (.own 10 0 c66.length))], [.one (.cells 4 [(tF Facts Init Goal Operators)]), .dead, .one (.cells 1 [[.imm (.val nL)]]), .one (.cells 1 [[bool false]]), .one (.cells 1 [[bool false]]), .dead, .dead, .dead, .dead, .dead, .one (vec 1 intI c66)]⟩) ?_ ?_ ?_
    ·try dsimp only
     exact Sub.cut ⟨Z, Z, Z, Z, (Q4 (by first | rfl | simp only [List.length_set])), Z, Y⟩ Z ⟨.one Z, .dead, .one Z, .one Z, .one Z, .vec, .one Z, .dead, .dead, .dead, .vec, Y⟩ Z
    ·intro s o h
     obtain ⟨c64, iv65⟩ := s
     unfold N6 at h
     try dsimp only at h ⊢
     refine AWP.q (.q ?_)
     obtain ⟨a43, ha43, h⟩ := bind_some h
     refine AWP.u (.E Z Z Z Z Z Z (.j Z Z (S.idxO ha43 Z Z Z Z Z (W.fieldAddr Z Z Z Z (S.loadO ha43 Z Z Z Z Z (.geq Z Z Z (.nil (b6 (.ite Z h (fun hc67 h => ?_) (fun hc67 h => ?_))))))))))
     ·refine AWP.skip (b6 (.q (.aa ?_)))
      obtain ⟨a55, ha55, a59, ha59, h⟩ := b2 h
      refine AWP.u (.j Z Z (.E Z Z Z Z Z Z (.j Z Z (S.idxO ha55 Z Z Z Z Z (W.fieldAddr Z Z Z Z (S.loadO ha55 Z Z Z Z Z (S.lit (f := intI) (l := [a55.step]) (ess := [[int a55.step]]) Z Z Z Z Z Z Z ⟨⟨.inl Z, Y⟩, Y⟩ Z Z Z (S.append (f := intI) ha59 Z Z Z Z Z Z (.own Z Z) Z Z Z Z (.z Z Z (.nil (e6 (b6 (.j (env' := [(8, .c (.ptr 2 0 0)), (9, .c (.ptr 3 0 0)), (10, .c (.ptr 4 0 0)), (11, .c (.ptr 6 0 0)), (14, .c (.own 10 0 a59.length)), (15, .c (int iv65))]) (σ' := [.one (.cells 4 [(tF Facts Init Goal Operators)]), .dead, .one (.cells 1 [[.imm (.val nL)]]), .one (.cells 1 [[bool false]]), .one (.cells 1 [[bool false]]), .one (vec 3 g8 c59), .one (.cells 1 [[.own 5 0 c59.length]]), .dead, .dead, .dead, .one (vec 1 intI a59), .one (vec 1 intI [a55.step])]) 10 12 Z Z Z ⟨Z, Z, Z, Z, Z, Z, Y⟩ Z ⟨⟨Z, Z⟩, trivial, ⟨Z, Z⟩, ⟨Z, Z⟩, ⟨Z, Z⟩, ⟨Blk.im_ok _ _ _, j7 Z⟩, ⟨Z, Z⟩, trivial, trivial, trivial, ⟨Blk.im_ok _ _ _, j7 Z⟩, ⟨Blk.im_ok _ _ _, j7 Z⟩, Y⟩ ?_)))))))))))))
      obtain ⟨a49, ha49, h⟩ := bind_some h
      refine AWP.u (.E Z Z Z Z Z Z (.j Z Z (S.idxO ha49 Z Z Z Z Z (W.fieldAddr Z Z Z Z (S.loadO ha49 Z Z Z Z Z (.z Z Z (.nil ?_)))))))
      obtain rfl := oi h
      refine b6 ⟨_, Z, ?_⟩
      exact Sub.cut ⟨Z, Z, Z, Z, Z, Z, Y⟩ Z ⟨.one Z, .dead, .one Z, .one Z, .one Z, .vec, .one Z, .dead, .dead, .dead, .vec, Y⟩ Z
     ·refine AWP.exit (e9 ?_)
      obtain rfl := oi h
      refine e9 ⟨_, Z, Z, ?_⟩
      exact Sub.cut ⟨Z, Z, Z, Z, Y⟩ Z ⟨.one Z, .dead, .one Z, .one Z, .one Z, .dead, .dead, .dead, .dead, .dead, .vec, Y⟩ Z
    ·intro e s hq
     obtain ⟨rfl, hs⟩ := hq
     refine ⟨_, hs, ?_⟩
     refine i7 (b6 (.q (.u (.j Z Z (S.rev revL_ok Z Z Z Z Z Z (.nil (b6 (.q (.u (.j Z Z (W.store Z Z Z Z Z (W.store Z Z Z Z Z (W.store Z Z Z Z Z (.nil (b6 (.frzV (id := 10) (l := c66.reverse) (env2 := [(8, .c (.ptr 2 0 0)), (9, .c (.ptr 3 0 0)), (10, .c (.ptr 4 0 0))]) (σ2 := [.one (.cells 4 [(tF Facts Init Goal Operators)]), .dead, .one (.cells 1 [[row 1 intI c66.reverse]]), .one (.cells 1 [[bool true]]), .one (.cells 1 [[bool true]]), .dead, .dead, .dead, .dead, .dead, .dead]) Z Z (by exact ⟨⟨_, Z, .inl ⟨Z, Z⟩⟩, ⟨_, Z, .inl ⟨Z, Z⟩⟩, ⟨_, Z, .inl ⟨Z, Z⟩⟩, Y⟩) Z (by exact ⟨⟨Z, .inl ⟨Z, Z⟩, .inl ⟨Z, Z⟩, .inl ⟨Z, Z⟩, .inl ⟨Z, Z⟩, Y⟩, trivial, ⟨Z, .inr ⟨_, Z, List.length_reverse.symm, Z⟩, Y⟩, ⟨Z, .inl ⟨Z, Z⟩, Y⟩, ⟨Z, .inl ⟨Z, Z⟩, Y⟩, trivial, trivial, trivial, trivial, trivial, trivial, Y⟩) (.ret (f5 (i8 (f5 ?_))))))))))))))))))))
     obtain rfl := oi h
     refine f5 ⟨_, Z, Z, ?_⟩
     exact ⟨⟨[(8, .c (.ptr 2 0 0)), (9, .c (.ptr 3 0 0)), (10, .c (.ptr 4 0 0))], [.one (.cells 4 [(tF Facts Init Goal Operators)]), .dead, .one (.cells 1 [[row 1 intI c66.reverse]]), .one (.cells 1 [[bool true]]), .one (.cells 1 [[bool true]])]⟩, Sub.cut ⟨Z, Z, Z, Y⟩ Z ⟨.one Z, .dead, .one Z, .one Z, .one Z, Y⟩ Z, Done.ret Z ⟨Z, Z⟩⟩
   ·refine AWP.skip (b6 (.q ?_))
    obtain ⟨a66, ha66, a69, ha69, h⟩ := b2 h
    refine AWP.u (.j Z Z (.E Z Z Z Z Z Z (.E Z Z Z Z Z Z (S.idxO ha66 Z Z Z Z Z (W.fieldAddr Z Z Z Z (S.loadO ha66 Z Z Z Z Z (.callF (r2 := .c (.fn 88 [.ptr 10 0 0, .ptr 11 0 0])) (σ'' := [.one (.cells 4 [(tF Facts Init Goal Operators)]), .one (.cells 1 [[.fn 40 []]]), .one (.cells 1 [[.imm (.val nL)]]), .one (.cells 1 [[bool false]]), .one (.cells 1 [[bool false]]), .one (vec 3 g8 c59), .one (.cells 1 [[.own 5 0 c59.length]]), .one (mapB Value.string vI c60), .one (.cells 1 [[.map 7]]), .one (.cells 1 [[int c61]]), .one (.cells 4 [(tF Facts Init Goal Operators)]), .one (.cells 1 [[row 1 f7 a66.node]])]) Z Z Z (FnOk.lend [0] (ae7 ha69) Z Z Z Z Z Z (by exact ⟨(.one Z), Y⟩) Z (by exact ⟨(.live Z (.one Z)), Y⟩) Z Z (by exact ⟨(.new 0 Z Z (.one Z)), (.old Z Z Z), (.old Z Z Z), (.old Z Z Z), (.old Z Z Z), (.old Z Z Z), (.old Z Z Z), (.old Z Z Z), (.old Z Z Z), (.old Z Z Z), (.new 1 Z Z (.one Z)), (.new 2 Z Z (.one Z)), Y⟩)) (.nil (b6 (.aa ?_))))))))))
    obtain ⟨xr68, hr68, h⟩ := bind_some h
    refine AWP.rangeB [(5, none), (8, none), (9, none), (10, none), (11, none), (12, none), (13, none)] Z Z Z (fun as68 bo68 hA68 hB68 => ⟨[.one (.cells 4 [(tF Facts Init Goal Operators)]), .one (.cells 1 [[.fn 40 []]]), .one (.cells 1 [[.imm (.val nL)]]), .one (.cells 1 [[bool false]]), .one (.cells 1 [[bool false]]), .one (vec 3 g8 c59), .one (.cells 1 [[.own 5 0 c59.length]]), .one (mapB Value.string vI c60), .one (.cells 1 [[.map 7]]), .one (.cells 1 [[int c61]]), .one (.cells 4 [(tF Facts Init Goal Operators)]), .one (.cells 1 [[row 1 f7 a66.node]]), .one (k9 92 [70, 71] as68 bo68 .ready none [(5, none), (8, none), (9, none), (10, none), (11, none), (12, none), (13, none)] [.ptr 1 0 0, .ptr 2 0 0, .ptr 3 0 0, .ptr 4 0 0, .ptr 6 0 0, .ptr 8 0 0, .ptr 9 0 0])], fun tt ss => (∃ v : (List (ByteArray × Int)) × (List g7), xr68 = .inl v ∧ tt = .tup [] ∧ ss = [.one (.cells 4 [(tF Facts Init Goal Operators)]), .one (.cells 1 [[.fn 40 []]]), .one (.cells 1 [[.imm (.val nL)]]), .one (.cells 1 [[bool false]]), .one (.cells 1 [[bool false]]), .dead, .one (.cells 1 [[.own 13 0 v.2.length]]), .one (mapB Value.string vI v.1), .one (.cells 1 [[.map 7]]), .one (.cells 1 [[int c61]]), .one (.cells 4 [(tF Facts Init Goal Operators)]), .one (.cells 1 [[row 1 f7 a66.node]]), .one (k9 92 [70, 71] as68 bo68 .ready none [(5, none), (8, none), (9, none), (10, none), (11, none), (12, none), (13, none)] [.ptr 1 0 0, .ptr 2 0 0, .ptr 3 0 0, .ptr 4 0 0, .ptr 6 0 0, .ptr 8 0 0, .ptr 9 0 0]), .one (vec 3 g8 v.2)]) ∨ (∃ v : (List (ByteArray × Int)) × (List g7), xr68 = .inr v ∧ tt = .tup [] ∧ ss = [.one (.cells 4 [(tF Facts Init Goal Operators)]), .one (.cells 1 [[.fn 40 []]]), .one (.cells 1 [[.imm (.val nL)]]), .one (.cells 1 [[bool false]]), .one (.cells 1 [[bool false]]), .dead, .one (.cells 1 [[.own 13 0 v.2.length]]), .one (mapB Value.string vI v.1), .one (.cells 1 [[.map 7]]), .one (.cells 1 [[int c61]]), .one (.cells 4 [(tF Facts Init Goal Operators)]), .one (.cells 1 [[row 1 f7 a66.node]]), .one (k9 92 [70, 71] as68 bo68 .done (some .ret) [(5, none), (8, none), (9, none), (10, none), (11, none), (12, none), (13, none)] [.ptr 1 0 0, .ptr 2 0 0, .ptr 3 0 0, .ptr 4 0 0, .ptr 6 0 0, .ptr 8 0 0, .ptr 9 0 0]), .one (vec 3 g8 v.2)]), Z, ?_, ?_⟩)
    ·clear h
     refine FnOk.enter (rs := []) func88 Z ntmps88 results88 Z trivial (by kernel_rfl) Z ?_
     refine AWP.weak ?_
     unfold u4 at hr68
     try dsimp only at hr68
     refine AWP.j (env' := [(0, .c (.yld 12)), (1, .c (.ptr 10 0 0)), (2, .c (.ptr 11 0 0))]) (σ' := [.one (.cells 4 [(tF Facts Init Goal Operators)]), .one (.cells 1 [[.fn 40 []]]), .one (.cells 1 [[.imm (.val nL)]]), .one (.cells 1 [[bool false]]), .one (.cells 1 [[bool false]]), .dead, .one (.cells 1 [[.own 13 0 c59.length]]), .one (mapB Value.string vI c60), .one (.cells 1 [[.map 7]]), .one (.cells 1 [[int c61]]), .one (.cells 4 [(tF Facts Init Goal Operators)]), .one (.cells 1 [[row 1 f7 a66.node]]), .one (k9 92 [70, 71] as68 bo68 .ready none [(5, none), (8, none), (9, none), (10, none), (11, none), (12, none), (13, none)] [.ptr 1 0 0, .ptr 2 0 0, .ptr 3 0 0, .ptr 4 0 0, .ptr 6 0 0, .ptr 8 0 0, .ptr 9 0 0]), .one (vec 3 g8 c59)]) 13 5 Z Z Z ⟨Z, Z, Z, Y⟩ Z ⟨⟨Z, Z⟩, ⟨Z, Z⟩, ⟨Z, Z⟩, ⟨Z, Z⟩, ⟨Z, Z⟩, trivial, ⟨Z, Z⟩, ⟨Z, Z⟩, ⟨Z, Z⟩, ⟨Z, Z⟩, ⟨Z, Z⟩, ⟨Z, Z⟩, ⟨Z, Z⟩, ⟨Blk.im_ok _ _ _, j7 Z⟩, Y⟩ (.q (.u (W.fieldAddr Z Z Z Z (.E Z Z Z Z Z Z (S.len Z Z (fun hl8 => .j Z Z (.nil (b6 (.aa ?_)))))))))
     obtain ⟨oo, ho3, hr68⟩ := bind_some hr68
     refine AWP.rngS ho3 (fun t75 (c73, c74) => ⟨[(0, .c (.yld 12)), (1, .c (.ptr 10 0 0)), (2, .c (.ptr 11 0 0)), (7, .c (row 4 n4 Operators)), (8, .c (int (Operators.length : Int))), (9, .c (int t75))], [.one (.cells 4 [(tF Facts Init Goal Operators)]), .one (.cells 1 [[.fn 40 []]]), .one (.cells 1 [[.imm (.val nL)]]), .one (.cells 1 [[bool false]]), .one (.cells 1 [[bool false]]), .dead, .one (.cells 1 [[.own 13 0 c74.length]]), .one (mapB Value.string vI c73), .one (.cells 1 [[.map 7]]), .one (.cells 1 [[int c61]]), .one (.cells 4 [(tF Facts Init Goal Operators)]), .one (.cells 1 [[row 1 f7 a66.node]]), .one (k9 92 [70, 71] as68 bo68 .ready none [(5, none), (8, none), (9, none), (10, none), (11, none), (12, none), (13, none)] [.ptr 1 0 0, .ptr 2 0 0, .ptr 3 0 0, .ptr 4 0 0, .ptr 6 0 0, .ptr 8 0 0, .ptr 9 0 0]), .one (vec 3 g8 c74)]⟩) (fun o e st => match o with | .inl (c73, c74) => e = .exit 0 ∧ Sub ([.one (.cells 4 [(tF Facts Init Goal Operators)]), .one (.cells 1 [[.fn 40 []]]), .one (.cells 1 [[.imm (.val nL)]]), .one (.cells 1 [[bool false]]), .one (.cells 1 [[bool false]]), .one (vec 3 g8 c59), .one (.cells 1 [[.own 5 0 c59.length]]), .one (mapB Value.string vI c60), .one (.cells 1 [[.map 7]]), .one (.cells 1 [[int c61]]), .one (.cells 4 [(tF Facts Init Goal Operators)]), .one (.cells 1 [[row 1 f7 a66.node]]), .one (k9 92 [70, 71] as68 bo68 .ready none [(5, none), (8, none), (9, none), (10, none), (11, none), (12, none), (13, none)] [.ptr 1 0 0, .ptr 2 0 0, .ptr 3 0 0, .ptr 4 0 0, .ptr 6 0 0, .ptr 8 0 0, .ptr 9 0 0])] : b7) st ⟨[], [.one (.cells 4 [(tF Facts Init Goal Operators)]), .one (.cells 1 [[.fn 40 []]]), .one (.cells 1 [[.imm (.val nL)]]), .one (.cells 1 [[bool false]]), .one (.cells 1 [[bool false]]), .dead, .one (.cells 1 [[.own 13 0 c74.length]]), .one (mapB Value.string vI c73), .one (.cells 1 [[.map 7]]), .one (.cells 1 [[int c61]]), .one (.cells 4 [(tF Facts Init Goal Operators)]), .one (.cells 1 [[row 1 f7 a66.node]]), .one (k9 92 [70, 71] as68 bo68 .ready none [(5, none), (8, none), (9, none), (10, none), (11, none), (12, none), (13, none)] [.ptr 1 0 0, .ptr 2 0 0, .ptr 3 0 0, .ptr 4 0 0, .ptr 6 0 0, .ptr 8 0 0, .ptr 9 0 0]), .one (vec 3 g8 c74)]⟩ | .inr x => e = .ret ∧ ∃ J, Sub ([.one (.cells 4 [(tF Facts Init Goal Operators)]), .one (.cells 1 [[.fn 40 []]]), .one (.cells 1 [[.imm (.val nL)]]), .one (.cells 1 [[bool false]]), .one (.cells 1 [[bool false]]), .one (vec 3 g8 c59), .one (.cells 1 [[.own 5 0 c59.length]]), .one (mapB Value.string vI c60), .one (.cells 1 [[.map 7]]), .one (.cells 1 [[int c61]]), .one (.cells 4 [(tF Facts Init Goal Operators)]), .one (.cells 1 [[row 1 f7 a66.node]]), .one (k9 92 [70, 71] as68 bo68 .ready none [(5, none), (8, none), (9, none), (10, none), (11, none), (12, none), (13, none)] [.ptr 1 0 0, .ptr 2 0 0, .ptr 3 0 0, .ptr 4 0 0, .ptr 6 0 0, .ptr 8 0 0, .ptr 9 0 0])] : b7) st J ∧ Done [] (fun tt ss => (∃ v : (List (ByteArray × Int)) × (List g7), x = .inl v ∧ tt = .tup [] ∧ ss = [.one (.cells 4 [(tF Facts Init Goal Operators)]), .one (.cells 1 [[.fn 40 []]]), .one (.cells 1 [[.imm (.val nL)]]), .one (.cells 1 [[bool false]]), .one (.cells 1 [[bool false]]), .dead, .one (.cells 1 [[.own 13 0 v.2.length]]), .one (mapB Value.string vI v.1), .one (.cells 1 [[.map 7]]), .one (.cells 1 [[int c61]]), .one (.cells 4 [(tF Facts Init Goal Operators)]), .one (.cells 1 [[row 1 f7 a66.node]]), .one (k9 92 [70, 71] as68 bo68 .ready none [(5, none), (8, none), (9, none), (10, none), (11, none), (12, none), (13, none)] [.ptr 1 0 0, .ptr 2 0 0, .ptr 3 0 0, .ptr 4 0 0, .ptr 6 0 0, .ptr 8 0 0, .ptr 9 0 0]), .one (vec 3 g8 v.2)]) ∨ (∃ v : (List (ByteArray × Int)) × (List g7), x = .inr v ∧ tt = .tup [] ∧ ss = [.one (.cells 4 [(tF Facts Init Goal Operators)]), .one (.cells 1 [[.fn 40 []]]), .one (.cells 1 [[.imm (.val nL)]]), .one (.cells 1 [[bool false]]), .one (.cells 1 [[bool false]]), .dead, .one (.cells 1 [[.own 13 0 v.2.length]]), .one (mapB Value.string vI v.1), .one (.cells 1 [[.map 7]]), .one (.cells 1 [[int c61]]), .one (.cells 4 [(tF Facts Init Goal Operators)]), .one (.cells 1 [[row 1 f7 a66.node]]), .one (k9 92 [70, 71] as68 bo68 .done (some .ret) [(5, none), (8, none), (9, none), (10, none), (11, none), (12, none), (13, none)] [.ptr 1 0 0, .ptr 2 0 0, .ptr 3 0 0, .ptr 4 0 0, .ptr 6 0 0, .ptr 8 0 0, .ptr 9 0 0]), .one (vec 3 g8 v.2)])) .ret J) ?_ ?_ ?_ ?_
     ·try dsimp only
      exact Sub.env ⟨Z, Z, Z, Z, Z, Z, Y⟩
     ·intro t75 s hlot75 hltt75 _
      obtain ⟨c73, c74⟩ := s
      try dsimp only
      refine AWP.q (.u (.F Z Z Z (.nil (b6 (.q (.ac Z hltt75 (.exit (e9 (e9 ⟨Z, ?_⟩)))))))))
      exact Sub.env trivial
     ·intro t75 s o hlot75 hltt75 h
      obtain ⟨c73, c74⟩ := s
      unfold A7 at h
      try dsimp only at h ⊢
      refine AWP.q (.u (.F Z Z Z (.nil (b6 (.q (.ad Z hltt75 (.skip (b6 (.q (.aa (.q ?_)))))))))))
      obtain ⟨ai12, hai12, h⟩ := bind_some h
      refine AWP.u (.j Z Z (S.idx hai12 Z Z Z Z (W.loadIAgg Z Z Z Z Z (W.alloc Z Z Z Z (.z Z Z (W.storeAgg Z Z Z Z Z Z Z (.nil (b6 (.q ?_)))))))))
      obtain ⟨ai17, hai17, h⟩ := bind_some h
      rcases bft (ai17) with hb76 | hb76
      ·replace h := K9 hb76 h
       obtain ⟨ai24, hai24, h⟩ := bind_some h
       refine AWP.u (.E Z Z Z Z Z Z (W.fieldAddr Z Z Z Z (.E Z Z Z Z Z Z (.O Z Z Z Z (ab3 hai17) Z (.j Z Z (.v Z Z Z hb76 (.j Z Z (.v Z Z Z hb76 (.j Z Z (.v Z Z Z hb76 (W.loadAgg Z Z Z Z Z Z Z (.v Z Z Z hb76 (.E Z Z Z Z Z Z (.v Z Z Z hb76 (.j Z Z (.v Z Z Z hb76 (S.fresh Z Z Z Z (belief_After_ok hai24) Z Z (.frzV (id := 15) (l := ai24) (env2 := [(0, .c (.yld 12)), (1, .c (.ptr 10 0 0)), (2, .c (.ptr 11 0 0)), (7, .c (row 4 n4 Operators)), (8, .c (int (Operators.length : Int))), (9, .c (int t75)), (18, .c (bool ai17)), (19, .c (.yld 12)), (20, .c (int t75)), (24, .c (row 1 f7 ai24))]) (σ2 := [.one (.cells 4 [(tF Facts Init Goal Operators)]), .one (.cells 1 [[.fn 40 []]]), .one (.cells 1 [[.imm (.val nL)]]), .one (.cells 1 [[bool false]]), .one (.cells 1 [[bool false]]), .dead, .one (.cells 1 [[.own 13 0 c74.length]]), .one (mapB Value.string vI c73), .one (.cells 1 [[.map 7]]), .one (.cells 1 [[int c61]]), .one (.cells 4 [(tF Facts Init Goal Operators)]), .one (.cells 1 [[row 1 f7 a66.node]]), .one (k9 92 [70, 71] as68 bo68 .ready none [(5, none), (8, none), (9, none), (10, none), (11, none), (12, none), (13, none)] [.ptr 1 0 0, .ptr 2 0 0, .ptr 3 0 0, .ptr 4 0 0, .ptr 6 0 0, .ptr 8 0 0, .ptr 9 0 0]), .one (vec 3 g8 c74), .one (.cells 4 [[row 1 intI ai12.pre, row 1 intI ai12.add, row 1 intI ai12.del, int ai12.cost]]), .dead]) Z Z (by exact ⟨⟨_, Z, .inl ⟨Z, Z⟩⟩, ⟨_, Z, .inl ⟨Z, Z⟩⟩, ⟨_, Z, .inl ⟨Z, Z⟩⟩, ⟨_, Z, .inl ⟨Z, Z⟩⟩, ⟨_, Z, .inl ⟨Z, Z⟩⟩, ⟨_, Z, .inl ⟨Z, Z⟩⟩, ⟨_, Z, .inl ⟨Z, Z⟩⟩, ⟨_, Z, .inl ⟨Z, Z⟩⟩, ⟨_, Z, .inl ⟨Z, Z⟩⟩, ⟨_, Z, .inr ⟨_, Z, Z, Z⟩⟩, Y⟩) Z (by exact ⟨⟨Z, .inl ⟨Z, Z⟩, .inl ⟨Z, Z⟩, .inl ⟨Z, Z⟩, .inl ⟨Z, Z⟩, Y⟩, ⟨Z, .inl ⟨Z, Z⟩, Y⟩, ⟨Z, .inl ⟨Z, Z⟩, Y⟩, ⟨Z, .inl ⟨Z, Z⟩, Y⟩, ⟨Z, .inl ⟨Z, Z⟩, Y⟩, trivial, ⟨Z, .inl ⟨Z, Z⟩, Y⟩, ⟨Z, Z⟩, ⟨Z, .inl ⟨Z, Z⟩, Y⟩, ⟨Z, .inl ⟨Z, Z⟩, Y⟩, ⟨Z, .inl ⟨Z, Z⟩, .inl ⟨Z, Z⟩, .inl ⟨Z, Z⟩, .inl ⟨Z, Z⟩, Y⟩, ⟨Z, .inl ⟨Z, Z⟩, Y⟩, ⟨Z, Z⟩, FrzB.vec, ⟨Z, .inl ⟨Z, Z⟩, .inl ⟨Z, Z⟩, .inl ⟨Z, Z⟩, .inl ⟨Z, Z⟩, Y⟩, trivial, Y⟩) ?_))))))))))))))))))
       refine AOps.v Z Z Z hb76 ?_; refine AOps.yieldB (E1 := [(17, .c (row 1 f7 ai24)), (16, .c (int t75)), (71, .c (row 1 f7 ai24)), (70, .c (int t75)), (5, .c (.ptr 1 0 0)), (8, .c (.ptr 2 0 0)), (9, .c (.ptr 3 0 0)), (10, .c (.ptr 4 0 0)), (11, .c (.ptr 6 0 0)), (12, .c (.ptr 8 0 0)), (13, .c (.ptr 9 0 0))]) (σ1 := [.one (.cells 4 [(tF Facts Init Goal Operators)]), .one (.cells 1 [[.fn 40 []]]), .one (.cells 1 [[.imm (.val nL)]]), .one (.cells 1 [[bool false]]), .one (.cells 1 [[bool false]]), .dead, .one (.cells 1 [[.own 13 0 c74.length]]), .one (mapB Value.string vI c73), .one (.cells 1 [[.map 7]]), .one (.cells 1 [[int c61]]), .one (.cells 4 [(tF Facts Init Goal Operators)]), .one (.cells 1 [[row 1 f7 a66.node]]), .one (k9 92 [70, 71] as68 bo68 .ready none [(5, none), (8, none), (9, none), (10, none), (11, none), (12, none), (13, none)] [.ptr 1 0 0, .ptr 2 0 0, .ptr 3 0 0, .ptr 4 0 0, .ptr 6 0 0, .ptr 8 0 0, .ptr 9 0 0]), .one (vec 3 g8 c74), .one (.cells 4 [[row 1 intI ai12.pre, row 1 intI ai12.add, row 1 intI ai12.del, int ai12.cost]]), .dead]) hA68 hB68 Z Z Z Z Z Z Z Z Z Z ?_ ?_
       ·refine AWP.q (.u (.z Z Z (.nil (b6 (.u (.z Z Z (.nil ?_)))))))
        exact ⟨Z, Z⟩
       refine AWP.sub (s' := ⟨[(5, .c (.ptr 1 0 0)), (8, .c (.ptr 2 0 0)), (9, .c (.ptr 3 0 0)), (10, .c (.ptr 4 0 0)), (11, .c (.ptr 6 0 0)), (12, .c (.ptr 8 0 0)), (13, .c (.ptr 9 0 0)), (16, .c (int t75)), (17, .c (row 1 f7 ai24))], [.one (.cells 4 [(tF Facts Init Goal Operators)]), .one (.cells 1 [[.fn 40 []]]), .one (.cells 1 [[.imm (.val nL)]]), .one (.cells 1 [[bool false]]), .one (.cells 1 [[bool false]]), .dead, .one (.cells 1 [[.own 13 0 c74.length]]), .one (mapB Value.string vI c73), .one (.cells 1 [[.map 7]]), .one (.cells 1 [[int c61]]), .one (.cells 4 [(tF Facts Init Goal Operators)]), .one (.cells 1 [[row 1 f7 a66.node]]), .one (k9 92 [70, 71] as68 bo68 .busy none [(5, none), (8, none), (9, none), (10, none), (11, none), (12, none), (13, none)] [.ptr 1 0 0, .ptr 2 0 0, .ptr 3 0 0, .ptr 4 0 0, .ptr 6 0 0, .ptr 8 0 0, .ptr 9 0 0]), .one (vec 3 g8 c74), .one (.cells 4 [[row 1 intI ai12.pre, row 1 intI ai12.add, row 1 intI ai12.del, int ai12.cost]]), .dead]⟩) (Sub.env ⟨Z, Z, Z, Z, Z, Z, Z, Z, Z, Y⟩) (.aa (.q ?_))
       obtain ⟨ab74, hab74, h⟩ := bind_some h
       refine AWP.u (.E Z Z Z Z Z Z (.j Z Z (.O Z Z Z Z (W0 hab74) Z (.z Z Z (.nil (b6 (.q (.q (.u (.E Z Z Z Z Z Z (.j Z Z (W.lookup (fk := Value.string) (fv := vI) (k := ab74) (z := 0) keyStr Z (fun _ => Z) Z Z Z Z ?_))))))))))))
       refine AOps.gtr Z Z Z (.nil (b6 (.ite Z h (fun hc77 h => ?_) (fun hc77 h => ?_))))
       ·refine AWP.exit (e9 (i7 (R3 Z Z (.v Z Z Z hb76 (.not Z Z (.J Z hb76 Z Z (.nil (b6 (.condF Z (.skip (e6 (b6 (.u (.add Z Z Z (by omega) (.j Z Z (.nil ?_))))))))))))))))
        obtain rfl := oi h
        refine b6 ⟨_, Z, ?_⟩
        exact Sub.cut ⟨Z, Z, Z, Z, Z, Z, Y⟩ Z ⟨.one Z, .one Z, .one Z, .one Z, .one Z, .dead, .one Z, .one Z, .one Z, .one Z, .one Z, .one Z, .one Z, .vec, Y⟩ Z
       ·refine AWP.skip (b6 (.q (.q (.u (.E Z Z Z Z Z Z (S.lenO Z Z Z (fun hl80 => .eql Z Z Z (.nil (b6 (.ite Z h (fun hc78 h => ?_) (fun hc78 h => ?_)))))))))))
        ·refine AWP.q (.u (W.store Z Z Z Z Z (W.store Z Z Z Z Z (W.store Z Z Z Z Z (.nil (b6 (.ret (f5 (i8 (yPost_ret Z Z (.v Z Z Z hb76 (.not Z Z (.J Z hb76 Z Z (.nil (b6 (.condT Z (.ret (i8 (f5 ?_)))))))))))))))))))
         obtain rfl := oi h
         refine f5 ⟨_, Z, Z, ?_⟩
         exact ⟨⟨[], [.one (.cells 4 [(tF Facts Init Goal Operators)]), .one (.cells 1 [[.fn 40 []]]), .one (.cells 1 [[.imm (.val nL)]]), .one (.cells 1 [[bool false]]), .one (.cells 1 [[bool false]]), .dead, .one (.cells 1 [[.own 13 0 c74.length]]), .one (mapB Value.string vI c73), .one (.cells 1 [[.map 7]]), .one (.cells 1 [[int c61]]), .one (.cells 4 [(tF Facts Init Goal Operators)]), .one (.cells 1 [[row 1 f7 a66.node]]), .one (k9 92 [70, 71] as68 bo68 .done (some .ret) [(5, none), (8, none), (9, none), (10, none), (11, none), (12, none), (13, none)] [.ptr 1 0 0, .ptr 2 0 0, .ptr 3 0 0, .ptr 4 0 0, .ptr 6 0 0, .ptr 8 0 0, .ptr 9 0 0]), .one (vec 3 g8 c74)]⟩, Sub.cut trivial Z ⟨.one Z, .one Z, .one Z, .one Z, .one Z, .dead, .one Z, .one Z, .one Z, .one Z, .one Z, .one Z, .one Z, .vec, Y⟩ Z, Done.ret Z (.inr ⟨_, Z, Z, Z⟩)⟩
        ·refine AWP.skip (b6 (.q (.u (.E Z Z Z Z Z Z (.j Z Z (W.mapUpdate (fk := Value.string) (fv := vI) (k := ab74) (a := 1) keyStr Z Z Z Z Z (.nil (b6 ?_))))))))
         obtain ⟨ab90, hab90, h⟩ := bind_some h
         refine AWP.u (.E Z Z Z Z Z Z (.j Z Z (.E Z Z Z Z Z Z (.j Z Z (W.build Z Z Z Z (S.lit (f := g8) (l := [(⟨ai24, c61, t75⟩ : g7)]) (ess := [[row 1 f7 ai24, int c61, int t75]]) Z Z Z Z Z Z Z ⟨⟨.inl Z, .inl Z, .inl Z, Y⟩, Y⟩ Z Z Z (S.append (f := g8) hab90 Z Z Z Z Z Z (.own Z Z) Z Z Z Z (W.store Z Z Z Z Z (.nil (e6 (R3 Z Z (.v Z Z Z hb76 (.not Z Z (.J Z hb76 Z Z (.nil (b6 (.j (env' := [(0, .c (.yld 12)), (1, .c (.ptr 10 0 0)), (2, .c (.ptr 11 0 0)), (7, .c (row 4 n4 Operators)), (8, .c (int (Operators.length : Int))), (9, .c (int t75)), (27, .c (bool false))]) (σ' := [.one (.cells 4 [(tF Facts Init Goal Operators)]), .one (.cells 1 [[.fn 40 []]]), .one (.cells 1 [[.imm (.val nL)]]), .one (.cells 1 [[bool false]]), .one (.cells 1 [[bool false]]), .dead, .one (.cells 1 [[.own 13 0 ab90.length]]), .one (mapB Value.string vI (mset c73 ab74 1)), .one (.cells 1 [[.map 7]]), .one (.cells 1 [[int c61]]), .one (.cells 4 [(tF Facts Init Goal Operators)]), .one (.cells 1 [[row 1 f7 a66.node]]), .one (k9 92 [70, 71] as68 bo68 .ready none [(5, none), (8, none), (9, none), (10, none), (11, none), (12, none), (13, none)] [.ptr 1 0 0, .ptr 2 0 0, .ptr 3 0 0, .ptr 4 0 0, .ptr 6 0 0, .ptr 8 0 0, .ptr 9 0 0]), .one (vec 3 g8 ab90), .one (.cells 4 [[row 1 intI ai12.pre, row 1 intI ai12.add, row 1 intI ai12.del, int ai12.cost]]), .dead, .one (vec 3 g8 [(⟨ai24, c61, t75⟩ : g7)])]) 13 17 Z Z Z ⟨Z, Z, Z, Z, Z, Z, Z, Y⟩ Z ⟨⟨Z, Z⟩, ⟨Z, Z⟩, ⟨Z, Z⟩, ⟨Z, Z⟩, ⟨Z, Z⟩, trivial, ⟨Z, Z⟩, ⟨Z, Z⟩, ⟨Z, Z⟩, ⟨Z, Z⟩, ⟨Z, Z⟩, ⟨Z, Z⟩, ⟨Z, Z⟩, ⟨Blk.im_ok _ _ _, j7 Z⟩, ⟨Z, Z⟩, trivial, ⟨Blk.im_ok _ _ _, j7 Z⟩, Y⟩ (.condF Z (.skip (e6 (b6 (.u (.add Z Z Z (by omega) (.j Z Z (.nil ?_)))))))))))))))))))))))))
         obtain rfl := oi h
         refine b6 ⟨_, Z, ?_⟩
         exact Sub.cut ⟨Z, Z, Z, Z, Z, Z, Y⟩ Z ⟨.one Z, .one Z, .one Z, .one Z, .one Z, .dead, .one Z, .one Z, .one Z, .one Z, .one Z, .one Z, .one Z, .vec, Y⟩ Z
      ·replace h := K6 hb76 h
       refine AWP.u (.E Z Z Z Z Z Z (W.fieldAddr Z Z Z Z (.E Z Z Z Z Z Z (.O Z Z Z Z (ab3 hai17) Z (.j Z Z (.B Z Z Z hb76 (.B Z Z Z hb76 (.B Z Z Z hb76 (.B Z Z Z hb76 (.B Z Z Z hb76 (.B Z Z Z hb76 (.B Z Z Z hb76 (.B Z Z Z hb76 (.U Z hb76 Z Z (.nil (b6 (.condF Z (.skip (e6 (b6 (.u (.add Z Z Z (by omega) (.j Z Z (.nil ?_))))))))))))))))))))))))
       obtain rfl := oi h
       refine b6 ⟨_, Z, ?_⟩
       exact Sub.cut ⟨Z, Z, Z, Z, Z, Z, Y⟩ Z ⟨.one Z, .one Z, .one Z, .one Z, .one Z, .dead, .one Z, .one Z, .one Z, .one Z, .one Z, .one Z, .one Z, .vec, Y⟩ Z
     ·intro e s hq
      rcases oo with ⟨c73, c74⟩ | x
      ·try dsimp only at hr68 hq
       obtain ⟨rfl, hs⟩ := hq
       refine ⟨_, hs, ?_⟩
       refine i7 ?_
       obtain rfl := oi hr68
       exact ⟨⟨[], [.one (.cells 4 [(tF Facts Init Goal Operators)]), .one (.cells 1 [[.fn 40 []]]), .one (.cells 1 [[.imm (.val nL)]]), .one (.cells 1 [[bool false]]), .one (.cells 1 [[bool false]]), .dead, .one (.cells 1 [[.own 13 0 c74.length]]), .one (mapB Value.string vI c73), .one (.cells 1 [[.map 7]]), .one (.cells 1 [[int c61]]), .one (.cells 4 [(tF Facts Init Goal Operators)]), .one (.cells 1 [[row 1 f7 a66.node]]), .one (k9 92 [70, 71] as68 bo68 .ready none [(5, none), (8, none), (9, none), (10, none), (11, none), (12, none), (13, none)] [.ptr 1 0 0, .ptr 2 0 0, .ptr 3 0 0, .ptr 4 0 0, .ptr 6 0 0, .ptr 8 0 0, .ptr 9 0 0]), .one (vec 3 g8 c74)]⟩, Sub.env trivial, Done.normal Z (.inl ⟨_, Z, Z, Z⟩)⟩
      ·try dsimp only at hr68 hq
       obtain ⟨rfl, hs⟩ := hq
       refine ⟨_, Sub.refl _ _, ?_⟩
       refine i8 ?_
       obtain rfl := oi hr68
       exact hs
    ·rintro tt ss (⟨⟨c69, c70⟩, rfl, rfl, rfl⟩ | ⟨⟨c71, c72⟩, rfl, rfl, rfl⟩)
     ·try dsimp only at h ⊢
      refine ad7 Z Z (e6 (e6 (b6 (.q (.q (.u (.E Z Z Z Z Z Z (.nil (b6 (.u (W.alloc Z Z Z Z (W.store Z Z Z Z Z (.nil (b6 (.u (.E Z Z Z Z Z Z (S.add Z Z Z (W.store Z Z Z Z Z (.nil ?_)))))))))))))))))))
      obtain rfl := oi h
      refine b6 ⟨_, Z, ?_⟩
      exact (Sub.move (env' := [(2, .c (.fn 70 [.ptr 0 0 0])), (3, .c (.fn 68 [])), (5, .c (.ptr 1 0 0)), (8, .c (.ptr 2 0 0)), (9, .c (.ptr 3 0 0)), (10, .c (.ptr 4 0 0)), (11, .c (.ptr 6 0 0)), (12, .c (.ptr 8 0 0)), (13, .c (.ptr 9 0 0))]) (σ' := [.one (.cells 4 [(tF Facts Init Goal Operators)]), .one (.cells 1 [[.fn 40 []]]), .one (.cells 1 [[.imm (.val nL)]]), .one (.cells 1 [[bool false]]), .one (.cells 1 [[bool false]]), .dead, .one (.cells 1 [[.own 13 0 c70.length]]), .one (mapB Value.string vI c69), .one (.cells 1 [[.map 7]]), .one (.cells 1 [[int (w64 (c61 + 1))]]), .one (.cells 4 [(tF Facts Init Goal Operators)]), .one (.cells 1 [[row 1 f7 a66.node]]), .dead, .one (vec 3 g8 c70)]) 9 14 Z Z Z ⟨Z, Z, Z, Z, Z, Z, Z, Z, Z, Y⟩ Z ⟨⟨Z, Z⟩, ⟨Z, Z⟩, ⟨Z, Z⟩, ⟨Z, Z⟩, ⟨Z, Z⟩, trivial, ⟨Z, Z⟩, ⟨Z, Z⟩, ⟨Z, Z⟩, ⟨Z, Z⟩, ⟨Z, Z⟩, ⟨Z, Z⟩, trivial, ⟨Blk.im_ok _ _ _, j7 Z⟩, Y⟩).trans ((Sub.move (env' := [(2, .c (.fn 70 [.ptr 0 0 0])), (3, .c (.fn 68 [])), (5, .c (.ptr 1 0 0)), (8, .c (.ptr 2 0 0)), (9, .c (.ptr 3 0 0)), (10, .c (.ptr 4 0 0)), (11, .c (.ptr 6 0 0)), (12, .c (.ptr 8 0 0)), (13, .c (.ptr 9 0 0))]) (σ' := [.one (.cells 4 [(tF Facts Init Goal Operators)]), .one (.cells 1 [[.fn 40 []]]), .one (.cells 1 [[.imm (.val nL)]]), .one (.cells 1 [[bool false]]), .one (.cells 1 [[bool false]]), .one (vec 3 g8 c70), .one (.cells 1 [[.own 5 0 c70.length]]), .one (mapB Value.string vI c69), .one (.cells 1 [[.map 7]]), .one (.cells 1 [[int (w64 (c61 + 1))]]), .one (.cells 4 [(tF Facts Init Goal Operators)]), .one (.cells 1 [[row 1 f7 a66.node]]), .dead]) 5 13 Z Z Z ⟨Z, Z, Z, Z, Z, Z, Z, Z, Z, Y⟩ Z ⟨⟨Z, Z⟩, ⟨Z, Z⟩, ⟨Z, Z⟩, ⟨Z, Z⟩, ⟨Z, Z⟩, ⟨Blk.im_ok _ _ _, j7 Z⟩, ⟨Z, Z⟩, ⟨Z, Z⟩, ⟨Z, Z⟩, ⟨Z, Z⟩, ⟨Z, Z⟩, ⟨Z, Z⟩, trivial, Y⟩).trans (Sub.cut ⟨Z, Z, Z, Z, Z, Z, Z, Z, Z, Y⟩ Z ⟨.one Z, .one Z, .one Z, .one Z, .one Z, .vec, .one Z, .one Z, .one Z, .one Z, Y⟩ Z))
     ·try dsimp only at h ⊢
      refine rPost_jump Z Z (.nilB (b := 2) [row 1 intI []] Z (by exact ⟨.inr ⟨Z, _, Z⟩, Y⟩) Z Z (.ret (i8 (i8 (f5 ?_)))))
      obtain rfl := oi h
      refine f5 ⟨_, Z, Z, ?_⟩
      exact ⟨⟨[(8, .c (.ptr 2 0 0)), (9, .c (.ptr 3 0 0)), (10, .c (.ptr 4 0 0))], [.one (.cells 4 [(tF Facts Init Goal Operators)]), .dead, .one (.cells 1 [[row 1 intI []]]), .one (.cells 1 [[bool false]]), .one (.cells 1 [[bool false]])]⟩, Sub.cut ⟨Z, Z, Z, Y⟩ Z ⟨.one Z, .dead, .one Z, .one Z, .one Z, Y⟩ Z, Done.ret Z ⟨Z, Z⟩⟩
  ·refine AWP.exit (e9 ?_)
   obtain rfl := oi h
   refine e9 ⟨_, Z, Z, ?_⟩
   exact Sub.cut ⟨Z, Z, Z, Y⟩ Z ⟨.one Z, .dead, .one Z, .one Z, .one Z, Y⟩ Z
 ·intro e s hq
  rcases oo with u | x
  ·try dsimp only at h hq
   obtain ⟨rfl, hs⟩ := hq
   refine ⟨_, hs, ?_⟩
   refine i7 (b6 (.q (.u (W.store Z Z Z Z Z (W.store Z Z Z Z Z (W.store Z Z Z Z Z (.nil (b6 (.nilB (b := 2) [row 1 intI []] Z (by exact ⟨.inr ⟨Z, _, Z⟩, Y⟩) Z Z (.ret ?_))))))))))
   obtain rfl := oi h
   exact ⟨⟨[(8, .c (.ptr 2 0 0)), (9, .c (.ptr 3 0 0)), (10, .c (.ptr 4 0 0))], [.one (.cells 4 [(tF Facts Init Goal Operators)]), .dead, .one (.cells 1 [[row 1 intI []]]), .one (.cells 1 [[bool false]]), .one (.cells 1 [[bool true]])]⟩, Sub.env ⟨Z, Z, Z, Y⟩, Done.ret Z ⟨Z, Z⟩⟩
  ·try dsimp only at h hq
   obtain ⟨rfl, hs⟩ := hq
   refine ⟨_, Sub.refl _ _, ?_⟩
   refine i8 (f5 ?_)
   obtain rfl := oi h
   exact hs
theorem ab6 {start : List (List Int)} {Facts : Int} {Init : List Int} {Goal : List Int} {Operators : List g9} {r : Bool} (h : C4 start Facts Init Goal Operators = some r) : FnOk prog 39 [.c (row 1 f7 start), .c (.fn 40 []), .c (.fn 70 [.ptr 0 0 0])] (ab7 start Facts Init Goal Operators) (fun tt ss => tt = .c (bool r) ∧ ss = [.one (.cells 4 [(tF Facts Init Goal Operators)])]) := by
 refine FnOk.enter (rs := [.t 6]) func39 Z ntmps39 results39 Z ⟨trivial, Y⟩ (by kernel_rfl) Z ?_
 refine AWP.weak ?_
 unfold C4 at h
 refine AWP.q (.u (.z Z Z (.nil (b6 (.q ?_)))))
 obtain ⟨a14, ha14, h⟩ := bind_some h
 refine AWP.u (.j Z Z (.j Z Z (.j Z Z (.callF (r2 := .tup [.c (row 1 intI a14.1), .c (bool a14.2.1), .c (bool a14.2.2)]) (σ'' := [.one (.cells 4 [(tF Facts Init Goal Operators)]), .dead, .one (.cells 1 [[row 1 intI a14.1]]), .one (.cells 1 [[bool a14.2.1]]), .one (.cells 1 [[bool a14.2.2]])]) Z Z Z (FnOk.lend [0] (aa1 ha14) Z Z Z Z Z Z (by exact ⟨(.one Z), Y⟩) Z (by exact ⟨(.live Z (.one Z)), Y⟩) Z Z (by exact ⟨(.new 0 Z Z (.one Z)), .dead, (.new 2 Z Z (.one Z)), (.new 3 Z Z (.one Z)), (.new 4 Z Z (.one Z)), Y⟩)) (.j Z Z (.ag Z Z Z (.ag Z Z Z (.ag Z Z Z (.z Z Z (.z Z Z (.z Z Z (.nil (b6 (.q (.u (.j Z Z (.z Z Z (.nil (b6 (.ret ?_))))))))))))))))))))
 obtain rfl := oi h
 exact ⟨⟨[(6, .c (bool a14.2.2))], [.one (.cells 4 [(tF Facts Init Goal Operators)])]⟩, Sub.cut ⟨Z, Y⟩ Z ⟨.one Z, Y⟩ Z, Done.ret Z ⟨Z, Z⟩⟩
theorem ae0 {t : e8} {goals : List (List Int)} {observed : List Int} {r : TFault} (h : F7 t goals observed = some r) : f8 prog 20 [.agg (tT t), .c (row 1 f7 goals), .c (row 1 intI observed)] (.agg [int r.code, int r.index]) := by
 unfold f8
 refine FnOk.enter (rs := [.cell 6 29 2]) func20 Z ntmps20 results20 Z ⟨rv _ Z, Y⟩ (by kernel_rfl) Z ?_
 unfold F7 at h
 refine AWP.q (.u (W.box Z Z Z Z Z Z (W.alloc Z Z Z Z (.nil (b6 (.q (.q ?_)))))))
 obtain ⟨a13, ha13, h⟩ := bind_some h
 refine AWP.u (W.loadAgg Z Z Z Z Z Z Z (.O Z Z Z Z (V4 ha13) Z (W.alloc Z Z Z Z (W.storeAgg Z Z Z Z Z Z Z (.nil (b6 (.q (.u (W.loadAgg Z Z Z Z Z Z Z (W.build Z Z Z Z (.neqP Z Z Z Z Z Z Z (.nil (b6 (.af Z h (fun hc4 h => ?_) (fun hc4 h => ?_)))))))))))))))
 ·refine AWP.q (.u (W.loadAgg Z Z Z Z Z Z Z (W.storeAgg Z Z Z Z Z Z Z (.nil (b6 (.ret (f5 ?_)))))))
  obtain rfl := oi h
  exact Done.ret Z Z
 ·refine AWP.skip (b6 (.q (.seqJ (⟨[(1, .c (row 1 f7 goals)), (2, .c (row 1 intI observed)), (3, .c (.ptr 0 0 0)), (6, .c (.ptr 1 0 0)), (25, .c (bool ((decide ((goals.length : Int) = 0)) || (decide (4 < (goals.length : Int))))))], [.one (.cells 4 [(tT t)]), .one (.cells 2 [[int 0, int 0]]), .one (.cells 2 [[int a13.code, int a13.index]])]⟩) ?_ ?_)))
  ·rcases bft (decide ((goals.length : Int) = 0)) with hb1 | hb1
   ·refine AWP.u (.j Z Z (S.len Z Z (fun hl19 => .eql Z Z Z (.j Z Z (.B Z Z Z hb1 (.B Z Z Z hb1 (.B Z Z Z hb1 (.J Z hb1 Z Z (.nil (b6 ?_))))))))))
    simp only [and_t hb1, or_t hb1, Bool.false_or, Bool.true_or, Bool.false_and, Bool.true_and]
    exact Sub.env ⟨Z, Z, Z, Z, Z, Y⟩
   ·refine AWP.u (.j Z Z (S.len Z Z (fun hl19 => .eql Z Z Z (.j Z Z (.v Z Z Z hb1 (.j Z Z ?_))))))
    refine AOps.v Z Z Z hb1 ?_; refine S.len Z Z (fun hl23 => ?_)
    refine AOps.v Z Z Z hb1 (.gtr Z Z Z (.U Z hb1 Z Z (.nil (b6 ?_))))
    simp only [and_f hb1, or_f hb1, Bool.false_or, Bool.true_or, Bool.false_and, Bool.true_and]
    exact Sub.env ⟨Z, Z, Z, Z, Z, Y⟩
  ·refine AWP.af Z h (fun hc5 h => ?_) (fun hc5 h => ?_)
   ·refine AWP.q (.u (W.build Z Z Z Z (W.storeAgg Z Z Z Z Z Z Z (.nil (b6 (.ret (f5 ?_)))))))
    obtain rfl := oi h
    exact Done.ret Z Z
   ·refine AWP.skip (b6 (.q (.q (.u (.j Z Z (S.len Z Z (fun hl28 => .j Z Z (.nil (b6 (.aa ?_))))))))))
    obtain ⟨oo, ho1, h⟩ := bind_some h
    refine AWP.rngS ho1 (fun t6 _ => ⟨[(2, .c (row 1 intI observed)), (3, .c (.ptr 0 0 0)), (6, .c (.ptr 1 0 0)), (27, .c (row 1 f7 goals)), (28, .c (int (goals.length : Int))), (29, .c (int t6))], [.one (.cells 4 [(tT t)]), .one (.cells 2 [[int 0, int 0]])]⟩) (fun o e st => match o with | .inl _ => e = .exit 0 ∧ Sub [] st ⟨[(2, .c (row 1 intI observed)), (3, .c (.ptr 0 0 0)), (6, .c (.ptr 1 0 0))], [.one (.cells 4 [(tT t)]), .one (.cells 2 [[int 0, int 0]])]⟩ | .inr x => e = .ret ∧ Done [.cell 6 29 2] (fun t _ => t = .agg [int x.code, int x.index]) .ret st) ?_ ?_ ?_ ?_
    ·try dsimp only
     exact Sub.cut ⟨Z, Z, Z, Z, Z, Z, Y⟩ Z ⟨.one Z, .one Z, Y⟩ Z
    ·intro t6 s hlot6 hltt6 _
     try dsimp only
     refine AWP.q (.u (.F Z Z Z (.nil (b6 (.q (.ac Z hltt6 (.exit (e9 (e9 ⟨Z, ?_⟩)))))))))
     exact Sub.env ⟨Z, Z, Z, Y⟩
    ·intro t6 s o hlot6 hltt6 h
     unfold y4 at h
     try dsimp only at h ⊢
     refine AWP.q (.u (.F Z Z Z (.nil (b6 (.q (.ad Z hltt6 (.skip (b6 (.q (.aa (.q ?_)))))))))))
     obtain ⟨a32, ha32, h⟩ := bind_some h
     refine AWP.u (.j Z Z (S.idx ha32 Z Z Z Z (.ab Z Z Z Z (.z Z Z (.z Z Z (.nil (b6 (.q ?_))))))))
     obtain ⟨a37, ha37, h⟩ := bind_some h
     refine AWP.u (.j Z Z (W.fieldAddr Z Z Z Z (.E Z Z Z Z Z Z (.O Z Z Z Z (m5 ha37) Z (.not Z Z (.nil (b6 (.af Z h (fun hc7 h => ?_) (fun hc7 h => ?_)))))))))
     ·refine AWP.q (.u (.j Z Z (S.sub Z Z Z (W.build Z Z Z Z (W.storeAgg Z Z Z Z Z Z Z (.nil (b6 (.ret (i8 (f5 ?_))))))))))
      obtain rfl := oi h
      refine f5 ⟨_, Z, Z, ?_⟩
      exact Done.ret Z Z
     ·refine AWP.skip (e6 (b6 (.u (.add Z Z Z (by omega) (.j Z Z (.nil ?_))))))
      obtain rfl := oi h
      refine b6 ⟨_, Z, ?_⟩
      exact Sub.env ⟨Z, Z, Z, Z, Z, Z, Y⟩
    ·intro e s hq
     rcases oo with u | x
     ·try dsimp only at h hq
      obtain ⟨rfl, hs⟩ := hq
      refine ⟨_, hs, ?_⟩
      refine i7 (b6 (.q (.q (.u (.j Z Z (S.len Z Z (fun hl44 => .gtr Z Z Z (.nil (b6 (.ite Z h (fun hc8 h => ?_) (fun hc8 h => ?_)))))))))))
      ·refine AWP.q (.u (W.build Z Z Z Z (W.storeAgg Z Z Z Z Z Z Z (.nil (b6 (.ret (f5 ?_)))))))
       obtain rfl := oi h
       exact Done.ret Z Z
      ·refine AWP.skip (b6 (.q (.q (.u (.j Z Z (S.len Z Z (fun hl48 => .j Z Z (.nil (b6 (.aa ?_))))))))))
       obtain ⟨oo, ho2, h⟩ := bind_some h
       refine AWP.rngS ho2 (fun t9 _ => ⟨[(3, .c (.ptr 0 0 0)), (6, .c (.ptr 1 0 0)), (47, .c (row 1 intI observed)), (48, .c (int (observed.length : Int))), (49, .c (int t9))], [.one (.cells 4 [(tT t)]), .one (.cells 2 [[int 0, int 0]])]⟩) (fun o e st => match o with | .inl _ => e = .exit 2 ∧ Sub [] st ⟨[(3, .c (.ptr 0 0 0)), (6, .c (.ptr 1 0 0))], [.one (.cells 4 [(tT t)]), .one (.cells 2 [[int 0, int 0]])]⟩ | .inr x => e = .ret ∧ Done [.cell 6 29 2] (fun t _ => t = .agg [int x.code, int x.index]) .ret st) ?_ ?_ ?_ ?_
       ·try dsimp only
        exact Sub.env ⟨Z, Z, Z, Z, Z, Y⟩
       ·intro t9 s hlot9 hltt9 _
        try dsimp only
        refine AWP.q (.u (.F Z Z Z (.nil (b6 (.q (.ac Z hltt9 (.exit (e9 (e9 ⟨Z, ?_⟩)))))))))
        exact Sub.env ⟨Z, Z, Y⟩
       ·intro t9 s o hlot9 hltt9 h
        unfold G4 at h
        try dsimp only at h ⊢
        refine AWP.q (.u (.F Z Z Z (.nil (b6 (.q (.ad Z hltt9 (.skip (b6 (.q (.aa (.q ?_)))))))))))
        obtain ⟨a51, ha51, h⟩ := bind_some h
        refine AWP.u (S.idx ha51 Z Z Z Z (.ab Z Z Z Z (.z Z Z (.nil (b6 (.seqJ (⟨[(3, .c (.ptr 0 0 0)), (6, .c (.ptr 1 0 0)), (47, .c (row 1 intI observed)), (48, .c (int (observed.length : Int))), (49, .c (int t9)), (61, .c (bool ((decide (a51 < 0)) || (decide ((t.operators.length : Int) ≤ a51)))))], [.one (.cells 4 [(tT t)]), .one (.cells 2 [[int 0, int 0]])]⟩) ?_ ?_))))))
        ·rcases bft (decide (a51 < 0)) with hb1 | hb1
         ·refine AWP.u (.j Z Z (.F Z Z Z (.j Z Z (.B Z Z Z hb1 (.B Z Z Z hb1 (.B Z Z Z hb1 (.B Z Z Z hb1 (.B Z Z Z hb1 (.J Z hb1 Z Z (.nil (b6 ?_)))))))))))
          simp only [and_t hb1, or_t hb1, Bool.false_or, Bool.true_or, Bool.false_and, Bool.true_and]
          exact Sub.env ⟨Z, Z, Z, Z, Z, Z, Y⟩
         ·refine AWP.u (.j Z Z (.F Z Z Z (.j Z Z (.v Z Z Z hb1 (.j Z Z (.v Z Z Z hb1 (W.fieldAddr Z Z Z Z (.v Z Z Z hb1 (.E Z Z Z Z Z Z ?_)))))))))
          refine AOps.v Z Z Z hb1 ?_; refine S.len Z Z (fun hl59 => ?_)
          refine AOps.v Z Z Z hb1 (.geq Z Z Z (.U Z hb1 Z Z (.nil (b6 ?_))))
          simp only [and_f hb1, or_f hb1, Bool.false_or, Bool.true_or, Bool.false_and, Bool.true_and]
          exact Sub.env ⟨Z, Z, Z, Z, Z, Z, Y⟩
        ·refine AWP.af Z h (fun hc10 h => ?_) (fun hc10 h => ?_)
         ·refine AWP.q (.u (W.build Z Z Z Z (W.storeAgg Z Z Z Z Z Z Z (.nil (b6 (.ret (i8 (f5 ?_))))))))
          obtain rfl := oi h
          refine f5 ⟨_, Z, Z, ?_⟩
          exact Done.ret Z Z
         ·refine AWP.skip (e6 (b6 (.u (.add Z Z Z (by omega) (.j Z Z (.nil ?_))))))
          obtain rfl := oi h
          refine b6 ⟨_, Z, ?_⟩
          exact Sub.env ⟨Z, Z, Z, Z, Z, Y⟩
       ·intro e s hq
        rcases oo with u | x
        ·try dsimp only at h hq
         obtain ⟨rfl, hs⟩ := hq
         refine ⟨_, hs, ?_⟩
         refine i7 (b6 (.q (.q ?_)))
         obtain ⟨a68, ha68, a69, ha69, h⟩ := b2 h
         refine AWP.drawEI [4, 5] mixed Z Z Z ?_
         refine e7.consN Z Z (fun E => W.fieldAddr Z Z Z Z .N) Z (.consN Z Z (fun E => AOps.E Z Z Z Z Z Z .N) Z (.consN Z Z (fun E => S.litD (f := f7) (l := [t.init]) (ess := [[row 1 intI t.init]]) Z Z Z Z Z Z Z Z ⟨⟨.inl Z, Y⟩, Y⟩ Z .N) Z (.consN Z Z (fun E => W.loadAgg Z Z Z Z Z Z Z .N) Z ?_)))
         apply e7.consE; exact Z; exact Z; intro E
         refine AOps.callF (r2 := .c (.fn 70 [.ptr 2 0 0])) (σ'' := [.one (.cells 4 [(tT t)]), .one (.cells 2 [[int 0, int 0]]), .one (.cells 4 [(tT t)])]) Z Z Z (FnOk.lend [] (ag1 ha68) Z Z Z Z Z Z (by exact trivial) Z (by exact trivial) Z Z (by exact ⟨(.old Z Z Z), (.old Z Z Z), (.new 0 Z Z (.one Z)), Y⟩)) .N
         exact Z
         exact Z
         apply e7.consE; exact Z; exact Z; intro E
         refine AOps.callF (r2 := .c (bool a69)) (σ'' := [.one (.cells 4 [(tT t)]), .one (.cells 2 [[int 0, int 0]]), .one (.cells 4 [(tT t)])]) Z Z Z (FnOk.lend [2] (ab6 ha69) Z Z Z Z Z Z (by exact ⟨(.one Z), Y⟩) Z (by exact ⟨(.live Z (.one Z)), Y⟩) Z Z (by exact ⟨(.old Z Z Z), (.old Z Z Z), (.new 0 Z Z (.one Z)), Y⟩)) .N
         exact Z
         exact Z
         refine e7.consN Z Z (fun E => AOps.not Z Z .N) Z ?_
         refine e7.done Z ?_ ?_
         ·refine d9.cons Z Z ?_ ?_
          refine b8.go Z Z (fun E => W.fieldAddr Z Z Z Z .N) ?_
          refine b8.go Z Z (fun E => W.fieldAddr Z Z Z Z .N) ?_
          refine b8.skip Z (b8.nil)
          refine d9.cons Z Z ?_ ?_
          refine b8.go Z Z (fun E => AOps.E Z Z Z Z Z Z .N) ?_
          refine b8.go Z Z (fun E => AOps.E Z Z Z Z Z Z .N) ?_
          refine b8.skip Z (b8.nil)
          refine d9.cons Z Z ?_ ?_
          refine b8.go Z Z (fun E => S.litD (f := f7) (l := [t.init]) (ess := [[row 1 intI t.init]]) Z Z Z Z Z Z Z Z ⟨⟨.inl Z, Y⟩, Y⟩ Z .N) ?_
          refine b8.go Z Z (fun E => S.litD (f := f7) (l := [t.init]) (ess := [[row 1 intI t.init]]) Z Z Z Z Z Z Z Z ⟨⟨.inl Z, Y⟩, Y⟩ Z .N) ?_
          refine b8.skip Z (b8.nil)
          refine d9.cons Z Z ?_ ?_
          refine b8.go Z Z (fun E => W.loadAgg Z Z Z Z Z Z Z .N) ?_
          refine b8.skip Z (b8.skip Z (b8.nil))
          refine d9.skip Z (d9.skip Z ?_)
          refine d9.cons Z Z ?_ ?_
          refine b8.skip Z (b8.skip Z ?_)
          refine b8.go Z Z (fun E => AOps.not Z Z .N) ?_
          exact b8.nil
          exact d9.nil
         dsimp only [l0]
         refine b6 (.af Z h (fun hc11 h => ?_) (fun hc11 h => ?_))
         ·refine AWP.q (.u (W.build Z Z Z Z (W.storeAgg Z Z Z Z Z Z Z (.nil (b6 (.ret (f5 ?_)))))))
          obtain rfl := oi h
          exact Done.ret Z Z
         ·refine AWP.skip (b6 (.q (.u (W.build Z Z Z Z (W.storeAgg Z Z Z Z Z Z Z (.nil (b6 (.ret ?_))))))))
          obtain rfl := oi h
          exact Done.ret Z Z
        ·try dsimp only at h hq
         obtain ⟨rfl, hs⟩ := hq
         refine ⟨_, Sub.refl _ _, ?_⟩
         refine i8 (f5 ?_)
         obtain rfl := oi h
         exact hs
     ·try dsimp only at h hq
      obtain ⟨rfl, hs⟩ := hq
      refine ⟨_, Sub.refl _ _, ?_⟩
      refine i8 (f5 ?_)
      obtain rfl := oi h
      exact hs
theorem X4 {l : List c9} {r : Int} (h : B8 l = some r) : f8 prog 43 [.c (row 4 b9 l)] (.c (int r)) := by
 unfold f8
 refine FnOk.enter (rs := [.t 2]) func43 Z ntmps43 results43 Z ⟨trivial, Y⟩ (by kernel_rfl) Z ?_
 unfold B8 at h
 refine AWP.q (.u (.z Z Z (.nil (b6 (.q (.u (.j Z Z (S.len Z Z (fun hl4 => .z Z Z (.nil (b6 (.ret ?_))))))))))))
 obtain rfl := oi h
 exact Done.ret Z Z
theorem W1 {t : e8} {sv : List Int} {op : Int} {r : Bool} (h : N3 t sv op = some r) : f8 prog 75 [.agg (tT t), .c (row 1 intI sv), .c (int op)] (.c (bool r)) := by
 unfold f8
 refine FnOk.enter (rs := [.t 6]) func75 Z ntmps75 results75 Z ⟨trivial, Y⟩ (by kernel_rfl) Z ?_
 unfold N3 at h
 refine AWP.q (.u (W.box Z Z Z Z Z Z (.z Z Z (.nil (b6 (.q ?_))))))
 obtain ⟨a11, ha11, a14, ha14, h⟩ := b2 h
 refine AWP.u (.j Z Z (W.fieldAddr Z Z Z Z (.E Z Z Z Z Z Z (.j Z Z (S.idx ha11 Z Z Z Z (W.fieldAddrI Z Z Z Z (.ab Z Z Z Z (.O Z Z Z Z (F8 ha14) Z (.z Z Z (.nil (b6 (.ret ?_))))))))))))
 obtain rfl := oi h
 exact Done.ret Z Z
theorem I7 {l : List c9} {r : Unit} (h : n9 l = some r) : FnOk prog 43 [.c (.own 0 0 l.length)] (U5 l) (fun tt ss => tt = .c (int (l.length : Int)) ∧ ss = [.one (vec 4 b9 l)]) := by
 refine FnOk.enter (rs := [.t 2]) func43 Z ntmps43 results43 Z ⟨trivial, Y⟩ (by kernel_rfl) Z ?_
 refine AWP.weak ?_
 unfold n9 at h
 refine AWP.q (.u (.z Z Z (.nil (b6 (.q (.u (.j Z Z (S.lenO Z Z Z (fun hl4 => .z Z Z (.nil (b6 (.ret ?_))))))))))))
 obtain rfl := oi h
 exact ⟨⟨[(2, .c (int (l.length : Int)))], [.one (vec 4 b9 l)]⟩, Sub.env ⟨Z, Y⟩, Done.ret Z ⟨Z, Z⟩⟩
theorem H7 {iv : Int} {kv : Int} {l : List c9} {r : (List c9)} (h : m4 iv kv l = some r) : FnOk prog 182 [.c (.own 0 0 l.length), .c (int iv), .c (int kv)] (T5 iv kv l) (fun tt ss => tt = .tup [] ∧ ss = [.one (vec 4 b9 r)]) := by
 refine FnOk.enter (rs := []) func182 Z ntmps182 results182 Z trivial (by kernel_rfl) Z ?_
 refine AWP.weak ?_
 unfold m4 at h
 obtain ⟨a12, ha12, a16, ha16, a18, ha18, h⟩ := b3 h
 obtain ⟨a19, ha19, h⟩ := bind_some h
 refine AWP.drawEI [13, 15] mixed Z Z Z ?_
 refine e7.consN Z Z (fun E => AOps.j Z Z .N) Z (.consN Z Z (fun E => AOps.j Z Z .N) Z (.consN Z Z (fun E => AOps.j Z Z .N) Z (.consN Z Z (fun E => AOps.j Z Z .N) Z (.consN Z Z (fun E => AOps.j Z Z .N) Z (.consN Z Z (fun E => AOps.j Z Z .N) Z (.consN Z Z (fun E => S.idxO ha12 Z Z Z Z Z .N) Z (.consN Z Z (fun E => S.loadOAgg ha12 Z Z Z Z Z Z Z .N) Z (.consN Z Z (fun E => AOps.j Z Z .N) Z (.consN Z Z (fun E => AOps.j Z Z .N) Z (.consN Z Z (fun E => S.idxO ha16 Z Z Z Z Z .N) Z (.consN Z Z (fun E => S.loadOAgg ha16 Z Z Z Z Z Z Z .N) Z (.consN Z Z (fun E => S.idxO ha18 Z Z Z Z Z .N) Z ?_))))))))))))
 apply e7.consE (v := .undef); exact Z; exact Z; intro E
 refine S.storeOAgg (f := b9) (a' := a12) (ix_lt ha18) (fun _ => Z) Z Z Z Z Z Z ?_
 exact AOps.nil ⟨Z, Z⟩
 exact Z
 exact Z
 refine e7.consN Z Z (fun E => S.idxO ha19 Z (by simp only [List.length_set]) Z Z Z .N) Z ?_
 apply e7.consE (v := .undef); exact Z; exact Z; intro E
 refine S.storeOAgg (f := b9) (a' := a16) (ix_lt ha19) (fun _ => Z) Z Z Z Z Z Z ?_
 exact AOps.nil ⟨Z, Z⟩
 exact Z
 exact Z
 refine e7.done Z ?_ ?_
 ·refine d9.cons Z Z ?_ ?_
  refine b8.go Z Z (fun E => AOps.j Z Z .N) ?_
  refine b8.skip Z (b8.skip Z (b8.nil))
  refine d9.cons Z Z ?_ ?_
  refine b8.go Z Z (fun E => AOps.j Z Z .N) ?_
  refine b8.skip Z (b8.skip Z (b8.nil))
  refine d9.cons Z Z ?_ ?_
  refine b8.go Z Z (fun E => AOps.j Z Z .N) ?_
  refine b8.go Z Z (fun E => AOps.j Z Z .N) ?_
  refine b8.skip Z (b8.nil)
  refine d9.cons Z Z ?_ ?_
  refine b8.go Z Z (fun E => AOps.j Z Z .N) ?_
  refine b8.go Z Z (fun E => AOps.j Z Z .N) ?_
  refine b8.skip Z (b8.nil)
  refine d9.cons Z Z ?_ ?_
  refine b8.go Z Z (fun E => AOps.j Z Z .N) ?_
  refine b8.skip Z (b8.skip Z (b8.nil))
  refine d9.cons Z Z ?_ ?_
  refine b8.go Z Z (fun E => AOps.j Z Z .N) ?_
  refine b8.skip Z (b8.skip Z (b8.nil))
  refine d9.cons Z Z ?_ ?_
  refine b8.go Z Z (fun E => S.idxO ha12 Z Z Z Z Z .N) ?_
  refine b8.skip Z (b8.skip Z (b8.nil))
  refine d9.cons Z Z ?_ ?_
  refine b8.go Z Z (fun E => S.loadOAgg ha12 Z Z Z Z Z Z Z .N) ?_
  refine b8.skip Z (b8.skip Z (b8.nil))
  refine d9.cons Z Z ?_ ?_
  refine b8.go Z Z (fun E => AOps.j Z Z .N) ?_
  refine b8.skip Z (b8.skip Z (b8.nil))
  refine d9.cons Z Z ?_ ?_
  refine b8.go Z Z (fun E => AOps.j Z Z .N) ?_
  refine b8.skip Z (b8.skip Z (b8.nil))
  refine d9.cons Z Z ?_ ?_
  refine b8.go Z Z (fun E => S.idxO ha16 Z Z Z Z Z .N) ?_
  refine b8.skip Z (b8.skip Z (b8.nil))
  refine d9.cons Z Z ?_ ?_
  refine b8.go Z Z (fun E => S.loadOAgg ha16 Z Z Z Z Z Z Z .N) ?_
  refine b8.skip Z (b8.skip Z (b8.nil))
  refine d9.cons Z Z ?_ ?_
  refine b8.go Z Z (fun E => S.idxO ha18 Z Z Z Z Z .N) ?_
  refine b8.skip Z (b8.skip Z (b8.nil))
  refine d9.skip Z ?_
  refine d9.cons Z Z ?_ ?_
  refine b8.skip Z ?_
  refine b8.go Z Z (fun E => S.idxO ha19 Z (by simp only [List.length_set]) Z Z Z .N) ?_
  refine b8.skip Z (b8.nil)
  refine d9.skip Z (d9.nil)
 dsimp only [l0]
 obtain rfl := oi h
 exact ⟨⟨[], [.one (vec 4 b9 ((l.set iv.toNat a12).set kv.toNat a16))]⟩, Sub.env trivial, Done.normal Z ⟨Z, Z⟩⟩
theorem I2 {iv : Int} {kv : Int} {l : List c9} {r : Bool} (h : l5 iv kv l = some r) : FnOk prog 179 [.c (.own 0 0 l.length), .c (int iv), .c (int kv)] (T3 iv kv l) (fun tt ss => tt = .c (bool r) ∧ ss = [.one (vec 4 b9 l)]) := by
 refine FnOk.enter (rs := [.t 6]) func179 Z ntmps179 results179 Z ⟨trivial, Y⟩ (by kernel_rfl) Z ?_
 refine AWP.weak ?_
 unfold l5 at h
 refine AWP.q (.u (.z Z Z (.nil (b6 ?_))))
 obtain ⟨t55, hx56, h⟩ := bind_some h
 refine AWP.seqJ (⟨[(6, .c (bool t55))], [.one (vec 4 b9 l)]⟩) ?_ ?_
 ·obtain ⟨a9, ha9, a14, ha14, hx56⟩ := b2 hx56
  rcases bft (decide (a9.cost < a14.cost)) with hb57 | hb57
  ·replace hx56 := B3 hb57 hx56
   refine AWP.drawI mixed Z ?_
   refine i9.consF Z (fun E => AOps.j Z Z .N) Z (.consF Z (fun E => AOps.j Z Z .N) Z (.consF Z (fun E => S.idxO ha9 Z Z Z Z Z .N) Z (.consF Z (fun E => W.fieldAddr Z Z Z Z .N) Z (.consF Z (fun E => S.loadO ha9 Z Z Z Z Z .N) Z (.consF Z (fun E => AOps.j Z Z .N) Z (.consF Z (fun E => AOps.j Z Z .N) Z (.consF Z (fun E => S.idxO ha14 Z Z Z Z Z .N) Z (.consF Z (fun E => W.fieldAddr Z Z Z Z .N) Z (.consF Z (fun E => S.loadO ha14 Z Z Z Z Z .N) Z (.consF Z (fun E => AOps.F Z Z Z .N) Z (.consF Z (fun E => AOps.j Z Z .N) Z (.consF Z (fun E => AOps.B Z Z Z hb57 .N) Z (.consF Z (fun E => AOps.B Z Z Z hb57 .N) Z (.consF Z (fun E => AOps.B Z Z Z hb57 .N) Z (.consF Z (fun E => AOps.B Z Z Z hb57 .N) Z (.consF Z (fun E => AOps.B Z Z Z hb57 .N) Z (.consF Z (fun E => AOps.B Z Z Z hb57 .N) Z (.consF Z (fun E => AOps.B Z Z Z hb57 .N) Z (.consF Z (fun E => AOps.B Z Z Z hb57 .N) Z (.consF Z (fun E => AOps.B Z Z Z hb57 .N) Z (.consF Z (fun E => AOps.B Z Z Z hb57 .N) Z (.consF Z (fun E => AOps.B Z Z Z hb57 .N) Z (.consF Z (fun E => AOps.B Z Z Z hb57 .N) Z (.consF Z (fun E => AOps.ae Z Z Z .N) Z (.consF Z (fun E => AOps.ae Z Z Z .N) Z (.consF Z (fun E => AOps.ae Z Z Z .N) Z (.consF Z (fun E => AOps.ae Z Z Z .N) Z (.consF Z (fun E => AOps.ae Z Z Z .N) Z (.consF Z (fun E => AOps.ae Z Z Z .N) Z (.consF Z (fun E => AOps.ae Z Z Z .N) Z (.consF Z (fun E => AOps.ae Z Z Z .N) Z (.consF Z (fun E => AOps.ae Z Z Z .N) Z (.consF Z (fun E => AOps.ae Z Z Z .N) Z (.consF Z (fun E => AOps.ae Z Z Z .N) Z (.consF Z (fun E => AOps.B Z Z Z hb57 .N) Z (.consF Z (fun E => AOps.J Z hb57 Z Z .N) Z (.consF Z (fun E => AOps.z Z Z .N) Z ?_)))))))))))))))))))))))))))))))))))))
   refine i9.done ?_
   dsimp only [l0]
   obtain rfl := oi hx56
   refine b6 (Sub.env ⟨Z, Y⟩)
  ·replace hx56 := B2 hb57 hx56
   obtain ⟨a21, ha21, a26, ha26, hx56⟩ := b2 hx56
   rcases bft (decide (a21.cost = a26.cost)) with hb58 | hb58
   ·replace hx56 := B3 hb58 hx56
    obtain ⟨a33, ha33, a38, ha38, hx56⟩ := b2 hx56
    refine AWP.drawI mixed Z ?_
    refine i9.consF Z (fun E => AOps.j Z Z .N) Z (.consF Z (fun E => AOps.j Z Z .N) Z (.consF Z (fun E => S.idxO ha9 Z Z Z Z Z .N) Z (.consF Z (fun E => W.fieldAddr Z Z Z Z .N) Z (.consF Z (fun E => S.loadO ha9 Z Z Z Z Z .N) Z (.consF Z (fun E => AOps.j Z Z .N) Z (.consF Z (fun E => AOps.j Z Z .N) Z (.consF Z (fun E => S.idxO ha14 Z Z Z Z Z .N) Z (.consF Z (fun E => W.fieldAddr Z Z Z Z .N) Z (.consF Z (fun E => S.loadO ha14 Z Z Z Z Z .N) Z (.consF Z (fun E => AOps.F Z Z Z .N) Z (.consF Z (fun E => AOps.j Z Z .N) Z (.consF Z (fun E => AOps.v Z Z Z hb57 (.j Z Z .N)) Z (.consF Z (fun E => AOps.v Z Z Z hb57 (.j Z Z .N)) Z (.consF Z (fun E => AOps.v Z Z Z hb57 (S.idxO ha21 Z Z Z Z Z .N)) Z (.consF Z (fun E => AOps.v Z Z Z hb57 (W.fieldAddr Z Z Z Z .N)) Z (.consF Z (fun E => AOps.v Z Z Z hb57 (S.loadO ha21 Z Z Z Z Z .N)) Z (.consF Z (fun E => AOps.v Z Z Z hb57 (.j Z Z .N)) Z (.consF Z (fun E => AOps.v Z Z Z hb57 (.j Z Z .N)) Z (.consF Z (fun E => AOps.v Z Z Z hb57 (S.idxO ha26 Z Z Z Z Z .N)) Z (.consF Z (fun E => AOps.v Z Z Z hb57 (W.fieldAddr Z Z Z Z .N)) Z (.consF Z (fun E => AOps.v Z Z Z hb57 (S.loadO ha26 Z Z Z Z Z .N)) Z (.consF Z (fun E => AOps.v Z Z Z hb57 (.eql Z Z Z .N)) Z (.consF Z (fun E => AOps.v Z Z Z hb57 (.j Z Z .N)) Z (.consF Z (fun E => AOps.v Z Z Z hb58 (.j Z Z .N)) Z (.consF Z (fun E => AOps.v Z Z Z hb58 (.j Z Z .N)) Z (.consF Z (fun E => AOps.v Z Z Z hb58 (S.idxO ha33 Z Z Z Z Z .N)) Z (.consF Z (fun E => AOps.v Z Z Z hb58 (W.fieldAddr Z Z Z Z .N)) Z (.consF Z (fun E => AOps.v Z Z Z hb58 (S.loadO ha33 Z Z Z Z Z .N)) Z (.consF Z (fun E => AOps.v Z Z Z hb58 (.j Z Z .N)) Z (.consF Z (fun E => AOps.v Z Z Z hb58 (.j Z Z .N)) Z (.consF Z (fun E => AOps.v Z Z Z hb58 (S.idxO ha38 Z Z Z Z Z .N)) Z (.consF Z (fun E => AOps.v Z Z Z hb58 (W.fieldAddr Z Z Z Z .N)) Z (.consF Z (fun E => AOps.v Z Z Z hb58 (S.loadO ha38 Z Z Z Z Z .N)) Z (.consF Z (fun E => AOps.v Z Z Z hb58 (.F Z Z Z .N)) Z (.consF Z (fun E => AOps.v Z Z Z hb57 (.J Z hb58 Z Z .N)) Z (.consF Z (fun E => AOps.U Z hb57 Z Z .N) Z (.consF Z (fun E => AOps.z Z Z .N) Z ?_)))))))))))))))))))))))))))))))))))))
    refine i9.done ?_
    dsimp only [l0]
    obtain rfl := oi hx56
    refine b6 (Sub.env ⟨Z, Y⟩)
   ·replace hx56 := B2 hb58 hx56
    refine AWP.drawI mixed Z ?_
    refine i9.consF Z (fun E => AOps.j Z Z .N) Z (.consF Z (fun E => AOps.j Z Z .N) Z (.consF Z (fun E => S.idxO ha9 Z Z Z Z Z .N) Z (.consF Z (fun E => W.fieldAddr Z Z Z Z .N) Z (.consF Z (fun E => S.loadO ha9 Z Z Z Z Z .N) Z (.consF Z (fun E => AOps.j Z Z .N) Z (.consF Z (fun E => AOps.j Z Z .N) Z (.consF Z (fun E => S.idxO ha14 Z Z Z Z Z .N) Z (.consF Z (fun E => W.fieldAddr Z Z Z Z .N) Z (.consF Z (fun E => S.loadO ha14 Z Z Z Z Z .N) Z (.consF Z (fun E => AOps.F Z Z Z .N) Z (.consF Z (fun E => AOps.j Z Z .N) Z (.consF Z (fun E => AOps.v Z Z Z hb57 (.j Z Z .N)) Z (.consF Z (fun E => AOps.v Z Z Z hb57 (.j Z Z .N)) Z (.consF Z (fun E => AOps.v Z Z Z hb57 (S.idxO ha21 Z Z Z Z Z .N)) Z (.consF Z (fun E => AOps.v Z Z Z hb57 (W.fieldAddr Z Z Z Z .N)) Z (.consF Z (fun E => AOps.v Z Z Z hb57 (S.loadO ha21 Z Z Z Z Z .N)) Z (.consF Z (fun E => AOps.v Z Z Z hb57 (.j Z Z .N)) Z (.consF Z (fun E => AOps.v Z Z Z hb57 (.j Z Z .N)) Z (.consF Z (fun E => AOps.v Z Z Z hb57 (S.idxO ha26 Z Z Z Z Z .N)) Z (.consF Z (fun E => AOps.v Z Z Z hb57 (W.fieldAddr Z Z Z Z .N)) Z (.consF Z (fun E => AOps.v Z Z Z hb57 (S.loadO ha26 Z Z Z Z Z .N)) Z (.consF Z (fun E => AOps.v Z Z Z hb57 (.eql Z Z Z .N)) Z (.consF Z (fun E => AOps.v Z Z Z hb57 (.j Z Z .N)) Z (.consF Z (fun E => AOps.B Z Z Z hb58 .N) Z (.consF Z (fun E => AOps.B Z Z Z hb58 .N) Z (.consF Z (fun E => AOps.B Z Z Z hb58 .N) Z (.consF Z (fun E => AOps.B Z Z Z hb58 .N) Z (.consF Z (fun E => AOps.B Z Z Z hb58 .N) Z (.consF Z (fun E => AOps.B Z Z Z hb58 .N) Z (.consF Z (fun E => AOps.B Z Z Z hb58 .N) Z (.consF Z (fun E => AOps.B Z Z Z hb58 .N) Z (.consF Z (fun E => AOps.B Z Z Z hb58 .N) Z (.consF Z (fun E => AOps.B Z Z Z hb58 .N) Z (.consF Z (fun E => AOps.B Z Z Z hb58 .N) Z (.consF Z (fun E => AOps.v Z Z Z hb57 (.U Z hb58 Z Z .N)) Z (.consF Z (fun E => AOps.U Z hb57 Z Z .N) Z (.consF Z (fun E => AOps.z Z Z .N) Z ?_)))))))))))))))))))))))))))))))))))))
    refine i9.done ?_
    dsimp only [l0]
    obtain rfl := oi hx56
    refine b6 (Sub.env ⟨Z, Y⟩)
 ·refine AWP.ret ?_
  obtain rfl := oi h
  exact ⟨⟨[(6, .c (bool t55))], [.one (vec 4 b9 l)]⟩, Sub.env ⟨Z, Y⟩, Done.ret Z ⟨Z, Z⟩⟩
theorem R9 {iv : Int} {kv : Int} {l : List c9} {r : Bool} (h : x5 iv kv l = some r) : FnOk prog 179 [.c (.own 0 0 l.length), .c (int iv), .c (int kv)] (S4 iv kv l) (fun tt ss => tt = .c (bool r) ∧ ss = [.one (vec 4 b9 l)]) := by
 refine FnOk.enter (rs := [.t 6]) func179 Z ntmps179 results179 Z ⟨trivial, Y⟩ (by kernel_rfl) Z ?_
 refine AWP.weak ?_
 unfold x5 at h
 refine AWP.q (.u (.z Z Z (.nil (b6 ?_))))
 obtain ⟨t55, hx56, h⟩ := bind_some h
 refine AWP.seqJ (⟨[(6, .c (bool t55))], [.one (vec 4 b9 l)]⟩) ?_ ?_
 ·obtain ⟨a9, ha9, a14, ha14, hx56⟩ := b2 hx56
  rcases bft (decide (a9.cost < a14.cost)) with hb57 | hb57
  ·replace hx56 := B3 hb57 hx56
   refine AWP.drawI mixed Z ?_
   refine i9.consF Z (fun E => AOps.j Z Z .N) Z (.consF Z (fun E => AOps.j Z Z .N) Z (.consF Z (fun E => S.idxO ha9 Z Z Z Z Z .N) Z (.consF Z (fun E => W.fieldAddr Z Z Z Z .N) Z (.consF Z (fun E => S.loadO ha9 Z Z Z Z Z .N) Z (.consF Z (fun E => AOps.j Z Z .N) Z (.consF Z (fun E => AOps.j Z Z .N) Z (.consF Z (fun E => S.idxO ha14 Z Z Z Z Z .N) Z (.consF Z (fun E => W.fieldAddr Z Z Z Z .N) Z (.consF Z (fun E => S.loadO ha14 Z Z Z Z Z .N) Z (.consF Z (fun E => AOps.F Z Z Z .N) Z (.consF Z (fun E => AOps.j Z Z .N) Z (.consF Z (fun E => AOps.B Z Z Z hb57 .N) Z (.consF Z (fun E => AOps.B Z Z Z hb57 .N) Z (.consF Z (fun E => AOps.B Z Z Z hb57 .N) Z (.consF Z (fun E => AOps.B Z Z Z hb57 .N) Z (.consF Z (fun E => AOps.B Z Z Z hb57 .N) Z (.consF Z (fun E => AOps.B Z Z Z hb57 .N) Z (.consF Z (fun E => AOps.B Z Z Z hb57 .N) Z (.consF Z (fun E => AOps.B Z Z Z hb57 .N) Z (.consF Z (fun E => AOps.B Z Z Z hb57 .N) Z (.consF Z (fun E => AOps.B Z Z Z hb57 .N) Z (.consF Z (fun E => AOps.B Z Z Z hb57 .N) Z (.consF Z (fun E => AOps.B Z Z Z hb57 .N) Z (.consF Z (fun E => AOps.ae Z Z Z .N) Z (.consF Z (fun E => AOps.ae Z Z Z .N) Z (.consF Z (fun E => AOps.ae Z Z Z .N) Z (.consF Z (fun E => AOps.ae Z Z Z .N) Z (.consF Z (fun E => AOps.ae Z Z Z .N) Z (.consF Z (fun E => AOps.ae Z Z Z .N) Z (.consF Z (fun E => AOps.ae Z Z Z .N) Z (.consF Z (fun E => AOps.ae Z Z Z .N) Z (.consF Z (fun E => AOps.ae Z Z Z .N) Z (.consF Z (fun E => AOps.ae Z Z Z .N) Z (.consF Z (fun E => AOps.ae Z Z Z .N) Z (.consF Z (fun E => AOps.B Z Z Z hb57 .N) Z (.consF Z (fun E => AOps.J Z hb57 Z Z .N) Z (.consF Z (fun E => AOps.z Z Z .N) Z ?_)))))))))))))))))))))))))))))))))))))
   refine i9.done ?_
   dsimp only [l0]
   obtain rfl := oi hx56
   refine b6 (Sub.env ⟨Z, Y⟩)
  ·replace hx56 := B2 hb57 hx56
   obtain ⟨a21, ha21, a26, ha26, hx56⟩ := b2 hx56
   rcases bft (decide (a21.cost = a26.cost)) with hb58 | hb58
   ·replace hx56 := B3 hb58 hx56
    obtain ⟨a33, ha33, a38, ha38, hx56⟩ := b2 hx56
    refine AWP.drawI mixed Z ?_
    refine i9.consF Z (fun E => AOps.j Z Z .N) Z (.consF Z (fun E => AOps.j Z Z .N) Z (.consF Z (fun E => S.idxO ha9 Z Z Z Z Z .N) Z (.consF Z (fun E => W.fieldAddr Z Z Z Z .N) Z (.consF Z (fun E => S.loadO ha9 Z Z Z Z Z .N) Z (.consF Z (fun E => AOps.j Z Z .N) Z (.consF Z (fun E => AOps.j Z Z .N) Z (.consF Z (fun E => S.idxO ha14 Z Z Z Z Z .N) Z (.consF Z (fun E => W.fieldAddr Z Z Z Z .N) Z (.consF Z (fun E => S.loadO ha14 Z Z Z Z Z .N) Z (.consF Z (fun E => AOps.F Z Z Z .N) Z (.consF Z (fun E => AOps.j Z Z .N) Z (.consF Z (fun E => AOps.v Z Z Z hb57 (.j Z Z .N)) Z (.consF Z (fun E => AOps.v Z Z Z hb57 (.j Z Z .N)) Z (.consF Z (fun E => AOps.v Z Z Z hb57 (S.idxO ha21 Z Z Z Z Z .N)) Z (.consF Z (fun E => AOps.v Z Z Z hb57 (W.fieldAddr Z Z Z Z .N)) Z (.consF Z (fun E => AOps.v Z Z Z hb57 (S.loadO ha21 Z Z Z Z Z .N)) Z (.consF Z (fun E => AOps.v Z Z Z hb57 (.j Z Z .N)) Z (.consF Z (fun E => AOps.v Z Z Z hb57 (.j Z Z .N)) Z (.consF Z (fun E => AOps.v Z Z Z hb57 (S.idxO ha26 Z Z Z Z Z .N)) Z (.consF Z (fun E => AOps.v Z Z Z hb57 (W.fieldAddr Z Z Z Z .N)) Z (.consF Z (fun E => AOps.v Z Z Z hb57 (S.loadO ha26 Z Z Z Z Z .N)) Z (.consF Z (fun E => AOps.v Z Z Z hb57 (.eql Z Z Z .N)) Z (.consF Z (fun E => AOps.v Z Z Z hb57 (.j Z Z .N)) Z (.consF Z (fun E => AOps.v Z Z Z hb58 (.j Z Z .N)) Z (.consF Z (fun E => AOps.v Z Z Z hb58 (.j Z Z .N)) Z (.consF Z (fun E => AOps.v Z Z Z hb58 (S.idxO ha33 Z Z Z Z Z .N)) Z (.consF Z (fun E => AOps.v Z Z Z hb58 (W.fieldAddr Z Z Z Z .N)) Z (.consF Z (fun E => AOps.v Z Z Z hb58 (S.loadO ha33 Z Z Z Z Z .N)) Z (.consF Z (fun E => AOps.v Z Z Z hb58 (.j Z Z .N)) Z (.consF Z (fun E => AOps.v Z Z Z hb58 (.j Z Z .N)) Z (.consF Z (fun E => AOps.v Z Z Z hb58 (S.idxO ha38 Z Z Z Z Z .N)) Z (.consF Z (fun E => AOps.v Z Z Z hb58 (W.fieldAddr Z Z Z Z .N)) Z (.consF Z (fun E => AOps.v Z Z Z hb58 (S.loadO ha38 Z Z Z Z Z .N)) Z (.consF Z (fun E => AOps.v Z Z Z hb58 (.F Z Z Z .N)) Z (.consF Z (fun E => AOps.v Z Z Z hb57 (.J Z hb58 Z Z .N)) Z (.consF Z (fun E => AOps.U Z hb57 Z Z .N) Z (.consF Z (fun E => AOps.z Z Z .N) Z ?_)))))))))))))))))))))))))))))))))))))
    refine i9.done ?_
    dsimp only [l0]
    obtain rfl := oi hx56
    refine b6 (Sub.env ⟨Z, Y⟩)
   ·replace hx56 := B2 hb58 hx56
    refine AWP.drawI mixed Z ?_
    refine i9.consF Z (fun E => AOps.j Z Z .N) Z (.consF Z (fun E => AOps.j Z Z .N) Z (.consF Z (fun E => S.idxO ha9 Z Z Z Z Z .N) Z (.consF Z (fun E => W.fieldAddr Z Z Z Z .N) Z (.consF Z (fun E => S.loadO ha9 Z Z Z Z Z .N) Z (.consF Z (fun E => AOps.j Z Z .N) Z (.consF Z (fun E => AOps.j Z Z .N) Z (.consF Z (fun E => S.idxO ha14 Z Z Z Z Z .N) Z (.consF Z (fun E => W.fieldAddr Z Z Z Z .N) Z (.consF Z (fun E => S.loadO ha14 Z Z Z Z Z .N) Z (.consF Z (fun E => AOps.F Z Z Z .N) Z (.consF Z (fun E => AOps.j Z Z .N) Z (.consF Z (fun E => AOps.v Z Z Z hb57 (.j Z Z .N)) Z (.consF Z (fun E => AOps.v Z Z Z hb57 (.j Z Z .N)) Z (.consF Z (fun E => AOps.v Z Z Z hb57 (S.idxO ha21 Z Z Z Z Z .N)) Z (.consF Z (fun E => AOps.v Z Z Z hb57 (W.fieldAddr Z Z Z Z .N)) Z (.consF Z (fun E => AOps.v Z Z Z hb57 (S.loadO ha21 Z Z Z Z Z .N)) Z (.consF Z (fun E => AOps.v Z Z Z hb57 (.j Z Z .N)) Z (.consF Z (fun E => AOps.v Z Z Z hb57 (.j Z Z .N)) Z (.consF Z (fun E => AOps.v Z Z Z hb57 (S.idxO ha26 Z Z Z Z Z .N)) Z (.consF Z (fun E => AOps.v Z Z Z hb57 (W.fieldAddr Z Z Z Z .N)) Z (.consF Z (fun E => AOps.v Z Z Z hb57 (S.loadO ha26 Z Z Z Z Z .N)) Z (.consF Z (fun E => AOps.v Z Z Z hb57 (.eql Z Z Z .N)) Z (.consF Z (fun E => AOps.v Z Z Z hb57 (.j Z Z .N)) Z (.consF Z (fun E => AOps.B Z Z Z hb58 .N) Z (.consF Z (fun E => AOps.B Z Z Z hb58 .N) Z (.consF Z (fun E => AOps.B Z Z Z hb58 .N) Z (.consF Z (fun E => AOps.B Z Z Z hb58 .N) Z (.consF Z (fun E => AOps.B Z Z Z hb58 .N) Z (.consF Z (fun E => AOps.B Z Z Z hb58 .N) Z (.consF Z (fun E => AOps.B Z Z Z hb58 .N) Z (.consF Z (fun E => AOps.B Z Z Z hb58 .N) Z (.consF Z (fun E => AOps.B Z Z Z hb58 .N) Z (.consF Z (fun E => AOps.B Z Z Z hb58 .N) Z (.consF Z (fun E => AOps.B Z Z Z hb58 .N) Z (.consF Z (fun E => AOps.v Z Z Z hb57 (.U Z hb58 Z Z .N)) Z (.consF Z (fun E => AOps.U Z hb57 Z Z .N) Z (.consF Z (fun E => AOps.z Z Z .N) Z ?_)))))))))))))))))))))))))))))))))))))
    refine i9.done ?_
    dsimp only [l0]
    obtain rfl := oi hx56
    refine b6 (Sub.env ⟨Z, Y⟩)
 ·refine AWP.ret ?_
  obtain rfl := oi h
  exact ⟨⟨[(6, .c (bool t55))], [.one (vec 4 b9 l)]⟩, Sub.env ⟨Z, Y⟩, Done.ret Z ⟨Z, Z⟩⟩
theorem W8 {i01 : Int} {nv : Int} {l : List c9} {r : (List c9) × Bool} (h : w8 i01 nv l = some r) : FnOk prog 73 [.c (.ifc 79 [.ptr 0 0 0] false), .c (int i01), .c (int nv)] (K8 i01 nv l) (fun tt ss => tt = .c (bool r.2) ∧ ss = [.one (.cells 1 [[.own 1 0 r.1.length]]), .one (vec 4 b9 r.1)]) := by
 refine FnOk.enter (rs := [.t 6]) func73 Z ntmps73 results73 Z ⟨trivial, Y⟩ (by kernel_rfl) Z ?_
 refine AWP.weak ?_
 unfold w8 at h
 refine AWP.q (.u (.z Z Z (.nil (b6 (.q (.u (.j Z Z (.z Z Z (.nil (b6 (.q (.aa ?_))))))))))))
 obtain ⟨⟨c58, iv59⟩, ho1, h⟩ := bind_some h
 try dsimp only at h
 refine AWP.loopS ho1 (fun (c56, iv57) => ⟨[(0, .c (.ifc 79 [.ptr 0 0 0] false)), (1, .c (int i01)), (2, .c (int nv)), (7, .c (int iv57))], [.one (.cells 1 [[.own 1 0 c56.length]]), .one (vec 4 b9 c56)]⟩) (fun (c58, iv59) e st => e = .exit 0 ∧ Sub (K8 i01 nv l) st ⟨[(1, .c (int i01)), (7, .c (int iv59))], [.one (.cells 1 [[.own 1 0 c58.length]]), .one (vec 4 b9 c58)]⟩) ?_ ?_ ?_
 ·try dsimp only
  exact Sub.env ⟨Z, Z, Z, Z, Y⟩
 ·intro s o h
  obtain ⟨c56, iv57⟩ := s
  unfold z6 at h
  try dsimp only at h ⊢
  refine AWP.aa (.q (.u (.j Z Z (S.mul Z Z Z (S.add Z Z Z (.z Z Z (.nil (b6 (.q (.seqJ (⟨[(0, .c (.ifc 79 [.ptr 0 0 0] false)), (1, .c (int i01)), (2, .c (int nv)), (7, .c (int iv57)), (8, .c (int (w64 ((w64 (2 * iv57)) + 1)))), (21, .c (bool ((decide (nv ≤ w64 ((w64 (2 * iv57)) + 1))) || (decide (w64 ((w64 (2 * iv57)) + 1) < 0)))))], [.one (.cells 1 [[.own 1 0 c56.length]]), .one (vec 4 b9 c56)]⟩) ?_ ?_))))))))))
  ·rcases bft (decide (nv ≤ w64 ((w64 (2 * iv57)) + 1))) with hb1 | hb1
   ·refine AWP.u (.j Z Z (.j Z Z (.geq Z Z Z (.j Z Z (.B Z Z Z hb1 (.B Z Z Z hb1 (.J Z hb1 Z Z (.nil (b6 ?_)))))))))
    simp only [and_t hb1, or_t hb1, Bool.false_or, Bool.true_or, Bool.false_and, Bool.true_and]
    exact Sub.env ⟨Z, Z, Z, Z, Z, Z, Y⟩
   ·refine AWP.u (.j Z Z (.j Z Z (.geq Z Z Z (.j Z Z (.v Z Z Z hb1 (.j Z Z (.v Z Z Z hb1 (.F Z Z Z (.U Z hb1 Z Z (.nil (b6 ?_)))))))))))
    simp only [and_f hb1, or_f hb1, Bool.false_or, Bool.true_or, Bool.false_and, Bool.true_and]
    exact Sub.env ⟨Z, Z, Z, Z, Z, Z, Y⟩
  ·refine AWP.af Z h (fun hc60 h => ?_) (fun hc60 h => ?_)
   ·refine AWP.exit (e9 (D7 Z ?_))
    obtain rfl := oi h
    refine e9 ⟨_, Z, Z, ?_⟩
    exact Sub.env ⟨Z, Z, Y⟩
   ·refine AWP.skip (b6 (.q (.u (.j Z Z (.z Z Z (.nil (b6 ?_)))))))
    obtain ⟨j61, hx62, h⟩ := bind_some h
    refine AWP.seqJ (⟨[(0, .c (.ifc 79 [.ptr 0 0 0] false)), (1, .c (int i01)), (2, .c (int nv)), (7, .c (int iv57)), (9, .c (int j61))], [.one (.cells 1 [[.own 1 0 c56.length]]), .one (vec 4 b9 c56)]⟩) ?_ ?_
    ·refine AWP.q (.u (.j Z Z (S.add Z Z Z (.z Z Z (.nil (b6 ?_))))))
     obtain ⟨t63, hx64, hx62⟩ := bind_some hx62
     refine AWP.seqJ (⟨[(0, .c (.ifc 79 [.ptr 0 0 0] false)), (1, .c (int i01)), (2, .c (int nv)), (7, .c (int iv57)), (9, .c (int (w64 ((w64 (2 * iv57)) + 1)))), (10, .c (int (w64 ((w64 ((w64 (2 * iv57)) + 1)) + 1)))), (33, .c (bool t63))], [.one (.cells 1 [[.own 1 0 c56.length]]), .one (vec 4 b9 c56)]⟩) ?_ ?_
     ·rcases bft (decide (w64 ((w64 ((w64 (2 * iv57)) + 1)) + 1) < nv)) with hb65 | hb65
      ·replace hx64 := B3 hb65 hx64
       obtain ⟨a32, ha32, hx64⟩ := bind_some hx64
       refine AWP.u (.j Z Z (.j Z Z (.F Z Z Z (.j Z Z (.v Z Z Z hb65 (.j Z Z (.v Z Z Z hb65 (.j Z Z (.v Z Z Z hb65 (.j Z Z (.v Z Z Z hb65 (S.invokeV (r2 := .c (bool a32)) (σ'' := [.one (.cells 1 [[.own 1 0 c56.length]]), .one (vec 4 b9 c56)]) Z Z Z Z Z Z Z (FnOk.lend [1] (I2 ha32) Z Z Z Z Z Z (by exact ⟨.vec, Y⟩) Z (by exact ⟨(.live Z .vec), Y⟩) Z Z (by exact ⟨(.old Z Z Z), (.new 0 Z Z .vec), Y⟩)) (.J Z hb65 Z Z (.nil ?_))))))))))))))
       obtain rfl := oi hx64
       refine b6 (Sub.env ⟨Z, Z, Z, Z, Z, Z, Z, Y⟩)
      ·replace hx64 := B2 hb65 hx64
       refine AWP.u (.j Z Z (.j Z Z (.F Z Z Z (.j Z Z (.B Z Z Z hb65 (.B Z Z Z hb65 (.B Z Z Z hb65 (.B Z Z Z hb65 (.U Z hb65 Z Z (.nil ?_))))))))))
       obtain rfl := oi hx64
       refine b6 (Sub.env ⟨Z, Z, Z, Z, Z, Z, Z, Y⟩)
     ·refine AWP.af Z hx62 (fun hc66 hx62 => ?_) (fun hc66 hx62 => ?_)
      ·refine AWP.u (.j Z Z (.z Z Z (.nil ?_)))
       obtain rfl := oi hx62
       refine b6 (Sub.env ⟨Z, Z, Z, Z, Z, Y⟩)
      ·refine AWP.skip ?_
       obtain rfl := oi hx62
       refine b6 (Sub.env ⟨Z, Z, Z, Z, Z, Y⟩)
    ·refine AWP.q (.q ?_)
     obtain ⟨a38, ha38, h⟩ := bind_some h
     refine AWP.u (.j Z Z (.j Z Z (.j Z Z (S.invokeV (r2 := .c (bool a38)) (σ'' := [.one (.cells 1 [[.own 1 0 c56.length]]), .one (vec 4 b9 c56)]) Z Z Z Z Z Z Z (FnOk.lend [1] (R9 ha38) Z Z Z Z Z Z (by exact ⟨.vec, Y⟩) Z (by exact ⟨(.live Z .vec), Y⟩) Z Z (by exact ⟨(.old Z Z Z), (.new 0 Z Z .vec), Y⟩)) (.not Z Z (.nil (b6 (.af Z h (fun hc67 h => ?_) (fun hc67 h => ?_)))))))))
     ·refine AWP.exit (e9 (D7 Z ?_))
      obtain rfl := oi h
      refine e9 ⟨_, Z, Z, ?_⟩
      exact Sub.env ⟨Z, Z, Y⟩
     ·refine AWP.skip (b6 (.q ?_))
      obtain ⟨a43, ha43, u68, hu68, h⟩ := b2 h
      refine AWP.u (.j Z Z (.j Z Z (.j Z Z (S.invokeV (r2 := .tup []) (σ'' := [.one (.cells 1 [[.own 1 0 c56.length]]), .one (vec 4 b9 a43)]) Z Z Z Z Z Z Z (FnOk.lend [1] (H7 ha43) Z Z Z Z Z Z (by exact ⟨.vec, Y⟩) Z (by exact ⟨(.live Z .vec), Y⟩) Z Z (by exact ⟨(.old Z Z Z), (.new 0 Z Z .vec), Y⟩)) (.nil (b6 (.u (.j Z Z (.z Z Z (.nil (e6 ?_)))))))))))
      obtain rfl := oi h
      refine b6 ⟨_, Z, ?_⟩
      exact Sub.cut ⟨Z, Z, Z, Z, Y⟩ Z ⟨(.eq Z (by first | rfl | rw [(ac6 hu68)] | (simp only [List.length_set]; done))), .vec, Y⟩ Z
 ·intro e s hq
  obtain ⟨rfl, hs⟩ := hq
  refine ⟨_, hs, ?_⟩
  refine i7 (b6 (.q (.u (.j Z Z (.j Z Z (.gtr Z Z Z (.z Z Z (.nil (b6 (.ret ?_))))))))))
  obtain rfl := oi h
  exact ⟨⟨[(6, .c (bool (decide (i01 < iv59))))], [.one (.cells 1 [[.own 1 0 c58.length]]), .one (vec 4 b9 c58)]⟩, Sub.env ⟨Z, Y⟩, Done.ret Z ⟨Z, Z⟩⟩
theorem T6 {l : List c9} {r : c9} (h : z7 l = some r) : FnOk prog 180 [.c (.ptr 0 0 0)] (T2 l) (fun tt ss => tt = .c (.ifc 81 [row 1 intI r.fs, int r.seen, int r.cost, int r.sequence] true) ∧ ss = [.one (.cells 1 [[.own 2 0 ((i6 l 0 (w64 ((l.length : Int) - 1))).length)]]), .dead, .one (vec 4 b9 (i6 l 0 (w64 ((l.length : Int) - 1))))]) := by
 refine FnOk.enter (rs := [.t 2]) func180 Z ntmps180 results180 Z ⟨trivial, Y⟩ (by kernel_rfl) Z ?_
 refine AWP.weak ?_
 unfold z7 at h
 refine AWP.j (env' := [(0, .c (.ptr 0 0 0))]) (σ' := [.one (.cells 1 [[.own 2 0 l.length]]), .dead, .one (vec 4 b9 l)]) 2 1 Z Z Z ⟨Z, Y⟩ Z ⟨⟨Z, Z⟩, trivial, ⟨Blk.im_ok _ _ _, j7 Z⟩, Y⟩ (.q (.u (.z Z Z (.nil (b6 (.q ?_))))))
 obtain ⟨a12, ha12, h⟩ := bind_some h
 refine AWP.drawEI [10, 11] mixed Z Z Z ?_
 refine e7.consN Z Z (fun E => AOps.j Z Z .N) Z (.consN Z Z (fun E => AOps.nilCheck Z Z Z .N) Z (.consN Z Z (fun E => AOps.E Z Z Z Z Z Z .N) Z (.consN Z Z (fun E => AOps.j Z Z .N) Z (.consN Z Z (fun E => AOps.nilCheck Z Z Z .N) Z (.consN Z Z (fun E => AOps.E Z Z Z Z Z Z .N) Z (.consN Z Z (fun E => S.lenO Z Z Z (fun hl10 => .nil ⟨Z, Z⟩)) Z (.consN Z Z (fun E => S.sub Z Z Z .N) Z (.consN Z Z (fun E => S.idxO ha12 Z Z Z Z Z .N) Z (.consN Z Z (fun E => S.loadOAgg ha12 Z Z Z Z Z Z Z .N) Z ?_)))))))))
 apply e7.consE; exact Z; exact Z; intro E
 refine W.alloc Z Z Z Z .N
 exact Z
 exact Z
 apply e7.consE (v := .undef); exact Z; exact Z; intro E
 refine W.storeAgg Z Z Z Z Z Z Z .N
 exact Z
 exact Z
 refine e7.done Z ?_ ?_
 ·refine d9.cons Z Z ?_ ?_
  refine b8.go Z Z (fun E => AOps.j Z Z .N) ?_
  refine b8.go Z Z (fun E => AOps.j Z Z .N) ?_
  refine b8.skip Z (b8.nil)
  refine d9.cons Z Z ?_ ?_
  refine b8.go Z Z (fun E => AOps.nilCheck Z Z Z .N) ?_
  refine b8.go Z Z (fun E => AOps.nilCheck Z Z Z .N) ?_
  refine b8.skip Z (b8.nil)
  refine d9.cons Z Z ?_ ?_
  refine b8.go Z Z (fun E => AOps.E Z Z Z Z Z Z .N) ?_
  refine b8.go Z Z (fun E => AOps.E Z Z Z Z Z Z .N) ?_
  refine b8.skip Z (b8.nil)
  refine d9.cons Z Z ?_ ?_
  refine b8.go Z Z (fun E => AOps.j Z Z .N) ?_
  refine b8.go Z Z (fun E => AOps.j Z Z .N) ?_
  refine b8.skip Z (b8.nil)
  refine d9.cons Z Z ?_ ?_
  refine b8.go Z Z (fun E => AOps.nilCheck Z Z Z .N) ?_
  refine b8.go Z Z (fun E => AOps.nilCheck Z Z Z .N) ?_
  refine b8.skip Z (b8.nil)
  refine d9.cons Z Z ?_ ?_
  refine b8.go Z Z (fun E => AOps.E Z Z Z Z Z Z .N) ?_
  refine b8.go Z Z (fun E => AOps.E Z Z Z Z Z Z .N) ?_
  refine b8.skip Z (b8.nil)
  refine d9.cons Z Z ?_ ?_
  apply b8.go; exact Z; exact Z; intro E; refine S.lenO Z Z Z (fun hl10 => ?_); exact AOps.nil ⟨Z, Z⟩
  apply b8.go; exact Z; exact Z; intro E; refine S.lenO Z Z Z (fun hl10 => ?_); exact AOps.nil ⟨Z, Z⟩
  refine b8.skip Z (b8.nil)
  refine d9.cons Z Z ?_ ?_
  refine b8.go Z Z (fun E => S.sub Z Z Z .N) ?_
  refine b8.go Z Z (fun E => S.sub Z Z Z .N) ?_
  refine b8.skip Z (b8.nil)
  refine d9.cons Z Z ?_ ?_
  refine b8.go Z Z (fun E => S.idxO ha12 Z Z Z Z Z .N) ?_
  refine b8.go Z Z (fun E => S.idxO ha12 Z Z Z Z Z .N) ?_
  refine b8.skip Z (b8.nil)
  refine d9.cons Z Z ?_ ?_
  refine b8.go Z Z (fun E => S.loadOAgg ha12 Z Z Z Z Z Z Z .N) ?_
  refine b8.go Z Z (fun E => S.loadOAgg ha12 Z Z Z Z Z Z Z .N) ?_
  refine b8.skip Z (b8.nil)
  refine d9.skip Z (d9.skip Z (d9.nil))
 dsimp only [l0]
 refine b6 (.q ?_)
 obtain ⟨u23, hu23, h⟩ := bind_some h
 refine AWP.drawEI [11] mixed Z Z Z ?_
 refine e7.consN Z Z (fun E => AOps.j Z Z .N) Z (.consN Z Z (fun E => AOps.j Z Z .N) Z (.consN Z Z (fun E => AOps.nilCheck Z Z Z .N) Z (.consN Z Z (fun E => AOps.E Z Z Z Z Z Z .N) Z (.consN Z Z (fun E => AOps.j Z Z .N) Z (.consN Z Z (fun E => AOps.nilCheck Z Z Z .N) Z (.consN Z Z (fun E => AOps.E Z Z Z Z Z Z .N) Z (.consN Z Z (fun E => S.lenO Z Z Z (fun hl21 => .nil ⟨Z, Z⟩)) Z (.consN Z Z (fun E => S.sub Z Z Z .N) Z (.consN Z Z (fun E => S.vTo (H4 l) hu23 Z Z Z Z Z Z .N) Z (.consN Z Z (fun E => AOps.nilCheck Z Z Z .N) Z ?_))))))))))
 apply e7.consE (v := .undef); exact Z; exact Z; intro E
 refine W.store Z Z Z Z Z .N
 exact Z
 exact Z
 refine e7.done Z ?_ ?_
 ·refine d9.cons Z Z ?_ ?_
  refine b8.go Z Z (fun E => AOps.j Z Z .N) ?_
  refine b8.skip Z (b8.nil)
  refine d9.cons Z Z ?_ ?_
  refine b8.go Z Z (fun E => AOps.j Z Z .N) ?_
  refine b8.skip Z (b8.nil)
  refine d9.cons Z Z ?_ ?_
  refine b8.go Z Z (fun E => AOps.nilCheck Z Z Z .N) ?_
  refine b8.skip Z (b8.nil)
  refine d9.cons Z Z ?_ ?_
  refine b8.go Z Z (fun E => AOps.E Z Z Z Z Z Z .N) ?_
  refine b8.skip Z (b8.nil)
  refine d9.cons Z Z ?_ ?_
  refine b8.go Z Z (fun E => AOps.j Z Z .N) ?_
  refine b8.skip Z (b8.nil)
  refine d9.cons Z Z ?_ ?_
  refine b8.go Z Z (fun E => AOps.nilCheck Z Z Z .N) ?_
  refine b8.skip Z (b8.nil)
  refine d9.cons Z Z ?_ ?_
  refine b8.go Z Z (fun E => AOps.E Z Z Z Z Z Z .N) ?_
  refine b8.skip Z (b8.nil)
  refine d9.cons Z Z ?_ ?_
  apply b8.go; exact Z; exact Z; intro E; refine S.lenO Z Z Z (fun hl21 => ?_); exact AOps.nil ⟨Z, Z⟩
  refine b8.skip Z (b8.nil)
  refine d9.cons Z Z ?_ ?_
  refine b8.go Z Z (fun E => S.sub Z Z Z .N) ?_
  refine b8.skip Z (b8.nil)
  refine d9.cons Z Z ?_ ?_
  refine b8.go Z Z (fun E => S.vTo (H4 l) hu23 Z Z Z Z Z Z .N) ?_
  refine b8.skip Z (b8.nil)
  refine d9.cons Z Z ?_ ?_
  refine b8.go Z Z (fun E => AOps.nilCheck Z Z Z .N) ?_
  refine b8.skip Z (b8.nil)
  refine d9.skip Z (d9.nil)
 dsimp only [l0]
 refine b6 (.q (.reownB (env' := [(3, .c (.ptr 3 0 0))]) (b := 0) (o := 0) 99999 Z Z Z (vw_to (H4 l) hu23) Z Z Z Z Z Z Z Z Z (by exact ⟨.inr Z, Y⟩) Z (.j (env' := [(3, .c (.ptr 3 0 0))]) (σ' := [.one (.cells 1 [[.own 2 0 ((i6 l 0 (w64 ((l.length : Int) - 1))).length)]]), .dead, .one (vec 4 b9 (i6 l 0 (w64 ((l.length : Int) - 1)))), .one (.cells 4 [[row 1 intI a12.fs, int a12.seen, int a12.cost, int a12.sequence]])]) 2 4 Z Z Z ⟨Z, Y⟩ Z ⟨⟨Z, Z⟩, trivial, ⟨Blk.im_ok _ _ _, j7 Z⟩, ⟨Z, Z⟩, Y⟩ (.u (W.loadAgg Z Z Z Z Z Z Z (S.mkIfcA Z Z Z (.z Z Z (.nil (b6 (.ret ?_))))))))))
 obtain rfl := oi h
 exact ⟨⟨[(2, .c (.ifc 81 [row 1 intI a12.fs, int a12.seen, int a12.cost, int a12.sequence] true))], [.one (.cells 1 [[.own 2 0 ((i6 l 0 (w64 ((l.length : Int) - 1))).length)]]), .dead, .one (vec 4 b9 (i6 l 0 (w64 ((l.length : Int) - 1))))]⟩, Sub.cut ⟨Z, Y⟩ Z ⟨.one Z, .dead, .vec, Y⟩ Z, Done.ret Z ⟨Z, Z⟩⟩
theorem Y2 {l : List c9} {r : (List c9) × c9} (h : x8 l = some r) : FnOk prog 44 [.c (.ifc 79 [.ptr 0 0 0] false)] (Y8 l) (fun tt ss => tt = .c (.ifc 81 [row 1 intI r.2.fs, int r.2.seen, int r.2.cost, int r.2.sequence] true) ∧ ss = [.one (.cells 1 [[.own 2 0 r.1.length]]), .dead, .one (vec 4 b9 r.1)]) := by
 refine FnOk.enter (rs := [.t 2]) func44 Z ntmps44 results44 Z ⟨trivial, Y⟩ (by kernel_rfl) Z ?_
 refine AWP.weak ?_
 unfold x8 at h
 refine AWP.q (.u (.z Z Z (.nil (b6 (.q ?_)))))
 obtain ⟨a5, ha5, h⟩ := bind_some h
 refine AWP.u (.j Z Z (S.invokeV (r2 := .c (int (l.length : Int))) (σ'' := [.one (.cells 1 [[.own 1 0 l.length]]), .one (vec 4 b9 l)]) Z Z Z Z Z Z Z (FnOk.lend [1] (I7 ha5) Z Z Z Z Z Z (by exact ⟨.vec, Y⟩) Z (by exact ⟨(.live Z .vec), Y⟩) Z Z (by exact ⟨(.old Z Z Z), (.new 0 Z Z .vec), Y⟩)) (S.sub Z Z Z (.z Z Z (.nil (b6 (.q ?_)))))))
 obtain ⟨a9, ha9, u54, hu54, h⟩ := b2 h
 refine AWP.u (.j Z Z (.j Z Z (S.invokeV (r2 := .tup []) (σ'' := [.one (.cells 1 [[.own 1 0 l.length]]), .one (vec 4 b9 a9)]) Z Z Z Z Z Z Z (FnOk.lend [1] (H7 ha9) Z Z Z Z Z Z (by exact ⟨.vec, Y⟩) Z (by exact ⟨(.live Z .vec), Y⟩) Z Z (by exact ⟨(.old Z Z Z), (.new 0 Z Z .vec), Y⟩)) (.nil (b6 (.q ?_))))))
 obtain ⟨a12, ha12, h⟩ := bind_some h
 refine AWP.u (.j Z Z (.j Z Z (.sub (s' := ⟨[(0, .c (.ifc 79 [.ptr 0 0 0] false)), (2, .c (.imm (.val .nilIface))), (3, .c (int (w64 ((l.length : Int) - 1)))), (4, .c (.ifc 79 [.ptr 0 0 0] false)), (5, .c (int (l.length : Int))), (6, .c (int (w64 ((l.length : Int) - 1)))), (7, .c (.ifc 79 [.ptr 0 0 0] false)), (8, .c (int (w64 ((l.length : Int) - 1)))), (9, .tup []), (10, .c (.ifc 79 [.ptr 0 0 0] false)), (11, .c (int (w64 ((l.length : Int) - 1))))], [.one (.cells 1 [[.own 1 0 a9.length]]), .one (vec 4 b9 a9)]⟩) (Sub.cut ⟨Z, Z, Z, Z, Z, Z, Z, Z, Z, Z, Z, Y⟩ Z ⟨(.eq Z (by rw [(ac6 hu54)])), .vec, Y⟩ Z) (.callF (r2 := .c (bool a12.2)) (σ'' := [.one (.cells 1 [[.own 1 0 a12.1.length]]), .one (vec 4 b9 a12.1)]) Z Z Z (FnOk.lend [0, 1] (W8 ha12) Z Z Z Z Z Z (by exact ⟨(.one Z), .vec, Y⟩) Z (by exact ⟨(.live Z (.one Z)), (.live Z .vec), Y⟩) Z Z (by exact ⟨(.new 0 Z Z (.one Z)), (.new 1 Z Z .vec), Y⟩)) (.nil (b6 (.q ?_)))))))
 obtain ⟨a14, ha14, h⟩ := bind_some h
 refine AWP.u (.j Z Z (S.invokeP (r2 := .c (.ifc 81 [row 1 intI a14.fs, int a14.seen, int a14.cost, int a14.sequence] true)) (σ'' := [.one (.cells 1 [[.own 2 0 ((i6 a12.1 0 (w64 ((a12.1.length : Int) - 1))).length)]]), .dead, .one (vec 4 b9 (i6 a12.1 0 (w64 ((a12.1.length : Int) - 1))))]) Z Z Z (FnOk.lend [0, 1] (T6 ha14) Z Z Z Z Z Z (by exact ⟨(.one Z), .vec, Y⟩) Z (by exact ⟨(.live Z (.one Z)), (.live Z .vec), Y⟩) Z Z (by exact ⟨(.new 0 Z Z (.one Z)), .dead, (.new 2 Z Z .vec), Y⟩)) (.z Z Z (.nil (b6 (.ret ?_))))))
 obtain rfl := oi h
 exact ⟨⟨[(2, .c (.ifc 81 [row 1 intI a14.fs, int a14.seen, int a14.cost, int a14.sequence] true))], [.one (.cells 1 [[.own 2 0 ((i6 a12.1 0 (w64 ((a12.1.length : Int) - 1))).length)]]), .dead, .one (vec 4 b9 (i6 a12.1 0 (w64 ((a12.1.length : Int) - 1))))]⟩, Sub.env ⟨Z, Y⟩, Done.ret Z ⟨Z, Z⟩⟩
theorem aa8 {t : e8} {sv : List Int} {r : Unit} (h : E5 t sv = some r) : FnOk prog 46 [.agg (tT t), .c (row 1 intI sv)] (ab2 t sv) (fun tt ss => tt = .c (.fn 74 [.ptr 0 0 0, .ptr 1 0 0]) ∧ ss = [.one (.cells 4 [(tT t)]), .one (.cells 1 [[row 1 intI sv]])]) := by
 refine FnOk.enter (rs := [.t 4]) func46 Z ntmps46 results46 Z ⟨trivial, Y⟩ (by kernel_rfl) Z ?_
 refine AWP.weak ?_
 unfold E5 at h
 refine AWP.q (.u (W.box Z Z Z Z Z Z (W.box Z Z Z Z Z Z (.z Z Z (.nil (b6 (.q (.u (.makeFunc Z Z (.z Z Z (.nil (b6 (.ret ?_)))))))))))))
 obtain rfl := oi h
 exact ⟨⟨[(4, .c (.fn 74 [.ptr 0 0 0, .ptr 1 0 0]))], [.one (.cells 4 [(tT t)]), .one (.cells 1 [[row 1 intI sv]])]⟩, Sub.env ⟨Z, Y⟩, Done.ret Z ⟨Z, Z⟩⟩
theorem U1 {xv : c9} {l : List c9} {r : (List c9)} (h : y7 xv l = some r) : FnOk prog 181 [.c (.ptr 0 0 0), .c (.ifc 81 [row 1 intI xv.fs, int xv.seen, int xv.cost, int xv.sequence] true)] (T8 xv l) (fun tt ss => tt = .tup [] ∧ ss = [.one (.cells 1 [[.own 3 0 r.length]]), .dead, .dead, .one (vec 4 b9 r)]) := by
 refine FnOk.enter (rs := []) func181 Z ntmps181 results181 Z trivial (by kernel_rfl) Z ?_
 refine AWP.weak ?_
 unfold y7 at h
 obtain ⟨a11, ha11, h⟩ := bind_some h
 refine AWP.drawEI [6, 7, 9] mixed Z Z Z ?_
 refine e7.consN Z Z (fun E => AOps.j Z Z .N) Z (.consN Z Z (fun E => AOps.j Z Z .N) Z (.consN Z Z (fun E => AOps.nilCheck Z Z Z .N) Z (.consN Z Z (fun E => AOps.E Z Z Z Z Z Z .N) Z (.consN Z Z (fun E => AOps.j Z Z .N) Z (.consN Z Z (fun E => S.assertA Z Z Z .N) Z ?_)))))
 apply e7.consE; exact Z; exact Z; intro E
 refine S.lit (f := b9) (l := [xv]) (ess := [[row 1 intI xv.fs, int xv.seen, int xv.cost, int xv.sequence]]) Z Z Z Z Z Z Z ⟨⟨.inl Z, .inl Z, .inl Z, .inl Z, Y⟩, Y⟩ Z Z Z .N
 exact Z
 exact Z
 apply e7.consE; exact Z; exact Z; intro E
 refine S.append (f := b9) ha11 Z Z Z Z Z Z (.own Z Z) Z Z Z Z .N
 exact Z
 exact Z
 refine e7.consN Z Z (fun E => AOps.nilCheck Z Z Z .N) Z ?_
 apply e7.consE (v := .undef); exact Z; exact Z; intro E
 refine W.store Z Z Z Z Z .N
 exact Z
 exact Z
 refine e7.done Z ?_ ?_
 ·refine d9.cons Z Z ?_ ?_
  refine b8.go Z Z (fun E => AOps.j Z Z .N) ?_
  refine b8.go Z Z (fun E => AOps.j Z Z .N) ?_
  refine b8.go Z Z (fun E => AOps.j Z Z .N) ?_
  refine b8.skip Z (b8.nil)
  refine d9.cons Z Z ?_ ?_
  refine b8.go Z Z (fun E => AOps.j Z Z .N) ?_
  refine b8.go Z Z (fun E => AOps.j Z Z .N) ?_
  refine b8.skip Z (b8.skip Z (b8.nil))
  refine d9.cons Z Z ?_ ?_
  refine b8.go Z Z (fun E => AOps.nilCheck Z Z Z .N) ?_
  refine b8.go Z Z (fun E => AOps.nilCheck Z Z Z .N) ?_
  refine b8.skip Z (b8.skip Z (b8.nil))
  refine d9.cons Z Z ?_ ?_
  refine b8.go Z Z (fun E => AOps.E Z Z Z Z Z Z .N) ?_
  refine b8.go Z Z (fun E => AOps.E Z Z Z Z Z Z .N) ?_
  refine b8.skip Z (b8.skip Z (b8.nil))
  refine d9.cons Z Z ?_ ?_
  refine b8.go Z Z (fun E => AOps.j Z Z .N) ?_
  refine b8.skip Z (b8.skip Z (b8.skip Z (b8.nil)))
  refine d9.cons Z Z ?_ ?_
  refine b8.go Z Z (fun E => S.assertA Z Z Z .N) ?_
  refine b8.skip Z (b8.skip Z (b8.skip Z (b8.nil)))
  refine d9.skip Z (d9.skip Z ?_)
  refine d9.cons Z Z ?_ ?_
  refine b8.skip Z (b8.skip Z ?_)
  refine b8.go Z Z (fun E => AOps.nilCheck Z Z Z .N) ?_
  refine b8.skip Z (b8.nil)
  refine d9.skip Z (d9.nil)
 dsimp only [l0]
 obtain rfl := oi h
 exact ⟨⟨[], [.one (.cells 1 [[.own 3 0 a11.length]]), .dead, .dead, .one (vec 4 b9 a11)]⟩, Sub.cut trivial Z ⟨.one Z, .dead, .dead, .vec, Y⟩ Z, Done.normal Z ⟨Z, Z⟩⟩
theorem S0 {iv : Int} {kv : Int} {l : List c9} {r : (List c9)} (h : w9 iv kv l = some r) : FnOk prog 182 [.c (.own 0 0 l.length), .c (int iv), .c (int kv)] (R8 iv kv l) (fun tt ss => tt = .tup [] ∧ ss = [.one (vec 4 b9 r)]) := by
 refine FnOk.enter (rs := []) func182 Z ntmps182 results182 Z trivial (by kernel_rfl) Z ?_
 refine AWP.weak ?_
 unfold w9 at h
 obtain ⟨a12, ha12, a16, ha16, a18, ha18, h⟩ := b3 h
 obtain ⟨a19, ha19, h⟩ := bind_some h
 refine AWP.drawEI [13, 15] mixed Z Z Z ?_
 refine e7.consN Z Z (fun E => AOps.j Z Z .N) Z (.consN Z Z (fun E => AOps.j Z Z .N) Z (.consN Z Z (fun E => AOps.j Z Z .N) Z (.consN Z Z (fun E => AOps.j Z Z .N) Z (.consN Z Z (fun E => AOps.j Z Z .N) Z (.consN Z Z (fun E => AOps.j Z Z .N) Z (.consN Z Z (fun E => S.idxO ha12 Z Z Z Z Z .N) Z (.consN Z Z (fun E => S.loadOAgg ha12 Z Z Z Z Z Z Z .N) Z (.consN Z Z (fun E => AOps.j Z Z .N) Z (.consN Z Z (fun E => AOps.j Z Z .N) Z (.consN Z Z (fun E => S.idxO ha16 Z Z Z Z Z .N) Z (.consN Z Z (fun E => S.loadOAgg ha16 Z Z Z Z Z Z Z .N) Z (.consN Z Z (fun E => S.idxO ha18 Z Z Z Z Z .N) Z ?_))))))))))))
 apply e7.consE (v := .undef); exact Z; exact Z; intro E
 refine S.storeOAgg (f := b9) (a' := a12) (ix_lt ha18) (fun _ => Z) Z Z Z Z Z Z ?_
 exact AOps.nil ⟨Z, Z⟩
 exact Z
 exact Z
 refine e7.consN Z Z (fun E => S.idxO ha19 Z (by simp only [List.length_set]) Z Z Z .N) Z ?_
 apply e7.consE (v := .undef); exact Z; exact Z; intro E
 refine S.storeOAgg (f := b9) (a' := a16) (ix_lt ha19) (fun _ => Z) Z Z Z Z Z Z ?_
 exact AOps.nil ⟨Z, Z⟩
 exact Z
 exact Z
 refine e7.done Z ?_ ?_
 ·refine d9.cons Z Z ?_ ?_
  refine b8.go Z Z (fun E => AOps.j Z Z .N) ?_
  refine b8.skip Z (b8.skip Z (b8.nil))
  refine d9.cons Z Z ?_ ?_
  refine b8.go Z Z (fun E => AOps.j Z Z .N) ?_
  refine b8.skip Z (b8.skip Z (b8.nil))
  refine d9.cons Z Z ?_ ?_
  refine b8.go Z Z (fun E => AOps.j Z Z .N) ?_
  refine b8.go Z Z (fun E => AOps.j Z Z .N) ?_
  refine b8.skip Z (b8.nil)
  refine d9.cons Z Z ?_ ?_
  refine b8.go Z Z (fun E => AOps.j Z Z .N) ?_
  refine b8.go Z Z (fun E => AOps.j Z Z .N) ?_
  refine b8.skip Z (b8.nil)
  refine d9.cons Z Z ?_ ?_
  refine b8.go Z Z (fun E => AOps.j Z Z .N) ?_
  refine b8.skip Z (b8.skip Z (b8.nil))
  refine d9.cons Z Z ?_ ?_
  refine b8.go Z Z (fun E => AOps.j Z Z .N) ?_
  refine b8.skip Z (b8.skip Z (b8.nil))
  refine d9.cons Z Z ?_ ?_
  refine b8.go Z Z (fun E => S.idxO ha12 Z Z Z Z Z .N) ?_
  refine b8.skip Z (b8.skip Z (b8.nil))
  refine d9.cons Z Z ?_ ?_
  refine b8.go Z Z (fun E => S.loadOAgg ha12 Z Z Z Z Z Z Z .N) ?_
  refine b8.skip Z (b8.skip Z (b8.nil))
  refine d9.cons Z Z ?_ ?_
  refine b8.go Z Z (fun E => AOps.j Z Z .N) ?_
  refine b8.skip Z (b8.skip Z (b8.nil))
  refine d9.cons Z Z ?_ ?_
  refine b8.go Z Z (fun E => AOps.j Z Z .N) ?_
  refine b8.skip Z (b8.skip Z (b8.nil))
  refine d9.cons Z Z ?_ ?_
  refine b8.go Z Z (fun E => S.idxO ha16 Z Z Z Z Z .N) ?_
  refine b8.skip Z (b8.skip Z (b8.nil))
  refine d9.cons Z Z ?_ ?_
  refine b8.go Z Z (fun E => S.loadOAgg ha16 Z Z Z Z Z Z Z .N) ?_
  refine b8.skip Z (b8.skip Z (b8.nil))
  refine d9.cons Z Z ?_ ?_
  refine b8.go Z Z (fun E => S.idxO ha18 Z Z Z Z Z .N) ?_
  refine b8.skip Z (b8.skip Z (b8.nil))
  refine d9.skip Z ?_
  refine d9.cons Z Z ?_ ?_
  refine b8.skip Z ?_
  refine b8.go Z Z (fun E => S.idxO ha19 Z (by simp only [List.length_set]) Z Z Z .N) ?_
  refine b8.skip Z (b8.nil)
  refine d9.skip Z (d9.nil)
 dsimp only [l0]
 obtain rfl := oi h
 exact ⟨⟨[], [.one (vec 4 b9 ((l.set iv.toNat a12).set kv.toNat a16))]⟩, Sub.env trivial, Done.normal Z ⟨Z, Z⟩⟩
theorem aa4 {j : Int} {l : List c9} {r : (List c9)} (h : A5 j l = some r) : FnOk prog 77 [.c (.ifc 79 [.ptr 0 0 0] false), .c (int j)] (N7 j l) (fun tt ss => tt = .tup [] ∧ ss = [.one (.cells 1 [[.own 1 0 r.length]]), .one (vec 4 b9 r)]) := by
 refine FnOk.enter (rs := []) func77 Z ntmps77 results77 Z trivial (by kernel_rfl) Z ?_
 refine AWP.weak ?_
 unfold A5 at h
 refine AWP.aa ?_
 obtain ⟨c56, ho1, h⟩ := bind_some h
 refine AWP.loopS ho1 (fun (c54, j55) => ⟨[(0, .c (.ifc 79 [.ptr 0 0 0] false)), (1, .c (int j55))], [.one (.cells 1 [[.own 1 0 c54.length]]), .one (vec 4 b9 c54)]⟩) (fun c56 e st => e = .exit 0 ∧ Sub (N7 j l) st ⟨[], [.one (.cells 1 [[.own 1 0 c56.length]]), .one (vec 4 b9 c56)]⟩) ?_ ?_ ?_
 ·try dsimp only
  exact Sub.env ⟨Z, Z, Y⟩
 ·intro s o h
  obtain ⟨c54, j55⟩ := s
  unfold A8 at h
  try dsimp only at h ⊢
  refine AWP.aa (.q ?_)
  obtain ⟨u7, hu7, h⟩ := bind_some h
  refine AWP.u (.j Z Z (S.sub Z Z Z (S.quo hu7 Z Z Z (.z Z Z (.nil (b6 (.q ?_)))))))
  obtain ⟨t57, hx58, h⟩ := bind_some h
  refine AWP.seqJ (⟨[(0, .c (.ifc 79 [.ptr 0 0 0] false)), (1, .c (int j55)), (4, .c (int (w64 ((w64 (j55 - 1)).tdiv 2)))), (17, .c (bool t57))], [.one (.cells 1 [[.own 1 0 c54.length]]), .one (vec 4 b9 c54)]⟩) ?_ ?_
  ·rcases bft (decide (w64 ((w64 (j55 - 1)).tdiv 2) = j55)) with hb59 | hb59
   ·replace hx58 := B3 hb59 hx58
    refine AWP.u (.j Z Z (.j Z Z (.eql Z Z Z (.j Z Z (.B Z Z Z hb59 (.B Z Z Z hb59 (.B Z Z Z hb59 (.B Z Z Z hb59 (.B Z Z Z hb59 (.J Z hb59 Z Z (.nil ?_)))))))))))
    obtain rfl := oi hx58
    refine b6 (Sub.env ⟨Z, Z, Z, Z, Y⟩)
   ·replace hx58 := B2 hb59 hx58
    obtain ⟨a15, ha15, hx58⟩ := bind_some hx58
    refine AWP.u (.j Z Z (.j Z Z (.eql Z Z Z (.j Z Z (.v Z Z Z hb59 (.j Z Z (.v Z Z Z hb59 (.j Z Z (.v Z Z Z hb59 (.j Z Z (.v Z Z Z hb59 (S.invokeV (r2 := .c (bool a15)) (σ'' := [.one (.cells 1 [[.own 1 0 c54.length]]), .one (vec 4 b9 c54)]) Z Z Z Z Z Z Z (FnOk.lend [1] (I2 ha15) Z Z Z Z Z Z (by exact ⟨.vec, Y⟩) Z (by exact ⟨(.live Z .vec), Y⟩) Z Z (by exact ⟨(.old Z Z Z), (.new 0 Z Z .vec), Y⟩)) (.v Z Z Z hb59 (.not Z Z (.U Z hb59 Z Z (.nil ?_))))))))))))))))
    obtain rfl := oi hx58
    refine b6 (Sub.env ⟨Z, Z, Z, Z, Y⟩)
  ·refine AWP.af Z h (fun hc60 h => ?_) (fun hc60 h => ?_)
   ·refine AWP.exit (e9 (D7 Z ?_))
    obtain rfl := oi h
    refine e9 ⟨_, Z, Z, ?_⟩
    exact Sub.env trivial
   ·refine AWP.skip (b6 (.q ?_))
    obtain ⟨a21, ha21, u61, hu61, h⟩ := b2 h
    refine AWP.u (.j Z Z (.j Z Z (.j Z Z (S.invokeV (r2 := .tup []) (σ'' := [.one (.cells 1 [[.own 1 0 c54.length]]), .one (vec 4 b9 a21)]) Z Z Z Z Z Z Z (FnOk.lend [1] (S0 ha21) Z Z Z Z Z Z (by exact ⟨.vec, Y⟩) Z (by exact ⟨(.live Z .vec), Y⟩) Z Z (by exact ⟨(.old Z Z Z), (.new 0 Z Z .vec), Y⟩)) (.nil (b6 (.u (.j Z Z (.z Z Z (.nil (e6 ?_)))))))))))
    obtain rfl := oi h
    refine b6 ⟨_, Z, ?_⟩
    exact Sub.cut ⟨Z, Z, Y⟩ Z ⟨(.eq Z (by first | rfl | rw [(ac6 hu61)] | (simp only [List.length_set]; done))), .vec, Y⟩ Z
 ·intro e s hq
  obtain ⟨rfl, hs⟩ := hq
  refine ⟨_, hs, ?_⟩
  refine i7 ?_
  obtain rfl := oi h
  exact ⟨⟨[], [.one (.cells 1 [[.own 1 0 c56.length]]), .one (vec 4 b9 c56)]⟩, Sub.env trivial, Done.normal Z ⟨Z, Z⟩⟩
theorem K5 {xv : c9} {l : List c9} {r : (List c9)} (h : p9 xv l = some r) : FnOk prog 47 [.c (.ifc 79 [.ptr 0 0 0] false), .c (.ifc 81 [row 1 intI xv.fs, int xv.seen, int xv.cost, int xv.sequence] true)] (X1 xv l) (fun tt ss => tt = .tup [] ∧ ss = [.one (.cells 1 [[.own 3 0 r.length]]), .dead, .dead, .one (vec 4 b9 r)]) := by
 refine FnOk.enter (rs := []) func47 Z ntmps47 results47 Z trivial (by kernel_rfl) Z ?_
 refine AWP.weak ?_
 unfold p9 at h
 refine AWP.q ?_
 obtain ⟨a6, ha6, h⟩ := bind_some h
 refine AWP.u (.j Z Z (.j Z Z (S.invokeP (r2 := .tup []) (σ'' := [.one (.cells 1 [[.own 3 0 a6.length]]), .dead, .dead, .one (vec 4 b9 a6)]) Z Z Z (FnOk.lend [0, 1] (U1 ha6) Z Z Z Z Z Z (by exact ⟨(.one Z), .vec, Y⟩) Z (by exact ⟨(.live Z (.one Z)), (.live Z .vec), Y⟩) Z Z (by exact ⟨(.new 0 Z Z (.one Z)), .dead, .dead, (.new 3 Z Z .vec), Y⟩)) (.nil (b6 ?_)))))
 obtain ⟨a9, ha9, a11, ha11, h⟩ := b2 h
 refine AWP.u (.j Z Z (.j Z Z (S.invokeV (r2 := .c (int (a6.length : Int))) (σ'' := [.one (.cells 1 [[.own 3 0 a6.length]]), .dead, .dead, .one (vec 4 b9 a6)]) Z Z Z Z Z Z Z (FnOk.lend [3] (I7 ha9) Z Z Z Z Z Z (by exact ⟨.vec, Y⟩) Z (by exact ⟨(.live Z .vec), Y⟩) Z Z (by exact ⟨(.old Z Z Z), .dead, .dead, (.new 0 Z Z .vec), Y⟩)) (S.sub Z Z Z (.callF (r2 := .tup []) (σ'' := [.one (.cells 1 [[.own 3 0 a11.length]]), .dead, .dead, .one (vec 4 b9 a11)]) Z Z Z (FnOk.lend [0, 3] (aa4 ha11) Z Z Z Z Z Z (by exact ⟨(.one Z), .vec, Y⟩) Z (by exact ⟨(.live Z (.one Z)), (.live Z .vec), Y⟩) Z Z (by exact ⟨(.new 0 Z Z (.one Z)), .dead, .dead, (.new 1 Z Z .vec), Y⟩)) (.nil ?_))))))
 obtain rfl := oi h
 exact ⟨⟨[], [.one (.cells 1 [[.own 3 0 a11.length]]), .dead, .dead, .one (vec 4 b9 a11)]⟩, Sub.env trivial, Done.normal Z ⟨Z, Z⟩⟩
end Ab
end
section
namespace Ab
open Go Go.Proofs
open Tryz
set_option maxHeartbeats 4000000
set_option linter.all false
attribute [local irreducible] AWP AOps thn inB Done f8 l6 Sub
theorem V5 {t : e8} {goals : List (List Int)} {observed : List Int} {r : (List Int)} (h : C6 t goals observed = some r) : l6 prog 21 [.agg (tT t), .c (row 1 f7 goals), .c (row 1 intI observed)] 1 (List.map intI r) := by
 unfold l6
 refine FnOk.enter (rs := [.t 6]) func21 Z ntmps21 results21 Z ⟨trivial, Y⟩ (by kernel_rfl) Z ?_
 unfold C6 at h
 refine AWP.q (.u (W.box Z Z Z Z Z Z (W.box Z Z Z Z Z Z (.z Z Z (.nil (b6 (.q ?_)))))))
 obtain ⟨a21, ha21, h⟩ := bind_some h
 refine AWP.u (S.lit (f := intI) (l := [1000000000]) (ess := [[int 1000000000]]) Z Z Z Z Z Z Z ⟨⟨.inl Z, Y⟩, Y⟩ Z Z Z (.j Z Z (S.len Z Z (fun hl20 => S.freshL (fun _ => Z) Z Z (.cons (.c (.own Z Z)) (.cons (.c .imm) .nil)) Z (Y5 ha21) Z Z ?_))))
 refine AOps.z Z Z (.nil (b6 (.q (.u (W.fieldAddr Z Z Z Z (.E Z Z Z Z Z Z (W.build Z Z Z Z (S.lit (f := b9) (l := [(⟨t.init, 0, 0, 0⟩ : c9)]) (ess := [[row 1 intI t.init, int 0, int 0, int 0]]) Z Z Z Z Z Z Z ⟨⟨.inl Z, .inl Z, .inl Z, .inl Z, Y⟩, Y⟩ Z Z Z (W.box Z Z Z Z Z Z (W.alloc Z Z Z Z (W.store Z Z Z Z Z (.nil (b6 (.q (.u (W.makeMap Value.string vI Z Z Z (.z Z Z (.nil (b6 (.q (.q (.u (W.alloc Z Z Z Z (W.store Z Z Z Z Z (.nil (b6 (.aa ?_)))))))))))))))))))))))))))
 obtain ⟨c8, ho1, h⟩ := bind_some h
 refine AWP.loopS ho1 (fun (c4, c5, c6, c7) => ⟨[(1, .c (row 1 f7 goals)), (3, .c (.ptr 0 0 0)), (5, .c (.ptr 1 0 0)), (7, .c (.own 3 0 c4.length)), (8, .c (.ptr 6 0 0)), (9, .c (.map 7)), (10, .c (.ptr 8 0 0))], [.one (.cells 4 [(tT t)]), .one (.cells 1 [[row 1 intI observed]]), .dead, .one (vec 1 intI c4), .one (vec 4 b9 c5), .one (.cells 1 [[.own 4 0 c5.length]]), .one (.cells 1 [[.ptr 5 0 0]]), .one (mapB Value.string vI c6), .one (.cells 1 [[int c7]])]⟩) (fun c8 e st => e = .exit 0 ∧ Sub [] st ⟨[(7, .c (.own 3 0 c8.length))], [.dead, .dead, .dead, .one (vec 1 intI c8)]⟩) ?_ ?_ ?_
 ·try dsimp only
  exact Sub.cut ⟨Z, Z, Z, Z, Z, Z, Z, Y⟩ Z ⟨.one Z, .one Z, .dead, .vec, .vec, .one Z, .one Z, .one Z, .one Z, Y⟩ Z
 ·intro s o h
  obtain ⟨c4, c5, c6, c7⟩ := s
  unfold G3 at h
  try dsimp only at h ⊢
  refine AWP.q (.q ?_)
  obtain ⟨a31, ha31, h⟩ := bind_some h
  refine AWP.u (.E Z Z Z Z Z Z (.nilCheck Z Z Z (.E Z Z Z Z Z Z (.callL Z Z (.cons (.c (.own Z Z)) .nil) Z (X4 ha31) Z (.gtr Z Z Z (.nil (b6 (.ite Z h (fun hc9 h => ?_) (fun hc9 h => ?_)))))))))
  ·refine AWP.skip (b6 ?_)
   obtain ⟨⟨c10, c11, c12, c13⟩, hx14, h⟩ := bind_some h
   refine AWP.seqJ (⟨[(1, .c (row 1 f7 goals)), (3, .c (.ptr 0 0 0)), (5, .c (.ptr 1 0 0)), (7, .c (.own 3 0 c10.length)), (8, .c (.ptr 6 0 0)), (9, .c (.map 7)), (10, .c (.ptr 8 0 0))], [.one (.cells 4 [(tT t)]), .one (.cells 1 [[row 1 intI observed]]), .dead, .one (vec 1 intI c10), .dead, .one (.cells 1 [[.own 9 0 c13.length]]), .one (.cells 1 [[.ptr 5 0 0]]), .one (mapB Value.string vI c11), .one (.cells 1 [[int c12]]), .one (vec 4 b9 c13)]⟩) ?_ ?_
   ·refine AWP.aa (.q ?_)
    obtain ⟨a35, ha35, hx14⟩ := bind_some hx14
    refine AWP.u (.E Z Z Z Z Z Z (S.mkIfc Z Z Z (.callF (r2 := .c (.ifc 81 [row 1 intI a35.2.fs, int a35.2.seen, int a35.2.cost, int a35.2.sequence] true)) (σ'' := [.one (.cells 4 [(tT t)]), .one (.cells 1 [[row 1 intI observed]]), .dead, .one (vec 1 intI c4), .dead, .one (.cells 1 [[.own 9 0 a35.1.length]]), .one (.cells 1 [[.ptr 5 0 0]]), .one (mapB Value.string vI c6), .one (.cells 1 [[int c7]]), .one (vec 4 b9 a35.1)]) Z Z Z (FnOk.lend [5, 4] (Y2 ha35) Z Z Z Z Z Z (by exact ⟨(.one Z), .vec, Y⟩) Z (by exact ⟨(.live Z (.one Z)), (.live Z .vec), Y⟩) Z Z (by exact ⟨(.old Z Z Z), (.old Z Z Z), .dead, (.old Z Z Z), .dead, (.new 0 Z Z (.one Z)), (.old Z Z Z), (.old Z Z Z), (.old Z Z Z), (.new 2 Z Z .vec), Y⟩)) (S.assertA Z Z Z (W.alloc Z Z Z Z (W.storeAgg Z Z Z Z Z Z Z (.nil (b6 (.q ?_)))))))))
    obtain ⟨a43, ha43, hx14⟩ := bind_some hx14
    refine AWP.u (W.fieldAddr Z Z Z Z (.E Z Z Z Z Z Z (W.fieldAddr Z Z Z Z (.E Z Z Z Z Z Z (S.lit (f := intI) (l := [a35.2.seen]) (ess := [[int a35.2.seen]]) Z Z Z Z Z Z Z ⟨⟨.inl Z, Y⟩, Y⟩ Z Z Z (.frzV (id := 11) (l := [a35.2.seen]) (env2 := [(1, .c (row 1 f7 goals)), (3, .c (.ptr 0 0 0)), (5, .c (.ptr 1 0 0)), (7, .c (.own 3 0 c4.length)), (8, .c (.ptr 6 0 0)), (9, .c (.map 7)), (10, .c (.ptr 8 0 0)), (11, .c (.ptr 10 0 0)), (38, .c (row 1 intI a35.2.fs)), (41, .c (row 1 intI [a35.2.seen]))]) (σ2 := [.one (.cells 4 [(tT t)]), .one (.cells 1 [[row 1 intI observed]]), .dead, .one (vec 1 intI c4), .dead, .one (.cells 1 [[.own 9 0 a35.1.length]]), .one (.cells 1 [[.ptr 5 0 0]]), .one (mapB Value.string vI c6), .one (.cells 1 [[int c7]]), .one (vec 4 b9 a35.1), .one (.cells 4 [[row 1 intI a35.2.fs, int a35.2.seen, int a35.2.cost, int a35.2.sequence]]), .dead]) Z Z (by exact ⟨⟨_, Z, .inl ⟨Z, Z⟩⟩, ⟨_, Z, .inl ⟨Z, Z⟩⟩, ⟨_, Z, .inl ⟨Z, Z⟩⟩, ⟨_, Z, .inl ⟨Z, Z⟩⟩, ⟨_, Z, .inl ⟨Z, Z⟩⟩, ⟨_, Z, .inl ⟨Z, Z⟩⟩, ⟨_, Z, .inl ⟨Z, Z⟩⟩, ⟨_, Z, .inl ⟨Z, Z⟩⟩, ⟨_, Z, .inl ⟨Z, Z⟩⟩, ⟨_, Z, .inr ⟨_, Z, Z, Z⟩⟩, Y⟩) Z (by exact ⟨⟨Z, .inl ⟨Z, Z⟩, .inl ⟨Z, Z⟩, .inl ⟨Z, Z⟩, .inl ⟨Z, Z⟩, Y⟩, ⟨Z, .inl ⟨Z, Z⟩, Y⟩, trivial, FrzB.vec, trivial, ⟨Z, .inl ⟨Z, Z⟩, Y⟩, ⟨Z, .inl ⟨Z, Z⟩, Y⟩, ⟨Z, Z⟩, ⟨Z, .inl ⟨Z, Z⟩, Y⟩, FrzB.vec, ⟨Z, .inl ⟨Z, Z⟩, .inl ⟨Z, Z⟩, .inl ⟨Z, Z⟩, .inl ⟨Z, Z⟩, Y⟩, trivial, Y⟩) (S.lit (f := f7) (l := [a35.2.fs, [a35.2.seen]]) (ess := [[row 1 intI a35.2.fs], [row 1 intI [a35.2.seen]]]) Z Z Z Z Z Z Z ⟨⟨.inl Z, Y⟩, ⟨.inl Z, Y⟩, Y⟩ Z Z Z (.callL Z Z (.cons (.c (.own Z Z)) .nil) Z (W0 ha43) Z (.z Z Z (.nil (b6 (.q (.q (.u (.j Z Z (.j Z Z (W.lookup (fk := Value.string) (fv := vI) (k := a43) (z := 0) keyStr Z (fun _ => Z) Z Z Z Z ?_)))))))))))))))))
    refine AOps.gtr Z Z Z (.nil (b6 (.ite Z hx14 (fun hc15 hx14 => ?_) (fun hc15 hx14 => ?_))))
    ·refine AWP.exit (e9 (i7 ?_))
     have ej := Option.some.inj hx14
     simp only [Prod.mk.injEq] at ej
     obtain ⟨ej0, ej1, ej2, ej3⟩ := ej
     subst ej0
     subst ej1
     subst ej2
     subst ej3
     refine b6 (Sub.cut ⟨Z, Z, Z, Z, Z, Z, Z, Y⟩ Z ⟨.one Z, .one Z, .dead, .vec, .dead, .one Z, .one Z, .one Z, .one Z, .vec, Y⟩ Z)
    ·refine AWP.skip (b6 (.q (.u (.j Z Z (.j Z Z (W.mapUpdate (fk := Value.string) (fv := vI) (k := a43) (a := 1) keyStr Z Z Z Z Z (.nil (b6 (.q (.q (.u (.j Z Z (S.len Z Z (fun hl51 => .j Z Z (.nil (b6 (.aa ?_)))))))))))))))))
     obtain ⟨c16, ho2, hx14⟩ := bind_some hx14
     refine AWP.forS ho2 (fun t17 c16 => ⟨[(1, .c (row 1 f7 goals)), (3, .c (.ptr 0 0 0)), (5, .c (.ptr 1 0 0)), (7, .c (.own 3 0 c16.length)), (8, .c (.ptr 6 0 0)), (9, .c (.map 7)), (10, .c (.ptr 8 0 0)), (11, .c (.ptr 10 0 0)), (50, .c (row 1 f7 goals)), (51, .c (int (goals.length : Int))), (52, .c (int t17))], [.one (.cells 4 [(tT t)]), .one (.cells 1 [[row 1 intI observed]]), .dead, .one (vec 1 intI c16), .dead, .one (.cells 1 [[.own 9 0 a35.1.length]]), .one (.cells 1 [[.ptr 5 0 0]]), .one (mapB Value.string vI (mset c6 a43 1)), .one (.cells 1 [[int c7]]), .one (vec 4 b9 a35.1), .one (.cells 4 [[row 1 intI a35.2.fs, int a35.2.seen, int a35.2.cost, int a35.2.sequence]])]⟩) (fun c16 e st => e = .exit 2 ∧ Sub [] st ⟨[(1, .c (row 1 f7 goals)), (3, .c (.ptr 0 0 0)), (5, .c (.ptr 1 0 0)), (7, .c (.own 3 0 c16.length)), (8, .c (.ptr 6 0 0)), (9, .c (.map 7)), (10, .c (.ptr 8 0 0)), (11, .c (.ptr 10 0 0))], [.one (.cells 4 [(tT t)]), .one (.cells 1 [[row 1 intI observed]]), .dead, .one (vec 1 intI c16), .dead, .one (.cells 1 [[.own 9 0 a35.1.length]]), .one (.cells 1 [[.ptr 5 0 0]]), .one (mapB Value.string vI (mset c6 a43 1)), .one (.cells 1 [[int c7]]), .one (vec 4 b9 a35.1), .one (.cells 4 [[row 1 intI a35.2.fs, int a35.2.seen, int a35.2.cost, int a35.2.sequence]])]⟩) ?_ ?_ ?_ ?_
     ·try dsimp only
      exact Sub.cut ⟨Z, Z, Z, Z, Z, Z, Z, Z, Z, Z, Z, Y⟩ Z ⟨.one Z, .one Z, .dead, .vec, .dead, .one Z, .one Z, .one Z, .one Z, .vec, .one Z, Y⟩ Z
     ·intro t17 c16 hlot17 hltt17 _
      try dsimp only
      refine AWP.q (.u (.F Z Z Z (.nil (b6 (.q (.ac Z hltt17 (.exit (e9 (e9 ⟨Z, ?_⟩)))))))))
      exact Sub.env ⟨Z, Z, Z, Z, Z, Z, Z, Z, Y⟩
     ·intro t17 c16 o hlot17 hltt17 h
      unfold C2 at h
      try dsimp only at h ⊢
      refine AWP.q (.u (.F Z Z Z (.nil (b6 (.q (.ad Z hltt17 (.skip (b6 ?_))))))))
      obtain ⟨c18, hx19, h⟩ := bind_some h
      refine AWP.seqJ (⟨[(1, .c (row 1 f7 goals)), (3, .c (.ptr 0 0 0)), (5, .c (.ptr 1 0 0)), (7, .c (.own 3 0 c18.length)), (8, .c (.ptr 6 0 0)), (9, .c (.map 7)), (10, .c (.ptr 8 0 0)), (11, .c (.ptr 10 0 0)), (50, .c (row 1 f7 goals)), (51, .c (int (goals.length : Int))), (52, .c (int t17))], [.one (.cells 4 [(tT t)]), .one (.cells 1 [[row 1 intI observed]]), .dead, .one (vec 1 intI c18), .dead, .one (.cells 1 [[.own 9 0 a35.1.length]]), .one (.cells 1 [[.ptr 5 0 0]]), .one (mapB Value.string vI (mset c6 a43 1)), .one (.cells 1 [[int c7]]), .one (vec 4 b9 a35.1), .one (.cells 4 [[row 1 intI a35.2.fs, int a35.2.seen, int a35.2.cost, int a35.2.sequence]])]⟩) ?_ ?_
      ·refine AWP.aa (.q ?_)
       obtain ⟨a55, ha55, hx19⟩ := bind_some hx19
       refine AWP.u (.j Z Z (S.idx ha55 Z Z Z Z (.ab Z Z Z Z (.z Z Z (.z Z Z (.nil (b6 ?_)))))))
       obtain ⟨t20, hx21, hx19⟩ := bind_some hx19
       refine AWP.seqJ (⟨[(1, .c (row 1 f7 goals)), (3, .c (.ptr 0 0 0)), (5, .c (.ptr 1 0 0)), (7, .c (.own 3 0 c16.length)), (8, .c (.ptr 6 0 0)), (9, .c (.map 7)), (10, .c (.ptr 8 0 0)), (11, .c (.ptr 10 0 0)), (13, .c (int t17)), (50, .c (row 1 f7 goals)), (51, .c (int (goals.length : Int))), (52, .c (int t17)), (74, .c (bool t20))], [.one (.cells 4 [(tT t)]), .one (.cells 1 [[row 1 intI observed]]), .dead, .one (vec 1 intI c16), .dead, .one (.cells 1 [[.own 9 0 a35.1.length]]), .one (.cells 1 [[.ptr 5 0 0]]), .one (mapB Value.string vI (mset c6 a43 1)), .one (.cells 1 [[int c7]]), .one (vec 4 b9 a35.1), .one (.cells 4 [[row 1 intI a35.2.fs, int a35.2.seen, int a35.2.cost, int a35.2.sequence]])]⟩) ?_ ?_
       ·rcases bft (decide (a35.2.seen = (observed.length : Int))) with hb22 | hb22
        ·replace hx21 := B3 hb22 hx21
         obtain ⟨a65, ha65, hx21⟩ := bind_some hx21
         rcases bft (decide (a65 = 1000000000)) with hb23 | hb23
         ·replace hx21 := B3 hb23 hx21
          obtain ⟨a73, ha73, hx21⟩ := bind_some hx21
          refine AWP.u (W.fieldAddr Z Z Z Z (.E Z Z Z Z Z Z (.E Z Z Z Z Z Z (S.len Z Z (fun hl60 => .eql Z Z Z (.j Z Z (.v Z Z Z hb22 (.j Z Z (.v Z Z Z hb22 (.j Z Z (.v Z Z Z hb22 (S.idxO ha65 Z Z Z Z Z (.v Z Z Z hb22 (S.loadO ha65 Z Z Z Z Z (.v Z Z Z hb22 (.eql Z Z Z (.J Z hb22 Z Z (.j Z Z (.v Z Z Z hb23 (W.fieldAddr Z Z Z Z (.v Z Z Z hb23 (.E Z Z Z Z Z Z (.v Z Z Z hb23 (.j Z Z (.v Z Z Z hb23 (.O Z Z Z Z (F8 ha73) Z (.J Z hb23 Z Z (.nil ?_))))))))))))))))))))))))))))
          obtain rfl := oi hx21
          refine b6 (Sub.env ⟨Z, Z, Z, Z, Z, Z, Z, Z, Z, Z, Z, Z, Z, Y⟩)
         ·replace hx21 := B2 hb23 hx21
          refine AWP.u (W.fieldAddr Z Z Z Z (.E Z Z Z Z Z Z (.E Z Z Z Z Z Z (S.len Z Z (fun hl60 => .eql Z Z Z (.j Z Z (.v Z Z Z hb22 (.j Z Z (.v Z Z Z hb22 (.j Z Z (.v Z Z Z hb22 (S.idxO ha65 Z Z Z Z Z (.v Z Z Z hb22 (S.loadO ha65 Z Z Z Z Z (.v Z Z Z hb22 (.eql Z Z Z (.J Z hb22 Z Z (.j Z Z (.B Z Z Z hb23 (.B Z Z Z hb23 (.B Z Z Z hb23 (.B Z Z Z hb23 (.U Z hb23 Z Z (.nil ?_))))))))))))))))))))))))
          obtain rfl := oi hx21
          refine b6 (Sub.env ⟨Z, Z, Z, Z, Z, Z, Z, Z, Z, Z, Z, Z, Z, Y⟩)
        ·replace hx21 := B2 hb22 hx21
         refine AWP.u (W.fieldAddr Z Z Z Z (.E Z Z Z Z Z Z (.E Z Z Z Z Z Z (S.len Z Z (fun hl60 => .eql Z Z Z (.j Z Z (.B Z Z Z hb22 (.B Z Z Z hb22 (.B Z Z Z hb22 (.B Z Z Z hb22 (.B Z Z Z hb22 (.U Z hb22 Z Z (.j Z Z (.B Z Z Z Z (.B Z Z Z Z (.B Z Z Z Z (.B Z Z Z Z (.U Z Z Z Z (.nil ?_)))))))))))))))))))
         obtain rfl := oi hx21
         refine b6 (Sub.env ⟨Z, Z, Z, Z, Z, Z, Z, Z, Z, Z, Z, Z, Z, Y⟩)
       ·refine AWP.af Z hx19 (fun hc24 hx19 => ?_) (fun hc24 hx19 => ?_)
        ·obtain ⟨a79, ha79, hx19⟩ := bind_some hx19
         refine AWP.u (.j Z Z (.j Z Z (W.fieldAddr Z Z Z Z (.E Z Z Z Z Z Z (S.idxO ha79 Z Z Z Z Z (S.storeO1 (f := intI) (a' := a35.2.cost) (ix_lt ha79) (fun _ => ⟨_, Z⟩) Z Z Z Z Z ?_))))))
         refine AOps.nil (e6 ?_)
         obtain rfl := oi hx19
         refine b6 (Sub.env ⟨Z, Z, Z, (Q4 (by first | rfl | simp only [List.length_set])), Z, Z, Z, Z, Z, Z, Z, Y⟩)
        ·refine AWP.skip (e6 ?_)
         obtain rfl := oi hx19
         refine b6 (Sub.env ⟨Z, Z, Z, Z, Z, Z, Z, Z, Z, Z, Z, Y⟩)
      ·refine AWP.u (.add Z Z Z (by omega) (.j Z Z (.nil ?_)))
       obtain rfl := oi h
       refine b6 (Sub.env ⟨Z, Z, Z, Z, Z, Z, Z, Z, Z, Z, Z, Y⟩)
     ·intro e s hq
      obtain ⟨rfl, hs⟩ := hq
      refine ⟨_, hs, ?_⟩
      refine i7 (b6 (.q ?_))
      obtain ⟨a84, ha84, hx14⟩ := bind_some hx14
      refine AWP.u (W.loadAgg Z Z Z Z Z Z Z (W.fieldAddr Z Z Z Z (.E Z Z Z Z Z Z (.callF (r2 := .c (.fn 74 [.ptr 11 0 0, .ptr 12 0 0])) (σ'' := [.one (.cells 4 [(tT t)]), .one (.cells 1 [[row 1 intI observed]]), .dead, .one (vec 1 intI c16), .dead, .one (.cells 1 [[.own 9 0 a35.1.length]]), .one (.cells 1 [[.ptr 5 0 0]]), .one (mapB Value.string vI (mset c6 a43 1)), .one (.cells 1 [[int c7]]), .one (vec 4 b9 a35.1), .one (.cells 4 [[row 1 intI a35.2.fs, int a35.2.seen, int a35.2.cost, int a35.2.sequence]]), .one (.cells 4 [(tT t)]), .one (.cells 1 [[row 1 intI a35.2.fs]])]) Z Z Z (FnOk.lend [] (aa8 ha84) Z Z Z Z Z Z (by exact trivial) Z (by exact trivial) Z Z (by exact ⟨(.old Z Z Z), (.old Z Z Z), .dead, (.old Z Z Z), .dead, (.old Z Z Z), (.old Z Z Z), (.old Z Z Z), (.old Z Z Z), (.old Z Z Z), (.old Z Z Z), (.new 0 Z Z (.one Z)), (.new 1 Z Z (.one Z)), Y⟩)) (.nil (b6 (.aa ?_)))))))
      obtain ⟨xr25, hr25, hx14⟩ := bind_some hx14
      refine AWP.rangeB [(3, none), (5, none), (8, none), (10, none), (11, none)] Z Z Z (fun as25 bo25 hA25 hB25 => ⟨[.one (.cells 4 [(tT t)]), .one (.cells 1 [[row 1 intI observed]]), .dead, .one (vec 1 intI c16), .dead, .one (.cells 1 [[.own 9 0 a35.1.length]]), .one (.cells 1 [[.ptr 5 0 0]]), .one (mapB Value.string vI (mset c6 a43 1)), .one (.cells 1 [[int c7]]), .one (vec 4 b9 a35.1), .one (.cells 4 [[row 1 intI a35.2.fs, int a35.2.seen, int a35.2.cost, int a35.2.sequence]]), .one (.cells 4 [(tT t)]), .one (.cells 1 [[row 1 intI a35.2.fs]]), .one (k9 133 [85, 86] as25 bo25 .ready none [(3, none), (5, none), (8, none), (10, none), (11, none)] [.ptr 0 0 0, .ptr 1 0 0, .ptr 6 0 0, .ptr 8 0 0, .ptr 10 0 0])], fun tt ss => tt = .tup [] ∧ ss = [.one (.cells 4 [(tT t)]), .one (.cells 1 [[row 1 intI observed]]), .dead, .one (vec 1 intI c16), .dead, .one (.cells 1 [[.own 14 0 xr25.2.length]]), .one (.cells 1 [[.ptr 5 0 0]]), .one (mapB Value.string vI (mset c6 a43 1)), .one (.cells 1 [[int xr25.1]]), .dead, .one (.cells 4 [[row 1 intI a35.2.fs, int a35.2.seen, int a35.2.cost, int a35.2.sequence]]), .one (.cells 4 [(tT t)]), .one (.cells 1 [[row 1 intI a35.2.fs]]), .one (k9 133 [85, 86] as25 bo25 .ready none [(3, none), (5, none), (8, none), (10, none), (11, none)] [.ptr 0 0 0, .ptr 1 0 0, .ptr 6 0 0, .ptr 8 0 0, .ptr 10 0 0]), .one (vec 4 b9 xr25.2)], Z, ?_, ?_⟩)
      ·refine FnOk.enter (rs := []) func74 Z ntmps74 results74 Z trivial (by kernel_rfl) Z ?_
       refine AWP.weak ?_
       unfold G7 at hr25
       try dsimp only at hr25
       refine AWP.j (env' := [(0, .c (.yld 13)), (1, .c (.ptr 11 0 0)), (2, .c (.ptr 12 0 0))]) (σ' := [.one (.cells 4 [(tT t)]), .one (.cells 1 [[row 1 intI observed]]), .dead, .one (vec 1 intI c16), .dead, .one (.cells 1 [[.own 14 0 a35.1.length]]), .one (.cells 1 [[.ptr 5 0 0]]), .one (mapB Value.string vI (mset c6 a43 1)), .one (.cells 1 [[int c7]]), .dead, .one (.cells 4 [[row 1 intI a35.2.fs, int a35.2.seen, int a35.2.cost, int a35.2.sequence]]), .one (.cells 4 [(tT t)]), .one (.cells 1 [[row 1 intI a35.2.fs]]), .one (k9 133 [85, 86] as25 bo25 .ready none [(3, none), (5, none), (8, none), (10, none), (11, none)] [.ptr 0 0 0, .ptr 1 0 0, .ptr 6 0 0, .ptr 8 0 0, .ptr 10 0 0]), .one (vec 4 b9 a35.1)]) 14 9 Z Z Z ⟨Z, Z, Z, Y⟩ Z ⟨⟨Z, Z⟩, ⟨Z, Z⟩, trivial, ⟨Blk.im_ok _ _ _, j7 Z⟩, trivial, ⟨Z, Z⟩, ⟨Z, Z⟩, ⟨Z, Z⟩, ⟨Z, Z⟩, trivial, ⟨Z, Z⟩, ⟨Z, Z⟩, ⟨Z, Z⟩, ⟨Z, Z⟩, ⟨Blk.im_ok _ _ _, j7 Z⟩, Y⟩ (.q (.u (W.fieldAddr Z Z Z Z (.E Z Z Z Z Z Z (S.len Z Z (fun hl7 => .j Z Z (.nil (b6 (.aa ?_)))))))))
       obtain ⟨⟨c28, c29⟩, ho3, hr25⟩ := bind_some hr25
       try dsimp only at hr25
       refine AWP.forS ho3 (fun t30 (c28, c29) => ⟨[(0, .c (.yld 13)), (1, .c (.ptr 11 0 0)), (2, .c (.ptr 12 0 0)), (7, .c (int (t.operators.length : Int))), (8, .c (int t30))], [.one (.cells 4 [(tT t)]), .one (.cells 1 [[row 1 intI observed]]), .dead, .one (vec 1 intI c16), .dead, .one (.cells 1 [[.own 14 0 c29.length]]), .one (.cells 1 [[.ptr 5 0 0]]), .one (mapB Value.string vI (mset c6 a43 1)), .one (.cells 1 [[int c28]]), .dead, .one (.cells 4 [[row 1 intI a35.2.fs, int a35.2.seen, int a35.2.cost, int a35.2.sequence]]), .one (.cells 4 [(tT t)]), .one (.cells 1 [[row 1 intI a35.2.fs]]), .one (k9 133 [85, 86] as25 bo25 .ready none [(3, none), (5, none), (8, none), (10, none), (11, none)] [.ptr 0 0 0, .ptr 1 0 0, .ptr 6 0 0, .ptr 8 0 0, .ptr 10 0 0]), .one (vec 4 b9 c29)]⟩) (fun (c28, c29) e st => e = .exit 0 ∧ Sub ([.one (.cells 4 [(tT t)]), .one (.cells 1 [[row 1 intI observed]]), .dead, .one (vec 1 intI c16), .dead, .one (.cells 1 [[.own 9 0 a35.1.length]]), .one (.cells 1 [[.ptr 5 0 0]]), .one (mapB Value.string vI (mset c6 a43 1)), .one (.cells 1 [[int c7]]), .one (vec 4 b9 a35.1), .one (.cells 4 [[row 1 intI a35.2.fs, int a35.2.seen, int a35.2.cost, int a35.2.sequence]]), .one (.cells 4 [(tT t)]), .one (.cells 1 [[row 1 intI a35.2.fs]]), .one (k9 133 [85, 86] as25 bo25 .ready none [(3, none), (5, none), (8, none), (10, none), (11, none)] [.ptr 0 0 0, .ptr 1 0 0, .ptr 6 0 0, .ptr 8 0 0, .ptr 10 0 0])] : b7) st ⟨[], [.one (.cells 4 [(tT t)]), .one (.cells 1 [[row 1 intI observed]]), .dead, .one (vec 1 intI c16), .dead, .one (.cells 1 [[.own 14 0 c29.length]]), .one (.cells 1 [[.ptr 5 0 0]]), .one (mapB Value.string vI (mset c6 a43 1)), .one (.cells 1 [[int c28]]), .dead, .one (.cells 4 [[row 1 intI a35.2.fs, int a35.2.seen, int a35.2.cost, int a35.2.sequence]]), .one (.cells 4 [(tT t)]), .one (.cells 1 [[row 1 intI a35.2.fs]]), .one (k9 133 [85, 86] as25 bo25 .ready none [(3, none), (5, none), (8, none), (10, none), (11, none)] [.ptr 0 0 0, .ptr 1 0 0, .ptr 6 0 0, .ptr 8 0 0, .ptr 10 0 0]), .one (vec 4 b9 c29)]⟩) ?_ ?_ ?_ ?_
       ·try dsimp only
        exact Sub.env ⟨Z, Z, Z, Z, Z, Y⟩
       ·intro t30 s hlot30 hltt30 _
        obtain ⟨c28, c29⟩ := s
        try dsimp only
        refine AWP.q (.u (.F Z Z Z (.nil (b6 (.q (.ac Z hltt30 (.exit (e9 (e9 ⟨Z, ?_⟩)))))))))
        exact Sub.env trivial
       ·intro t30 s o hlot30 hltt30 h
        obtain ⟨c28, c29⟩ := s
        unfold F2 at h
        try dsimp only at h ⊢
        refine AWP.q (.u (.F Z Z Z (.nil (b6 (.q (.ad Z hltt30 (.skip (b6 (.q (.aa (.q (.u (.j Z Z (.z Z Z (.nil (b6 (.q ?_)))))))))))))))))
        obtain ⟨ai14, hai14, h⟩ := bind_some h
        rcases bft (ai14) with hb31 | hb31
        ·replace h := K9 hb31 h
         obtain ⟨ai21, hai21, h⟩ := bind_some h
         refine AWP.u (W.loadAgg Z Z Z Z Z Z Z (.E Z Z Z Z Z Z (.j Z Z (.O Z Z Z Z (W1 hai14) Z (.j Z Z (.v Z Z Z hb31 (.j Z Z (.v Z Z Z hb31 (.j Z Z (.v Z Z Z hb31 (W.loadAgg Z Z Z Z Z Z Z (.v Z Z Z hb31 (.E Z Z Z Z Z Z (.v Z Z Z hb31 (.j Z Z (.v Z Z Z hb31 (S.fresh Z Z Z Z (T0 hai21) Z Z (.frzV (id := 15) (l := ai21) (env2 := [(0, .c (.yld 13)), (1, .c (.ptr 11 0 0)), (2, .c (.ptr 12 0 0)), (7, .c (int (t.operators.length : Int))), (8, .c (int t30)), (15, .c (bool ai14)), (16, .c (.yld 13)), (17, .c (int t30)), (21, .c (row 1 intI ai21))]) (σ2 := [.one (.cells 4 [(tT t)]), .one (.cells 1 [[row 1 intI observed]]), .dead, .one (vec 1 intI c16), .dead, .one (.cells 1 [[.own 14 0 c29.length]]), .one (.cells 1 [[.ptr 5 0 0]]), .one (mapB Value.string vI (mset c6 a43 1)), .one (.cells 1 [[int c28]]), .dead, .one (.cells 4 [[row 1 intI a35.2.fs, int a35.2.seen, int a35.2.cost, int a35.2.sequence]]), .one (.cells 4 [(tT t)]), .one (.cells 1 [[row 1 intI a35.2.fs]]), .one (k9 133 [85, 86] as25 bo25 .ready none [(3, none), (5, none), (8, none), (10, none), (11, none)] [.ptr 0 0 0, .ptr 1 0 0, .ptr 6 0 0, .ptr 8 0 0, .ptr 10 0 0]), .one (vec 4 b9 c29), .dead]) Z Z (by exact ⟨⟨_, Z, .inl ⟨Z, Z⟩⟩, ⟨_, Z, .inl ⟨Z, Z⟩⟩, ⟨_, Z, .inl ⟨Z, Z⟩⟩, ⟨_, Z, .inl ⟨Z, Z⟩⟩, ⟨_, Z, .inl ⟨Z, Z⟩⟩, ⟨_, Z, .inl ⟨Z, Z⟩⟩, ⟨_, Z, .inl ⟨Z, Z⟩⟩, ⟨_, Z, .inl ⟨Z, Z⟩⟩, ⟨_, Z, .inr ⟨_, Z, Z, Z⟩⟩, Y⟩) Z (by exact ⟨⟨Z, .inl ⟨Z, Z⟩, .inl ⟨Z, Z⟩, .inl ⟨Z, Z⟩, .inl ⟨Z, Z⟩, Y⟩, ⟨Z, .inl ⟨Z, Z⟩, Y⟩, trivial, FrzB.vec, trivial, ⟨Z, .inl ⟨Z, Z⟩, Y⟩, ⟨Z, .inl ⟨Z, Z⟩, Y⟩, ⟨Z, Z⟩, ⟨Z, .inl ⟨Z, Z⟩, Y⟩, trivial, ⟨Z, .inl ⟨Z, Z⟩, .inl ⟨Z, Z⟩, .inl ⟨Z, Z⟩, .inl ⟨Z, Z⟩, Y⟩, ⟨Z, .inl ⟨Z, Z⟩, .inl ⟨Z, Z⟩, .inl ⟨Z, Z⟩, .inl ⟨Z, Z⟩, Y⟩, ⟨Z, .inl ⟨Z, Z⟩, Y⟩, ⟨Z, Z⟩, FrzB.vec, trivial, Y⟩) ?_))))))))))))))))))
         refine AOps.v Z Z Z hb31 ?_; refine AOps.yieldB (E1 := [(16, .c (row 1 intI ai21)), (15, .c (int t30)), (86, .c (row 1 intI ai21)), (85, .c (int t30)), (3, .c (.ptr 0 0 0)), (5, .c (.ptr 1 0 0)), (8, .c (.ptr 6 0 0)), (10, .c (.ptr 8 0 0)), (11, .c (.ptr 10 0 0))]) (σ1 := [.one (.cells 4 [(tT t)]), .one (.cells 1 [[row 1 intI observed]]), .dead, .one (vec 1 intI c16), .dead, .one (.cells 1 [[.own 14 0 c29.length]]), .one (.cells 1 [[.ptr 5 0 0]]), .one (mapB Value.string vI (mset c6 a43 1)), .one (.cells 1 [[int c28]]), .dead, .one (.cells 4 [[row 1 intI a35.2.fs, int a35.2.seen, int a35.2.cost, int a35.2.sequence]]), .one (.cells 4 [(tT t)]), .one (.cells 1 [[row 1 intI a35.2.fs]]), .one (k9 133 [85, 86] as25 bo25 .ready none [(3, none), (5, none), (8, none), (10, none), (11, none)] [.ptr 0 0 0, .ptr 1 0 0, .ptr 6 0 0, .ptr 8 0 0, .ptr 10 0 0]), .one (vec 4 b9 c29), .dead]) hA25 hB25 Z Z Z Z Z Z Z Z Z Z ?_ ?_
         ·refine AWP.q (.u (.z Z Z (.nil (b6 (.u (.z Z Z (.nil ?_)))))))
          exact ⟨Z, Z⟩
         refine AWP.sub (s' := ⟨[(3, .c (.ptr 0 0 0)), (5, .c (.ptr 1 0 0)), (8, .c (.ptr 6 0 0)), (10, .c (.ptr 8 0 0)), (11, .c (.ptr 10 0 0)), (15, .c (int t30)), (16, .c (row 1 intI ai21))], [.one (.cells 4 [(tT t)]), .one (.cells 1 [[row 1 intI observed]]), .dead, .one (vec 1 intI c16), .dead, .one (.cells 1 [[.own 14 0 c29.length]]), .one (.cells 1 [[.ptr 5 0 0]]), .one (mapB Value.string vI (mset c6 a43 1)), .one (.cells 1 [[int c28]]), .dead, .one (.cells 4 [[row 1 intI a35.2.fs, int a35.2.seen, int a35.2.cost, int a35.2.sequence]]), .one (.cells 4 [(tT t)]), .one (.cells 1 [[row 1 intI a35.2.fs]]), .one (k9 133 [85, 86] as25 bo25 .busy none [(3, none), (5, none), (8, none), (10, none), (11, none)] [.ptr 0 0 0, .ptr 1 0 0, .ptr 6 0 0, .ptr 8 0 0, .ptr 10 0 0]), .one (vec 4 b9 c29), .dead]⟩) (Sub.env ⟨Z, Z, Z, Z, Z, Z, Z, Y⟩) (.aa (.q ?_))
         obtain ⟨ab95, hab95, h⟩ := bind_some h
         refine AWP.drawEI [14, 15] mixed Z Z Z ?_
         refine e7.consN Z Z (fun E => AOps.j Z Z .N) Z (.consN Z Z (fun E => W.fieldAddr Z Z Z Z .N) Z (.consN Z Z (fun E => AOps.E Z Z Z Z Z Z .N) Z (.consN Z Z (fun E => W.fieldAddr Z Z Z Z .N) Z (.consN Z Z (fun E => AOps.E Z Z Z Z Z Z .N) Z (.consN Z Z (fun E => W.fieldAddr Z Z Z Z .N) Z (.consN Z Z (fun E => AOps.E Z Z Z Z Z Z .N) Z (.consN Z Z (fun E => AOps.j Z Z .N) Z (.consN Z Z (fun E => S.idx hab95 Z Z Z Z .N) Z (.consN Z Z (fun E => W.fieldAddrI Z Z Z Z .N) Z (.consN Z Z (fun E => AOps.ab Z Z Z Z .N) Z (.consN Z Z (fun E => S.add Z Z Z .N) Z (.consN Z Z (fun E => AOps.E Z Z Z Z Z Z .N) Z (.consN Z Z (fun E => W.build Z Z Z Z .N) Z ?_)))))))))))))
         apply e7.consE; exact Z; exact Z; intro E
         refine W.alloc Z Z Z Z .N
         exact Z
         exact Z
         apply e7.consE (v := .undef); exact Z; exact Z; intro E
         refine W.storeAgg Z Z Z Z Z Z Z .N
         exact Z
         exact Z
         refine e7.done Z ?_ ?_
         ·refine d9.cons Z Z ?_ ?_
          refine b8.go Z Z (fun E => AOps.j Z Z .N) ?_
          refine b8.go Z Z (fun E => AOps.j Z Z .N) ?_
          refine b8.skip Z (b8.nil)
          refine d9.cons Z Z ?_ ?_
          refine b8.go Z Z (fun E => W.fieldAddr Z Z Z Z .N) ?_
          refine b8.go Z Z (fun E => W.fieldAddr Z Z Z Z .N) ?_
          refine b8.skip Z (b8.nil)
          refine d9.cons Z Z ?_ ?_
          refine b8.go Z Z (fun E => AOps.E Z Z Z Z Z Z .N) ?_
          refine b8.go Z Z (fun E => AOps.E Z Z Z Z Z Z .N) ?_
          refine b8.skip Z (b8.nil)
          refine d9.cons Z Z ?_ ?_
          refine b8.go Z Z (fun E => W.fieldAddr Z Z Z Z .N) ?_
          refine b8.go Z Z (fun E => W.fieldAddr Z Z Z Z .N) ?_
          refine b8.skip Z (b8.nil)
          refine d9.cons Z Z ?_ ?_
          refine b8.go Z Z (fun E => AOps.E Z Z Z Z Z Z .N) ?_
          refine b8.go Z Z (fun E => AOps.E Z Z Z Z Z Z .N) ?_
          refine b8.skip Z (b8.nil)
          refine d9.cons Z Z ?_ ?_
          refine b8.go Z Z (fun E => W.fieldAddr Z Z Z Z .N) ?_
          refine b8.go Z Z (fun E => W.fieldAddr Z Z Z Z .N) ?_
          refine b8.skip Z (b8.nil)
          refine d9.cons Z Z ?_ ?_
          refine b8.go Z Z (fun E => AOps.E Z Z Z Z Z Z .N) ?_
          refine b8.go Z Z (fun E => AOps.E Z Z Z Z Z Z .N) ?_
          refine b8.skip Z (b8.nil)
          refine d9.cons Z Z ?_ ?_
          refine b8.go Z Z (fun E => AOps.j Z Z .N) ?_
          refine b8.go Z Z (fun E => AOps.j Z Z .N) ?_
          refine b8.skip Z (b8.nil)
          refine d9.cons Z Z ?_ ?_
          refine b8.go Z Z (fun E => S.idx hab95 Z Z Z Z .N) ?_
          refine b8.go Z Z (fun E => S.idx hab95 Z Z Z Z .N) ?_
          refine b8.skip Z (b8.nil)
          refine d9.cons Z Z ?_ ?_
          refine b8.go Z Z (fun E => W.fieldAddrI Z Z Z Z .N) ?_
          refine b8.go Z Z (fun E => W.fieldAddrI Z Z Z Z .N) ?_
          refine b8.skip Z (b8.nil)
          refine d9.cons Z Z ?_ ?_
          refine b8.go Z Z (fun E => AOps.ab Z Z Z Z .N) ?_
          refine b8.go Z Z (fun E => AOps.ab Z Z Z Z .N) ?_
          refine b8.skip Z (b8.nil)
          refine d9.cons Z Z ?_ ?_
          refine b8.go Z Z (fun E => S.add Z Z Z .N) ?_
          refine b8.go Z Z (fun E => S.add Z Z Z .N) ?_
          refine b8.skip Z (b8.nil)
          refine d9.cons Z Z ?_ ?_
          refine b8.go Z Z (fun E => AOps.E Z Z Z Z Z Z .N) ?_
          refine b8.go Z Z (fun E => AOps.E Z Z Z Z Z Z .N) ?_
          refine b8.skip Z (b8.nil)
          refine d9.cons Z Z ?_ ?_
          refine b8.go Z Z (fun E => W.build Z Z Z Z .N) ?_
          refine b8.go Z Z (fun E => W.build Z Z Z Z .N) ?_
          refine b8.skip Z (b8.nil)
          refine d9.skip Z (d9.skip Z (d9.nil))
         dsimp only [l0]
         refine b6 (.q (.u (.E Z Z Z Z Z Z (S.add Z Z Z (W.store Z Z Z Z Z (.nil (b6 (.q ?_))))))))
         obtain ⟨ab107, hab107, h⟩ := bind_some h
         refine AWP.u (.E Z Z Z Z Z Z (S.mkIfc Z Z Z (W.loadAgg Z Z Z Z Z Z Z (S.mkIfcA Z Z Z (.callF (r2 := .tup []) (σ'' := [.one (.cells 4 [(tT t)]), .one (.cells 1 [[row 1 intI observed]]), .dead, .one (vec 1 intI c16), .dead, .one (.cells 1 [[.own 18 0 ab107.length]]), .one (.cells 1 [[.ptr 5 0 0]]), .one (mapB Value.string vI (mset c6 a43 1)), .one (.cells 1 [[int (w64 (c28 + 1))]]), .dead, .one (.cells 4 [[row 1 intI a35.2.fs, int a35.2.seen, int a35.2.cost, int a35.2.sequence]]), .one (.cells 4 [(tT t)]), .one (.cells 1 [[row 1 intI a35.2.fs]]), .one (k9 133 [85, 86] as25 bo25 .busy none [(3, none), (5, none), (8, none), (10, none), (11, none)] [.ptr 0 0 0, .ptr 1 0 0, .ptr 6 0 0, .ptr 8 0 0, .ptr 10 0 0]), .dead, .dead, .one (.cells 4 [[row 1 intI ai21, int a35.2.seen, int (w64 (a35.2.cost + ab95.cost)), int c28]]), .dead, .one (vec 4 b9 ab107)]) Z Z Z (FnOk.lend [5, 14] (K5 hab107) Z Z Z Z Z Z (by exact ⟨(.one Z), .vec, Y⟩) Z (by exact ⟨(.live Z (.one Z)), (.live Z .vec), Y⟩) Z Z (by exact ⟨(.old Z Z Z), (.old Z Z Z), .dead, (.old Z Z Z), .dead, (.new 0 Z Z (.one Z)), (.old Z Z Z), (.old Z Z Z), (.old Z Z Z), .dead, (.old Z Z Z), (.old Z Z Z), (.old Z Z Z), (.old Z Z Z), .dead, .dead, (.old Z Z Z), .dead, (.new 3 Z Z .vec), Y⟩)) (.nil (b6 ?_)))))))
         obtain ⟨t32, hx33, h⟩ := bind_some h
         refine AWP.seqJ (⟨[(8, .c (.ptr 6 0 0)), (17, .c (.ptr 16 0 0)), (121, .c (bool t32))], [.one (.cells 4 [(tT t)]), .one (.cells 1 [[row 1 intI observed]]), .dead, .one (vec 1 intI c16), .dead, .one (.cells 1 [[.own 18 0 ab107.length]]), .one (.cells 1 [[.ptr 5 0 0]]), .one (mapB Value.string vI (mset c6 a43 1)), .one (.cells 1 [[int (w64 (c28 + 1))]]), .dead, .one (.cells 4 [[row 1 intI a35.2.fs, int a35.2.seen, int a35.2.cost, int a35.2.sequence]]), .one (.cells 4 [(tT t)]), .one (.cells 1 [[row 1 intI a35.2.fs]]), .one (k9 133 [85, 86] as25 bo25 .busy none [(3, none), (5, none), (8, none), (10, none), (11, none)] [.ptr 0 0 0, .ptr 1 0 0, .ptr 6 0 0, .ptr 8 0 0, .ptr 10 0 0]), .dead, .dead, .one (.cells 4 [[row 1 intI ai21, int a35.2.seen, int (w64 (a35.2.cost + ab95.cost)), int c28]]), .dead, .one (vec 4 b9 ab107)]⟩) ?_ ?_
         ·rcases bft (decide (a35.2.seen < (observed.length : Int))) with hb34 | hb34
          ·replace hx33 := B3 hb34 hx33
           obtain ⟨ab117, hab117, hx33⟩ := bind_some hx33
           refine AWP.u (W.fieldAddr Z Z Z Z (.E Z Z Z Z Z Z (.E Z Z Z Z Z Z (S.len Z Z (fun hl111 => .F Z Z Z (.j Z Z (.v Z Z Z hb34 (.E Z Z Z Z Z Z (.v Z Z Z hb34 (W.fieldAddr Z Z Z Z (.v Z Z Z hb34 (.E Z Z Z Z Z Z (.v Z Z Z hb34 (S.idx hab117 Z Z Z Z (.v Z Z Z hb34 (.ab Z Z Z Z (.v Z Z Z hb34 (.j Z Z (.v Z Z Z hb34 (.eql Z Z Z (.J Z hb34 Z Z (.nil ?_))))))))))))))))))))))
           obtain rfl := oi hx33
           refine b6 (Sub.env ⟨Z, Z, Z, Y⟩)
          ·replace hx33 := B2 hb34 hx33
           refine AWP.u (W.fieldAddr Z Z Z Z (.E Z Z Z Z Z Z (.E Z Z Z Z Z Z (S.len Z Z (fun hl111 => .F Z Z Z (.j Z Z (.B Z Z Z hb34 (.B Z Z Z hb34 (.B Z Z Z hb34 (.B Z Z Z hb34 (.B Z Z Z hb34 (.B Z Z Z hb34 (.B Z Z Z hb34 (.U Z hb34 Z Z (.nil ?_)))))))))))))))
           obtain rfl := oi hx33
           refine b6 (Sub.env ⟨Z, Z, Z, Y⟩)
         ·refine AWP.af Z h (fun hc35 h => ?_) (fun hc35 h => ?_)
          ·refine AWP.q (.u (W.fieldAddr Z Z Z Z (.E Z Z Z Z Z Z (S.add Z Z Z (W.fieldAddr Z Z Z Z (W.store Z Z Z Z Z (.nil (b6 ?_))))))))
           obtain ⟨ab130, hab130, h⟩ := bind_some h
           refine AWP.u (.E Z Z Z Z Z Z (S.mkIfc Z Z Z (W.loadAgg Z Z Z Z Z Z Z (S.mkIfcA Z Z Z (.callF (r2 := .tup []) (σ'' := [.one (.cells 4 [(tT t)]), .one (.cells 1 [[row 1 intI observed]]), .dead, .one (vec 1 intI c16), .dead, .one (.cells 1 [[.own 20 0 ab130.length]]), .one (.cells 1 [[.ptr 5 0 0]]), .one (mapB Value.string vI (mset c6 a43 1)), .one (.cells 1 [[int (w64 (c28 + 1))]]), .dead, .one (.cells 4 [[row 1 intI a35.2.fs, int a35.2.seen, int a35.2.cost, int a35.2.sequence]]), .one (.cells 4 [(tT t)]), .one (.cells 1 [[row 1 intI a35.2.fs]]), .one (k9 133 [85, 86] as25 bo25 .busy none [(3, none), (5, none), (8, none), (10, none), (11, none)] [.ptr 0 0 0, .ptr 1 0 0, .ptr 6 0 0, .ptr 8 0 0, .ptr 10 0 0]), .dead, .dead, .one (.cells 4 [[row 1 intI ai21, int (w64 (a35.2.seen + 1)), int (w64 (a35.2.cost + ab95.cost)), int c28]]), .dead, .dead, .dead, .one (vec 4 b9 ab130)]) Z Z Z (FnOk.lend [5, 18] (K5 hab130) Z Z Z Z Z Z (by exact ⟨(.one Z), .vec, Y⟩) Z (by exact ⟨(.live Z (.one Z)), (.live Z .vec), Y⟩) Z Z (by exact ⟨(.old Z Z Z), (.old Z Z Z), .dead, (.old Z Z Z), .dead, (.new 0 Z Z (.one Z)), (.old Z Z Z), (.old Z Z Z), (.old Z Z Z), .dead, (.old Z Z Z), (.old Z Z Z), (.old Z Z Z), (.old Z Z Z), .dead, .dead, (.old Z Z Z), .dead, .dead, .dead, (.new 3 Z Z .vec), Y⟩)) (.nil (e6 (R3 Z Z (.v Z Z Z hb31 (.not Z Z (.J Z hb31 Z Z (.nil (b6 (.condF Z (.skip (e6 (b6 (.u (.add Z Z Z (by omega) (.j Z Z (.nil ?_)))))))))))))))))))))
           obtain rfl := oi h
           refine b6 ((Sub.move (env' := [(0, .c (.yld 13)), (1, .c (.ptr 11 0 0)), (2, .c (.ptr 12 0 0)), (7, .c (int (t.operators.length : Int))), (8, .c (int (t30 + 1)))]) (σ' := [.one (.cells 4 [(tT t)]), .one (.cells 1 [[row 1 intI observed]]), .dead, .one (vec 1 intI c16), .dead, .one (.cells 1 [[.own 14 0 ab130.length]]), .one (.cells 1 [[.ptr 5 0 0]]), .one (mapB Value.string vI (mset c6 a43 1)), .one (.cells 1 [[int (w64 (c28 + 1))]]), .dead, .one (.cells 4 [[row 1 intI a35.2.fs, int a35.2.seen, int a35.2.cost, int a35.2.sequence]]), .one (.cells 4 [(tT t)]), .one (.cells 1 [[row 1 intI a35.2.fs]]), .one (k9 133 [85, 86] as25 bo25 .ready none [(3, none), (5, none), (8, none), (10, none), (11, none)] [.ptr 0 0 0, .ptr 1 0 0, .ptr 6 0 0, .ptr 8 0 0, .ptr 10 0 0]), .one (vec 4 b9 ab130), .dead, .one (.cells 4 [[row 1 intI ai21, int (w64 (a35.2.seen + 1)), int (w64 (a35.2.cost + ab95.cost)), int c28]]), .dead, .dead, .dead]) 14 20 Z Z Z ⟨Z, Z, Z, Z, Z, Y⟩ Z ⟨⟨Z, Z⟩, ⟨Z, Z⟩, trivial, ⟨Blk.im_ok _ _ _, j7 Z⟩, trivial, ⟨Z, Z⟩, ⟨Z, Z⟩, ⟨Z, Z⟩, ⟨Z, Z⟩, trivial, ⟨Z, Z⟩, ⟨Z, Z⟩, ⟨Z, Z⟩, ⟨Z, Z⟩, ⟨Blk.im_ok _ _ _, j7 Z⟩, trivial, ⟨Z, Z⟩, trivial, trivial, trivial, Y⟩).trans (Sub.cut ⟨Z, Z, Z, Z, Z, Y⟩ Z ⟨.one Z, .one Z, .dead, .vec, .dead, .one Z, .one Z, .one Z, .one Z, .dead, .one Z, .one Z, .one Z, .one Z, .vec, Y⟩ Z))
          ·refine AWP.skip (e6 (R3 Z Z (.v Z Z Z hb31 (.not Z Z (.J Z hb31 Z Z (.nil (b6 (.condF Z (.skip (e6 (b6 (.u (.add Z Z Z (by omega) (.j Z Z (.nil ?_)))))))))))))))
           obtain rfl := oi h
           refine b6 ((Sub.move (env' := [(0, .c (.yld 13)), (1, .c (.ptr 11 0 0)), (2, .c (.ptr 12 0 0)), (7, .c (int (t.operators.length : Int))), (8, .c (int (t30 + 1)))]) (σ' := [.one (.cells 4 [(tT t)]), .one (.cells 1 [[row 1 intI observed]]), .dead, .one (vec 1 intI c16), .dead, .one (.cells 1 [[.own 14 0 ab107.length]]), .one (.cells 1 [[.ptr 5 0 0]]), .one (mapB Value.string vI (mset c6 a43 1)), .one (.cells 1 [[int (w64 (c28 + 1))]]), .dead, .one (.cells 4 [[row 1 intI a35.2.fs, int a35.2.seen, int a35.2.cost, int a35.2.sequence]]), .one (.cells 4 [(tT t)]), .one (.cells 1 [[row 1 intI a35.2.fs]]), .one (k9 133 [85, 86] as25 bo25 .ready none [(3, none), (5, none), (8, none), (10, none), (11, none)] [.ptr 0 0 0, .ptr 1 0 0, .ptr 6 0 0, .ptr 8 0 0, .ptr 10 0 0]), .one (vec 4 b9 ab107), .dead, .one (.cells 4 [[row 1 intI ai21, int a35.2.seen, int (w64 (a35.2.cost + ab95.cost)), int c28]]), .dead]) 14 18 Z Z Z ⟨Z, Z, Z, Z, Z, Y⟩ Z ⟨⟨Z, Z⟩, ⟨Z, Z⟩, trivial, ⟨Blk.im_ok _ _ _, j7 Z⟩, trivial, ⟨Z, Z⟩, ⟨Z, Z⟩, ⟨Z, Z⟩, ⟨Z, Z⟩, trivial, ⟨Z, Z⟩, ⟨Z, Z⟩, ⟨Z, Z⟩, ⟨Z, Z⟩, ⟨Blk.im_ok _ _ _, j7 Z⟩, trivial, ⟨Z, Z⟩, trivial, Y⟩).trans (Sub.cut ⟨Z, Z, Z, Z, Z, Y⟩ Z ⟨.one Z, .one Z, .dead, .vec, .dead, .one Z, .one Z, .one Z, .one Z, .dead, .one Z, .one Z, .one Z, .one Z, .vec, Y⟩ Z))
        ·replace h := K6 hb31 h
         refine AWP.u (W.loadAgg Z Z Z Z Z Z Z (.E Z Z Z Z Z Z (.j Z Z (.O Z Z Z Z (W1 hai14) Z (.j Z Z (.B Z Z Z hb31 (.B Z Z Z hb31 (.B Z Z Z hb31 (.B Z Z Z hb31 (.B Z Z Z hb31 (.B Z Z Z hb31 (.B Z Z Z hb31 (.B Z Z Z hb31 (.U Z hb31 Z Z (.nil (b6 (.condF Z (.skip (e6 (b6 (.u (.add Z Z Z (by omega) (.j Z Z (.nil ?_))))))))))))))))))))))))
         obtain rfl := oi h
         refine b6 (Sub.env ⟨Z, Z, Z, Z, Z, Y⟩)
       ·intro e s hq
        obtain ⟨rfl, hs⟩ := hq
        refine ⟨_, hs, ?_⟩
        refine i7 ?_
        obtain rfl := oi hr25
        exact ⟨⟨[], [.one (.cells 4 [(tT t)]), .one (.cells 1 [[row 1 intI observed]]), .dead, .one (vec 1 intI c16), .dead, .one (.cells 1 [[.own 14 0 c29.length]]), .one (.cells 1 [[.ptr 5 0 0]]), .one (mapB Value.string vI (mset c6 a43 1)), .one (.cells 1 [[int c28]]), .dead, .one (.cells 4 [[row 1 intI a35.2.fs, int a35.2.seen, int a35.2.cost, int a35.2.sequence]]), .one (.cells 4 [(tT t)]), .one (.cells 1 [[row 1 intI a35.2.fs]]), .one (k9 133 [85, 86] as25 bo25 .ready none [(3, none), (5, none), (8, none), (10, none), (11, none)] [.ptr 0 0 0, .ptr 1 0 0, .ptr 6 0 0, .ptr 8 0 0, .ptr 10 0 0]), .one (vec 4 b9 c29)]⟩, Sub.env trivial, Done.normal Z ⟨Z, Z⟩⟩
      ·rintro tt ss ⟨rfl, rfl⟩
       obtain ⟨c26, c27⟩ := xr25
       try dsimp only at hx14 ⊢
       refine ad7 Z Z (e6 (e6 ?_))
       have ej := Option.some.inj hx14
       simp only [Prod.mk.injEq] at ej
       obtain ⟨ej0, ej1, ej2, ej3⟩ := ej
       subst ej0
       subst ej1
       subst ej2
       subst ej3
       refine b6 ((Sub.move (env' := [(1, .c (row 1 f7 goals)), (3, .c (.ptr 0 0 0)), (5, .c (.ptr 1 0 0)), (7, .c (.own 3 0 c16.length)), (8, .c (.ptr 6 0 0)), (9, .c (.map 7)), (10, .c (.ptr 8 0 0))]) (σ' := [.one (.cells 4 [(tT t)]), .one (.cells 1 [[row 1 intI observed]]), .dead, .one (vec 1 intI c16), .dead, .one (.cells 1 [[.own 9 0 c27.length]]), .one (.cells 1 [[.ptr 5 0 0]]), .one (mapB Value.string vI (mset c6 a43 1)), .one (.cells 1 [[int c26]]), .one (vec 4 b9 c27), .one (.cells 4 [[row 1 intI a35.2.fs, int a35.2.seen, int a35.2.cost, int a35.2.sequence]]), .one (.cells 4 [(tT t)]), .one (.cells 1 [[row 1 intI a35.2.fs]]), .dead]) 9 14 Z Z Z ⟨Z, Z, Z, Z, Z, Z, Z, Y⟩ Z ⟨⟨Z, Z⟩, ⟨Z, Z⟩, trivial, ⟨Blk.im_ok _ _ _, j7 Z⟩, trivial, ⟨Z, Z⟩, ⟨Z, Z⟩, ⟨Z, Z⟩, ⟨Z, Z⟩, ⟨Blk.im_ok _ _ _, j7 Z⟩, ⟨Z, Z⟩, ⟨Z, Z⟩, ⟨Z, Z⟩, trivial, Y⟩).trans (Sub.cut ⟨Z, Z, Z, Z, Z, Z, Z, Y⟩ Z ⟨.one Z, .one Z, .dead, .vec, .dead, .one Z, .one Z, .one Z, .one Z, .vec, Y⟩ Z))
   ·try dsimp only at h
    refine AWP.q (.u (.E Z Z Z Z Z Z (.nil (b6 (.u (W.alloc Z Z Z Z (W.store Z Z Z Z Z (.nil ?_))))))))
    obtain rfl := oi h
    refine b6 ⟨_, Z, ?_⟩
    exact (Sub.move (env' := [(1, .c (row 1 f7 goals)), (3, .c (.ptr 0 0 0)), (5, .c (.ptr 1 0 0)), (7, .c (.own 3 0 c10.length)), (8, .c (.ptr 6 0 0)), (9, .c (.map 7)), (10, .c (.ptr 8 0 0))]) (σ' := [.one (.cells 4 [(tT t)]), .one (.cells 1 [[row 1 intI observed]]), .dead, .one (vec 1 intI c10), .dead, .one (.cells 1 [[.own 9 0 c13.length]]), .one (.cells 1 [[.ptr 5 0 0]]), .one (mapB Value.string vI c11), .one (.cells 1 [[int c12]]), .one (vec 4 b9 c13)]) 8 10 Z Z Z ⟨Z, Z, Z, Z, Z, Z, Z, Y⟩ Z ⟨⟨Z, Z⟩, ⟨Z, Z⟩, trivial, ⟨Blk.im_ok _ _ _, j7 Z⟩, trivial, ⟨Z, Z⟩, ⟨Z, Z⟩, ⟨Z, Z⟩, ⟨Z, Z⟩, ⟨Blk.im_ok _ _ _, j7 Z⟩, Y⟩).trans ((Sub.move (env' := [(1, .c (row 1 f7 goals)), (3, .c (.ptr 0 0 0)), (5, .c (.ptr 1 0 0)), (7, .c (.own 3 0 c10.length)), (8, .c (.ptr 6 0 0)), (9, .c (.map 7)), (10, .c (.ptr 8 0 0))]) (σ' := [.one (.cells 4 [(tT t)]), .one (.cells 1 [[row 1 intI observed]]), .dead, .one (vec 1 intI c10), .one (vec 4 b9 c13), .one (.cells 1 [[.own 4 0 c13.length]]), .one (.cells 1 [[.ptr 5 0 0]]), .one (mapB Value.string vI c11), .one (.cells 1 [[int c12]])]) 4 9 Z Z Z ⟨Z, Z, Z, Z, Z, Z, Z, Y⟩ Z ⟨⟨Z, Z⟩, ⟨Z, Z⟩, trivial, ⟨Blk.im_ok _ _ _, j7 Z⟩, ⟨Blk.im_ok _ _ _, j7 Z⟩, ⟨Z, Z⟩, ⟨Z, Z⟩, ⟨Z, Z⟩, ⟨Z, Z⟩, Y⟩).trans (Sub.env ⟨Z, Z, Z, Z, Z, Z, Z, Y⟩))
  ·refine AWP.exit (e9 ?_)
   obtain rfl := oi h
   refine e9 ⟨_, Z, Z, ?_⟩
   exact Sub.cut ⟨Z, Y⟩ Z ⟨.dead, .dead, .dead, .vec, Y⟩ Z
 ·intro e s hq
  obtain ⟨rfl, hs⟩ := hq
  refine ⟨_, hs, ?_⟩
  refine i7 (b6 (.q (.u (.j Z Z (.z Z Z (.nil (b6 (.ret ?_))))))))
  obtain rfl := oi h
  exact Done.ret Z (Fresh.mk Z Z)
theorem C0 {t : e8} {goals : List (List Int)} {observed : List Int} {r : (List (Int × Int)) × TFault} (h : q9 t goals observed = some r) : f8 prog 8 [.agg (tT t), .c (row 1 f7 goals), .c (row 1 intI observed)] (.tup [.c (row 2 n3 r.1), .agg [int r.2.code, int r.2.index]]) := by
 unfold f8
 refine FnOk.enter (rs := [.t 6, .cell 7 29 2]) func8 Z ntmps8 results8 Z ⟨trivial, rv _ Z, Y⟩ (by kernel_rfl) Z ?_
 unfold q9 at h
 refine AWP.q (.u (W.box Z Z Z Z Z Z (.z Z Z (W.alloc Z Z Z Z (.nil (b6 (.q (.q ?_))))))))
 obtain ⟨a16, ha16, h⟩ := bind_some h
 refine AWP.u (W.loadAgg Z Z Z Z Z Z Z (.j Z Z (.j Z Z (.O Z Z Z Z (ae0 ha16) Z (W.alloc Z Z Z Z (W.storeAgg Z Z Z Z Z Z Z (.nil (b6 (.q (.u (W.loadAgg Z Z Z Z Z Z Z (W.build Z Z Z Z (.neqP Z Z Z Z Z Z Z (.nil (b6 (.af Z h (fun hc4 h => ?_) (fun hc4 h => ?_)))))))))))))))))
 ·refine AWP.q (.drawEI [2] mixed Z Z Z ?_)
  refine e7.consN Z Z (fun E => W.loadAgg Z Z Z Z Z Z Z .N) Z (.consN Z Z (fun E => AOps.z Z Z .N) Z ?_)
  apply e7.consE (v := .undef); exact Z; exact Z; intro E
  refine W.storeAgg Z Z Z Z Z Z Z .N
  exact Z
  exact Z
  refine e7.done Z ?_ ?_
  ·refine d9.cons Z Z ?_ ?_
   refine b8.go Z Z (fun E => W.loadAgg Z Z Z Z Z Z Z .N) ?_
   refine b8.skip Z (b8.nil)
   refine d9.cons Z Z ?_ ?_
   refine b8.go Z Z (fun E => AOps.z Z Z .N) ?_
   refine b8.skip Z (b8.nil)
   refine d9.skip Z (d9.nil)
  dsimp only [l0]
  refine b6 (.nilrow 2 6 Z (.ret (f5 ?_)))
  obtain rfl := oi h
  exact Done.ret Z Z
 ·refine AWP.skip (b6 (.q ?_))
  obtain ⟨a24, ha24, a27, ha27, h⟩ := b2 h
  refine AWP.drawEI [3, 6] mixed Z Z Z ?_
  refine e7.consN Z Z (fun E => W.loadAgg Z Z Z Z Z Z Z .N) Z (.consN Z Z (fun E => AOps.j Z Z .N) Z (.consN Z Z (fun E => AOps.j Z Z .N) Z ?_))
  apply e7.consE; exact Z; exact Z; intro E
  refine S.fresh Z Z Z Z (V5 ha24) Z Z .N
  exact Z
  exact Z
  refine e7.consN Z Z (fun E => W.loadAgg Z Z Z Z Z Z Z .N) Z (.consN Z Z (fun E => AOps.j Z Z .N) Z ?_)
  apply e7.consE; exact Z; exact Z; intro E
  refine S.fresh Z Z Z Z (l6.nil (by exact ⟨⟨(.inl Z), (.inl Z), (.inl Z), (.inl Z), Y⟩, (.inl Z), (.inr ⟨Z, _, Z⟩), Y⟩) (V5 ha27)) Z Z .N
  exact Z
  exact Z
  refine e7.consN Z Z (fun E => AOps.z Z Z .N) Z (.consN Z Z (fun E => AOps.z Z Z .N) Z ?_)
  refine e7.done Z ?_ ?_
  ·refine d9.cons Z Z ?_ ?_
   refine b8.go Z Z (fun E => W.loadAgg Z Z Z Z Z Z Z .N) ?_
   refine b8.skip Z (b8.skip Z (b8.nil))
   refine d9.cons Z Z ?_ ?_
   refine b8.go Z Z (fun E => AOps.j Z Z .N) ?_
   refine b8.skip Z (b8.skip Z (b8.nil))
   refine d9.cons Z Z ?_ ?_
   refine b8.go Z Z (fun E => AOps.j Z Z .N) ?_
   refine b8.skip Z (b8.skip Z (b8.nil))
   refine d9.skip Z ?_
   refine d9.cons Z Z ?_ ?_
   refine b8.go Z Z (fun E => W.loadAgg Z Z Z Z Z Z Z .N) ?_
   refine b8.go Z Z (fun E => W.loadAgg Z Z Z Z Z Z Z .N) ?_
   refine b8.skip Z (b8.nil)
   refine d9.cons Z Z ?_ ?_
   refine b8.go Z Z (fun E => AOps.j Z Z .N) ?_
   refine b8.go Z Z (fun E => AOps.j Z Z .N) ?_
   refine b8.skip Z (b8.nil)
   refine d9.skip Z ?_
   refine d9.cons Z Z ?_ ?_
   refine b8.skip Z (b8.skip Z ?_)
   refine b8.go Z Z (fun E => AOps.z Z Z .N) ?_
   exact b8.nil
   refine d9.cons Z Z ?_ ?_
   refine b8.skip Z (b8.skip Z ?_)
   refine b8.go Z Z (fun E => AOps.z Z Z .N) ?_
   exact b8.nil
   exact d9.nil
  dsimp only [l0]
  refine b6 (.q (.u (.z Z Z (.nil (b6 (.q (.q (.u (.j Z Z (S.len Z Z (fun hl29 => .j Z Z (.nil (b6 (.aa (.virtV 2 n3 11 Z Z Z ?_)))))))))))))))
  obtain ⟨c5, ho1, h⟩ := bind_some h
  refine AWP.forS ho1 (fun t6 c5 => ⟨[(7, .c (.ptr 1 0 0)), (9, .c (.own 3 0 a24.length)), (10, .c (.own 4 0 a27.length)), (11, .c (.own 5 0 c5.length)), (29, .c (int (goals.length : Int))), (30, .c (int t6))], [.dead, .one (.cells 2 [[int 0, int 0]]), .dead, .one (vec 1 intI a24), .one (vec 1 intI a27), .one (vec 2 n3 c5)]⟩) (fun c5 e st => e = .exit 0 ∧ Sub [] st ⟨[(7, .c (.ptr 1 0 0)), (11, .c (.own 5 0 c5.length))], [.dead, .one (.cells 2 [[int 0, int 0]]), .dead, .one (vec 1 intI a24), .one (vec 1 intI a27), .one (vec 2 n3 c5)]⟩) ?_ ?_ ?_ ?_
  ·try dsimp only
   exact Sub.cut ⟨Z, Z, Z, (Q4 (by first | rfl | simp only [List.length_set])), Z, Z, Y⟩ Z ⟨.dead, .one Z, .dead, .vec, .vec, .vec, Y⟩ Z
  ·intro t6 c5 hlot6 hltt6 _
   try dsimp only
   refine AWP.q (.u (.F Z Z Z (.nil (b6 (.q (.ac Z hltt6 (.exit (e9 (e9 ⟨Z, ?_⟩)))))))))
   exact Sub.env ⟨Z, Z, Y⟩
  ·intro t6 c5 o hlot6 hltt6 h
   unfold G2 at h
   try dsimp only at h ⊢
   refine AWP.q (.u (.F Z Z Z (.nil (b6 (.q (.ad Z hltt6 (.skip (b6 (.q (.aa (.q (.u (.j Z Z (.z Z Z (.nil (b6 ?_))))))))))))))))
   obtain ⟨a36, ha36, a40, ha40, a44, ha44, h⟩ := b3 h
   refine AWP.drawEI [10, 11] mixed Z Z Z ?_
   refine e7.consN Z Z (fun E => AOps.j Z Z .N) Z (.consN Z Z (fun E => AOps.j Z Z .N) Z (.consN Z Z (fun E => AOps.j Z Z .N) Z (.consN Z Z (fun E => S.idxO ha36 Z Z Z Z Z .N) Z (.consN Z Z (fun E => S.loadO ha36 Z Z Z Z Z .N) Z (.consN Z Z (fun E => AOps.j Z Z .N) Z (.consN Z Z (fun E => AOps.j Z Z .N) Z (.consN Z Z (fun E => S.idxO ha40 Z Z Z Z Z .N) Z (.consN Z Z (fun E => S.loadO ha40 Z Z Z Z Z .N) Z (.consN Z Z (fun E => AOps.buildA Z Z Z Z .N) Z ?_)))))))))
   apply e7.consE; exact Z; exact Z; intro E
   refine S.lit (f := n3) (l := [(a36, a40)]) (ess := [[int a36, int a40]]) Z Z Z Z Z Z Z ⟨⟨.inl Z, .inl Z, Y⟩, Y⟩ Z Z Z .N
   exact Z
   exact Z
   apply e7.consE; exact Z; exact Z; intro E
   refine S.append (f := n3) ha44 Z Z Z Z Z Z (.own Z Z) Z Z Z Z .N
   exact Z
   exact Z
   refine e7.consN Z Z (fun E => AOps.z Z Z .N) Z ?_
   refine e7.done Z ?_ ?_
   ·refine d9.cons Z Z ?_ ?_
    refine b8.go Z Z (fun E => AOps.j Z Z .N) ?_
    refine b8.go Z Z (fun E => AOps.j Z Z .N) ?_
    refine b8.skip Z (b8.nil)
    refine d9.cons Z Z ?_ ?_
    refine b8.go Z Z (fun E => AOps.j Z Z .N) ?_
    refine b8.skip Z (b8.skip Z (b8.nil))
    refine d9.cons Z Z ?_ ?_
    refine b8.go Z Z (fun E => AOps.j Z Z .N) ?_
    refine b8.skip Z (b8.skip Z (b8.nil))
    refine d9.cons Z Z ?_ ?_
    refine b8.go Z Z (fun E => S.idxO ha36 Z Z Z Z Z .N) ?_
    refine b8.skip Z (b8.skip Z (b8.nil))
    refine d9.cons Z Z ?_ ?_
    refine b8.go Z Z (fun E => S.loadO ha36 Z Z Z Z Z .N) ?_
    refine b8.skip Z (b8.skip Z (b8.nil))
    refine d9.cons Z Z ?_ ?_
    refine b8.go Z Z (fun E => AOps.j Z Z .N) ?_
    refine b8.skip Z (b8.skip Z (b8.nil))
    refine d9.cons Z Z ?_ ?_
    refine b8.go Z Z (fun E => AOps.j Z Z .N) ?_
    refine b8.skip Z (b8.skip Z (b8.nil))
    refine d9.cons Z Z ?_ ?_
    refine b8.go Z Z (fun E => S.idxO ha40 Z Z Z Z Z .N) ?_
    refine b8.skip Z (b8.skip Z (b8.nil))
    refine d9.cons Z Z ?_ ?_
    refine b8.go Z Z (fun E => S.loadO ha40 Z Z Z Z Z .N) ?_
    refine b8.skip Z (b8.skip Z (b8.nil))
    refine d9.cons Z Z ?_ ?_
    refine b8.go Z Z (fun E => AOps.buildA Z Z Z Z .N) ?_
    refine b8.skip Z (b8.skip Z (b8.nil))
    refine d9.skip Z (d9.skip Z ?_)
    refine d9.cons Z Z ?_ ?_
    refine b8.skip Z (b8.skip Z ?_)
    refine b8.go Z Z (fun E => AOps.z Z Z .N) ?_
    exact b8.nil
    exact d9.nil
   dsimp only [l0]
   refine e6 (b6 (.j (env' := [(7, .c (.ptr 1 0 0)), (9, .c (.own 3 0 a24.length)), (10, .c (.own 4 0 a27.length)), (11, .c (.own 5 0 a44.length)), (29, .c (int (goals.length : Int))), (30, .c (int t6))]) (σ' := [.dead, .one (.cells 2 [[int 0, int 0]]), .dead, .one (vec 1 intI a24), .one (vec 1 intI a27), .one (vec 2 n3 a44), .one (vec 2 n3 [(a36, a40)])]) 5 7 Z Z Z ⟨Z, Z, Z, Z, Z, Z, Y⟩ Z ⟨trivial, ⟨Z, Z⟩, trivial, ⟨Blk.im_ok _ _ _, j7 Z⟩, ⟨Blk.im_ok _ _ _, j7 Z⟩, ⟨Blk.im_ok _ _ _, j7 Z⟩, ⟨Blk.im_ok _ _ _, j7 Z⟩, Y⟩ (.u (.add Z Z Z (by omega) (.j Z Z (.nil ?_))))))
   obtain rfl := oi h
   refine b6 (Sub.cut ⟨Z, Z, Z, Z, Z, Z, Y⟩ Z ⟨.dead, .one Z, .dead, .vec, .vec, .vec, Y⟩ Z)
  ·intro e s hq
   obtain ⟨rfl, hs⟩ := hq
   refine ⟨_, hs, ?_⟩
   refine i7 (b6 (.q (.u (.j Z Z (W.build Z Z Z Z (.z Z Z (W.storeAgg Z Z Z Z Z Z Z (.nil (b6 (.frzV (id := 5) (l := c5) (env2 := [(6, .c (row 2 n3 c5)), (7, .c (.ptr 1 0 0))]) (σ2 := [.dead, .one (.cells 2 [[int 0, int 0]]), .dead, .one (vec 1 intI a24), .one (vec 1 intI a27), .dead]) Z Z (by exact ⟨⟨_, Z, .inr ⟨_, Z, Z, Z⟩⟩, ⟨_, Z, .inl ⟨Z, Z⟩⟩, Y⟩) Z (by exact ⟨trivial, ⟨Z, .inl ⟨Z, Z⟩, .inl ⟨Z, Z⟩, Y⟩, trivial, FrzB.vec, FrzB.vec, trivial, Y⟩) (.ret ?_)))))))))))
   obtain rfl := oi h
   exact Done.ret Z Z
theorem af3 {t : e8} {goals : List (List Int)} {observed : List Int} {r : (List Int) × TFault} (h : B6 t goals observed = some r) : f8 prog 9 [.agg (tT t), .c (row 1 f7 goals), .c (row 1 intI observed)] (.tup [.c (row 1 intI r.1), .agg [int r.2.code, int r.2.index]]) := by
 unfold f8
 refine FnOk.enter (rs := [.t 6, .cell 7 29 2]) func9 Z ntmps9 results9 Z ⟨trivial, rv _ Z, Y⟩ (by kernel_rfl) Z ?_
 unfold B6 at h
 refine AWP.q (.u (W.box Z Z Z Z Z Z (.z Z Z (W.alloc Z Z Z Z (.nil (b6 (.q ?_)))))))
 obtain ⟨a20, ha20, h⟩ := bind_some h
 refine AWP.u (W.loadAgg Z Z Z Z Z Z Z (.j Z Z (.j Z Z (.O Z Z Z Z (C0 ha20) Z (.j Z Z (.ag Z Z Z (.ag Z Z Z (W.alloc Z Z Z Z (.z Z Z (W.storeAgg Z Z Z Z Z Z Z (.nil (b6 (.q (.q (.u (W.loadAgg Z Z Z Z Z Z Z (W.build Z Z Z Z (.neqP Z Z Z Z Z Z Z (.nil (b6 (.af Z h (fun hc4 h => ?_) (fun hc4 h => ?_))))))))))))))))))))))
 ·refine AWP.q (.drawEI [2] mixed Z Z Z ?_)
  refine e7.consN Z Z (fun E => W.loadAgg Z Z Z Z Z Z Z .N) Z (.consN Z Z (fun E => AOps.z Z Z .N) Z ?_)
  apply e7.consE (v := .undef); exact Z; exact Z; intro E
  refine W.storeAgg Z Z Z Z Z Z Z .N
  exact Z
  exact Z
  refine e7.done Z ?_ ?_
  ·refine d9.cons Z Z ?_ ?_
   refine b8.go Z Z (fun E => W.loadAgg Z Z Z Z Z Z Z .N) ?_
   refine b8.skip Z (b8.nil)
   refine d9.cons Z Z ?_ ?_
   refine b8.go Z Z (fun E => AOps.z Z Z .N) ?_
   refine b8.skip Z (b8.nil)
   refine d9.skip Z (d9.nil)
  dsimp only [l0]
  refine b6 (.nilrow 1 6 Z (.ret (f5 ?_)))
  obtain rfl := oi h
  exact Done.ret Z Z
 ·refine AWP.skip (b6 (.q (.u (.z Z Z (.nil (b6 (.q (.q (.u (.j Z Z (S.len Z Z (fun hl28 => .j Z Z (.nil (b6 (.aa ?_)))))))))))))))
  obtain ⟨least5, ho1, h⟩ := bind_some h
  refine AWP.forS ho1 (fun t6 least5 => ⟨[(7, .c (.ptr 1 0 0)), (8, .c (row 2 n3 a20.1)), (10, .c (int least5)), (27, .c (row 2 n3 a20.1)), (28, .c (int (a20.1.length : Int))), (29, .c (int t6))], [.dead, .one (.cells 2 [[int 0, int 0]])]⟩) (fun least5 e st => e = .exit 0 ∧ Sub [] st ⟨[(7, .c (.ptr 1 0 0)), (8, .c (row 2 n3 a20.1)), (10, .c (int least5))], [.dead, .one (.cells 2 [[int 0, int 0]])]⟩) ?_ ?_ ?_ ?_
  ·try dsimp only
   exact Sub.cut ⟨Z, Z, Z, Z, Z, Z, Y⟩ Z ⟨.dead, .one Z, Y⟩ Z
  ·intro t6 least5 hlot6 hltt6 _
   try dsimp only
   refine AWP.q (.u (.F Z Z Z (.nil (b6 (.q (.ac Z hltt6 (.exit (e9 (e9 ⟨Z, ?_⟩)))))))))
   exact Sub.env ⟨Z, Z, Z, Y⟩
  ·intro t6 least5 o hlot6 hltt6 h
   unfold H3 at h
   try dsimp only at h ⊢
   refine AWP.q (.u (.F Z Z Z (.nil (b6 (.q (.ad Z hltt6 (.skip (b6 ?_))))))))
   obtain ⟨least7, hx8, h⟩ := bind_some h
   refine AWP.seqJ (⟨[(7, .c (.ptr 1 0 0)), (8, .c (row 2 n3 a20.1)), (10, .c (int least7)), (27, .c (row 2 n3 a20.1)), (28, .c (int (a20.1.length : Int))), (29, .c (int t6))], [.dead, .one (.cells 2 [[int 0, int 0]])]⟩) ?_ ?_
   ·refine AWP.aa (.q ?_)
    obtain ⟨a31, ha31, hx8⟩ := bind_some hx8
    refine AWP.u (S.idx ha31 Z Z Z Z (W.loadIAgg Z Z Z Z Z (W.alloc Z Z Z Z (W.storeAgg Z Z Z Z Z Z Z (.nil (b6 (.q (.u (W.idxArr Z Z Z Z (Nat.le_of_ble_eq_true Z) Z (.E Z Z Z Z Z Z (.F Z Z Z (.nil (b6 (.ite Z hx8 (fun hc9 hx8 => ?_) (fun hc9 hx8 => ?_)))))))))))))))
    ·refine AWP.u (.j Z Z (W.idxArr Z Z Z Z (Nat.le_of_ble_eq_true Z) Z (.E Z Z Z Z Z Z (W.idxArr Z Z Z Z (Nat.le_of_ble_eq_true Z) Z (.E Z Z Z Z Z Z (S.sub Z Z Z (.min2 Z Z Z (.z Z Z (.nil (e6 ?_))))))))))
     obtain rfl := oi hx8
     refine b6 (Sub.cut ⟨Z, Z, Z, Z, Z, Z, Y⟩ Z ⟨.dead, .one Z, Y⟩ Z)
    ·refine AWP.skip (e6 ?_)
     obtain rfl := oi hx8
     refine b6 (Sub.cut ⟨Z, Z, Z, Z, Z, Z, Y⟩ Z ⟨.dead, .one Z, Y⟩ Z)
   ·refine AWP.u (.add Z Z Z (by omega) (.j Z Z (.nil ?_)))
    obtain rfl := oi h
    refine b6 (Sub.env ⟨Z, Z, Z, Z, Z, Z, Y⟩)
  ·intro e s hq
   obtain ⟨rfl, hs⟩ := hq
   refine ⟨_, hs, ?_⟩
   refine i7 (b6 (.q (.u (.z Z Z (.nil (b6 (.q (.q (.u (.j Z Z (S.len Z Z (fun hl45 => .j Z Z (.nil (b6 (.aa (.virtV 1 intI 13 Z Z Z ?_))))))))))))))))
   obtain ⟨c10, ho2, h⟩ := bind_some h
   refine AWP.forS ho2 (fun t11 c10 => ⟨[(7, .c (.ptr 1 0 0)), (10, .c (int least5)), (13, .c (.own 2 0 c10.length)), (44, .c (row 2 n3 a20.1)), (45, .c (int (a20.1.length : Int))), (46, .c (int t11))], [.dead, .one (.cells 2 [[int 0, int 0]]), .one (vec 1 intI c10)]⟩) (fun c10 e st => e = .exit 2 ∧ Sub [] st ⟨[(7, .c (.ptr 1 0 0)), (13, .c (.own 2 0 c10.length))], [.dead, .one (.cells 2 [[int 0, int 0]]), .one (vec 1 intI c10)]⟩) ?_ ?_ ?_ ?_
   ·try dsimp only
    exact Sub.env ⟨Z, Z, (Q4 (by first | rfl | simp only [List.length_set])), Z, Z, Z, Y⟩
   ·intro t11 c10 hlot11 hltt11 _
    try dsimp only
    refine AWP.q (.u (.F Z Z Z (.nil (b6 (.q (.ac Z hltt11 (.exit (e9 (e9 ⟨Z, ?_⟩)))))))))
    exact Sub.env ⟨Z, Z, Y⟩
   ·intro t11 c10 o hlot11 hltt11 h
    unfold H1 at h
    try dsimp only at h ⊢
    refine AWP.q (.u (.F Z Z Z (.nil (b6 (.q (.ad Z hltt11 (.skip (b6 ?_))))))))
    obtain ⟨c12, hx13, h⟩ := bind_some h
    refine AWP.seqJ (⟨[(7, .c (.ptr 1 0 0)), (10, .c (int least5)), (13, .c (.own 5 0 c12.length)), (44, .c (row 2 n3 a20.1)), (45, .c (int (a20.1.length : Int))), (46, .c (int t11))], [.dead, .one (.cells 2 [[int 0, int 0]]), .dead, .dead, .dead, .one (vec 1 intI c12)]⟩) ?_ ?_
    ·refine AWP.aa (.q ?_)
     obtain ⟨a49, ha49, hx13⟩ := bind_some hx13
     refine AWP.u (.j Z Z (S.idx ha49 Z Z Z Z (W.loadIAgg Z Z Z Z Z (W.alloc Z Z Z Z (.z Z Z (W.storeAgg Z Z Z Z Z Z Z (.nil (b6 (.seqJ (⟨[(7, .c (.ptr 1 0 0)), (10, .c (int least5)), (13, .c (.own 2 0 c10.length)), (14, .c (int t11)), (44, .c (row 2 n3 a20.1)), (45, .c (int (a20.1.length : Int))), (46, .c (int t11)), (62, .c (bool ((decide (a49.1 < 1000000000)) && (decide (w64 (a49.1 - a49.2) = least5)))))], [.dead, .one (.cells 2 [[int 0, int 0]]), .one (vec 1 intI c10), .one (.cells 2 [[int a49.1, int a49.2]])]⟩) ?_ ?_)))))))))
     ·rcases bft (decide (a49.1 < 1000000000)) with hb1 | hb1
      ·refine AWP.u (W.idxArr Z Z Z Z (Nat.le_of_ble_eq_true Z) Z (.E Z Z Z Z Z Z (.F Z Z Z (.j Z Z (.v Z Z Z hb1 (W.idxArr Z Z Z Z (Nat.le_of_ble_eq_true Z) Z (.v Z Z Z hb1 (.E Z Z Z Z Z Z (.v Z Z Z hb1 (W.idxArr Z Z Z Z (Nat.le_of_ble_eq_true Z) Z (.v Z Z Z hb1 (.E Z Z Z Z Z Z (.v Z Z Z hb1 (S.sub Z Z Z (.v Z Z Z hb1 (.j Z Z (.v Z Z Z hb1 (.eql Z Z Z (.J Z hb1 Z Z (.nil (b6 ?_)))))))))))))))))))))
       simp only [and_t hb1, or_t hb1, Bool.false_or, Bool.true_or, Bool.false_and, Bool.true_and]
       exact Sub.env ⟨Z, Z, Z, Z, Z, Z, Z, Z, Y⟩
      ·refine AWP.u (W.idxArr Z Z Z Z (Nat.le_of_ble_eq_true Z) Z (.E Z Z Z Z Z Z (.F Z Z Z (.j Z Z (.B Z Z Z hb1 (.B Z Z Z hb1 (.B Z Z Z hb1 (.B Z Z Z hb1 (.B Z Z Z hb1 (.B Z Z Z hb1 (.B Z Z Z hb1 (.U Z hb1 Z Z (.nil (b6 ?_))))))))))))))
       simp only [and_f hb1, or_f hb1, Bool.false_or, Bool.true_or, Bool.false_and, Bool.true_and]
       exact Sub.env ⟨Z, Z, Z, Z, Z, Z, Z, Z, Y⟩
     ·refine AWP.af Z hx13 (fun hc14 hx13 => ?_) (fun hc14 hx13 => ?_)
      ·obtain ⟨a66, ha66, hx13⟩ := bind_some hx13
       refine AWP.u (.j Z Z (.j Z Z (S.lit (f := intI) (l := [t11]) (ess := [[int t11]]) Z Z Z Z Z Z Z ⟨⟨.inl Z, Y⟩, Y⟩ Z Z Z (S.append (f := intI) ha66 Z Z Z Z Z Z (.own Z Z) Z Z Z Z (.z Z Z (.nil (e6 ?_)))))))
       obtain rfl := oi hx13
       refine b6 (Sub.cut ⟨Z, Z, Z, Z, Z, Z, Y⟩ Z ⟨.dead, .one Z, .dead, .dead, .dead, .vec, Y⟩ Z)
      ·refine AWP.skip (e6 ?_)
       obtain rfl := oi hx13
       refine b6 ((Sub.move (env' := [(7, .c (.ptr 1 0 0)), (10, .c (int least5)), (13, .c (.own 5 0 c10.length)), (44, .c (row 2 n3 a20.1)), (45, .c (int (a20.1.length : Int))), (46, .c (int t11))]) (σ' := [.dead, .one (.cells 2 [[int 0, int 0]]), .dead, .one (.cells 2 [[int a49.1, int a49.2]]), .dead, .one (vec 1 intI c10)]) 5 2 Z Z Z ⟨Z, Z, Z, Z, Z, Z, Y⟩ Z ⟨trivial, ⟨Z, Z⟩, trivial, ⟨Z, Z⟩, trivial, ⟨Blk.im_ok _ _ _, j7 Z⟩, Y⟩).trans (Sub.cut ⟨Z, Z, Z, Z, Z, Z, Y⟩ Z ⟨.dead, .one Z, .dead, .dead, .dead, .vec, Y⟩ Z))
    ·refine AWP.u (.add Z Z Z (by omega) (.j Z Z (.nil ?_)))
     obtain rfl := oi h
     refine b6 ((Sub.move (env' := [(7, .c (.ptr 1 0 0)), (10, .c (int least5)), (13, .c (.own 2 0 c12.length)), (44, .c (row 2 n3 a20.1)), (45, .c (int (a20.1.length : Int))), (46, .c (int (t11 + 1)))]) (σ' := [.dead, .one (.cells 2 [[int 0, int 0]]), .one (vec 1 intI c12), .dead, .dead]) 2 5 Z Z Z ⟨Z, Z, Z, Z, Z, Z, Y⟩ Z ⟨trivial, ⟨Z, Z⟩, ⟨Blk.im_ok _ _ _, j7 Z⟩, trivial, trivial, Y⟩).trans (Sub.cut ⟨Z, Z, Z, Z, Z, Z, Y⟩ Z ⟨.dead, .one Z, .vec, Y⟩ Z))
   ·intro e s hq
    obtain ⟨rfl, hs⟩ := hq
    refine ⟨_, hs, ?_⟩
    refine i7 (b6 (.q (.u (.j Z Z (W.build Z Z Z Z (.z Z Z (W.storeAgg Z Z Z Z Z Z Z (.nil (b6 (.frzV (id := 2) (l := c10) (env2 := [(6, .c (row 1 intI c10)), (7, .c (.ptr 1 0 0))]) (σ2 := [.dead, .one (.cells 2 [[int 0, int 0]]), .dead]) Z Z (by exact ⟨⟨_, Z, .inr ⟨_, Z, Z, Z⟩⟩, ⟨_, Z, .inl ⟨Z, Z⟩⟩, Y⟩) Z (by exact ⟨trivial, ⟨Z, .inl ⟨Z, Z⟩, .inl ⟨Z, Z⟩, Y⟩, trivial, Y⟩) (.ret ?_)))))))))))
    obtain rfl := oi h
    exact Done.ret Z Z
theorem R2 {nv : Int} {low : Int} {high : Int} {r : Bool} (h : H6 nv low high = some r) : f8 prog 16 [.c (int nv), .c (int low), .c (int high)] (.c (bool r)) := by
 unfold f8
 refine FnOk.enter (rs := [.t 6]) func16 Z ntmps16 results16 Z ⟨trivial, Y⟩ (by kernel_rfl) Z ?_
 unfold H6 at h
 refine AWP.q (.u (.z Z Z (.nil (b6 (.seqJ (⟨[(6, .c (bool ((decide (low ≤ nv)) && (decide (nv ≤ high)))))], []⟩) ?_ ?_)))))
 ·rcases bft (decide (low ≤ nv)) with hb1 | hb1
  ·refine AWP.u (.j Z Z (.j Z Z (.geq Z Z Z (.j Z Z (.v Z Z Z hb1 (.j Z Z (.v Z Z Z hb1 (.j Z Z (.v Z Z Z hb1 (.leq Z Z Z (.J Z hb1 Z Z (.z Z Z (.nil (b6 ?_))))))))))))))
   simp only [and_t hb1, or_t hb1, Bool.false_or, Bool.true_or, Bool.false_and, Bool.true_and]
   exact Sub.env ⟨Z, Y⟩
  ·refine AWP.u (.j Z Z (.j Z Z (.geq Z Z Z (.j Z Z (.B Z Z Z hb1 (.B Z Z Z hb1 (.B Z Z Z hb1 (.U Z hb1 Z Z (.z Z Z (.nil (b6 ?_)))))))))))
   simp only [and_f hb1, or_f hb1, Bool.false_or, Bool.true_or, Bool.false_and, Bool.true_and]
   exact Sub.env ⟨Z, Y⟩
 ·refine AWP.ret ?_
  obtain rfl := oi h
  exact Done.ret Z Z
theorem ae2 {r : e8} (h : V0 = some r) : f8 prog 26 [] (.agg (tT r)) := by
 unfold f8
 refine FnOk.enter (rs := [.cell 0 25 4]) func26 Z ntmps26 results26 Z ⟨rv _ Z, Y⟩ (by kernel_rfl) Z ?_
 unfold V0 at h
 refine AWP.q (.u (W.alloc Z Z Z Z (.nil (b6 (.q (.u (S.lit (f := intI) (l := [0]) (ess := [[int 0]]) Z Z Z Z Z Z Z ⟨⟨.inl Z, Y⟩, Y⟩ Z Z Z (S.lit (f := intI) (l := [1]) (ess := [[int 1]]) Z Z Z Z Z Z Z ⟨⟨.inl Z, Y⟩, Y⟩ Z Z Z (S.lit (f := intI) (l := [0]) (ess := [[int 0]]) Z Z Z Z Z Z Z ⟨⟨.inl Z, Y⟩, Y⟩ Z Z Z (S.lit (f := intI) (l := [1]) (ess := [[int 1]]) Z Z Z Z Z Z Z ⟨⟨.inl Z, Y⟩, Y⟩ Z Z Z (S.lit (f := intI) (l := [0]) (ess := [[int 0]]) Z Z Z Z Z Z Z ⟨⟨.inl Z, Y⟩, Y⟩ Z Z Z (W.build Z Z Z Z (S.lit (f := intI) (l := [1]) (ess := [[int 1]]) Z Z Z Z Z Z Z ⟨⟨.inl Z, Y⟩, Y⟩ Z Z Z (W.build Z Z Z Z ?_))))))))))))))
 refine AOps.frzV (id := 3) (l := [0]) (env2 := [(0, .c (.ptr 0 0 0)), (1, .c (.own 1 0 ([0].length))), (2, .c (.own 2 0 ([1].length))), (6, .agg [row 1 intI [0], .own 4 0 ([1].length), .own 5 0 ([0].length), int 1]), (8, .agg [.imm (.val nL), .own 6 0 ([1].length), .imm (.val nL), int 3])]) (σ2 := [.one (.cells 4 [[int 0, .imm (.val nL), .imm (.val nL), .imm (.val nL)]]), .one (vec 1 intI [0]), .one (vec 1 intI [1]), .dead, .one (vec 1 intI [1]), .one (vec 1 intI [0]), .one (vec 1 intI [1])]) Z Z (by exact ⟨⟨_, Z, .inl ⟨Z, Z⟩⟩, ⟨_, Z, .inl ⟨Z, Z⟩⟩, ⟨_, Z, .inl ⟨Z, Z⟩⟩, ⟨_, Z, ⟨.inr ⟨_, Z, Z, Z⟩, .inl ⟨Z, Z⟩, .inl ⟨Z, Z⟩, .inl ⟨Z, Z⟩, Y⟩⟩, ⟨_, Z, ⟨.inl ⟨Z, Z⟩, .inl ⟨Z, Z⟩, .inl ⟨Z, Z⟩, .inl ⟨Z, Z⟩, Y⟩⟩, Y⟩) Z (by exact ⟨⟨Z, .inl ⟨Z, Z⟩, .inl ⟨Z, Z⟩, .inl ⟨Z, Z⟩, .inl ⟨Z, Z⟩, Y⟩, FrzB.vec, FrzB.vec, trivial, FrzB.vec, FrzB.vec, FrzB.vec, Y⟩) ?_; refine AOps.frzV (id := 4) (l := [1]) (env2 := [(0, .c (.ptr 0 0 0)), (1, .c (.own 1 0 ([0].length))), (2, .c (.own 2 0 ([1].length))), (6, .agg [row 1 intI [0], row 1 intI [1], .own 5 0 ([0].length), int 1]), (8, .agg [.imm (.val nL), .own 6 0 ([1].length), .imm (.val nL), int 3])]) (σ2 := [.one (.cells 4 [[int 0, .imm (.val nL), .imm (.val nL), .imm (.val nL)]]), .one (vec 1 intI [0]), .one (vec 1 intI [1]), .dead, .dead, .one (vec 1 intI [0]), .one (vec 1 intI [1])]) Z Z (by exact ⟨⟨_, Z, .inl ⟨Z, Z⟩⟩, ⟨_, Z, .inl ⟨Z, Z⟩⟩, ⟨_, Z, .inl ⟨Z, Z⟩⟩, ⟨_, Z, ⟨.inl ⟨Z, Z⟩, .inr ⟨_, Z, Z, Z⟩, .inl ⟨Z, Z⟩, .inl ⟨Z, Z⟩, Y⟩⟩, ⟨_, Z, ⟨.inl ⟨Z, Z⟩, .inl ⟨Z, Z⟩, .inl ⟨Z, Z⟩, .inl ⟨Z, Z⟩, Y⟩⟩, Y⟩) Z (by exact ⟨⟨Z, .inl ⟨Z, Z⟩, .inl ⟨Z, Z⟩, .inl ⟨Z, Z⟩, .inl ⟨Z, Z⟩, Y⟩, FrzB.vec, FrzB.vec, trivial, trivial, FrzB.vec, FrzB.vec, Y⟩) ?_; refine AOps.frzV (id := 5) (l := [0]) (env2 := [(0, .c (.ptr 0 0 0)), (1, .c (.own 1 0 ([0].length))), (2, .c (.own 2 0 ([1].length))), (6, .agg [row 1 intI [0], row 1 intI [1], row 1 intI [0], int 1]), (8, .agg [.imm (.val nL), .own 6 0 ([1].length), .imm (.val nL), int 3])]) (σ2 := [.one (.cells 4 [[int 0, .imm (.val nL), .imm (.val nL), .imm (.val nL)]]), .one (vec 1 intI [0]), .one (vec 1 intI [1]), .dead, .dead, .dead, .one (vec 1 intI [1])]) Z Z (by exact ⟨⟨_, Z, .inl ⟨Z, Z⟩⟩, ⟨_, Z, .inl ⟨Z, Z⟩⟩, ⟨_, Z, .inl ⟨Z, Z⟩⟩, ⟨_, Z, ⟨.inl ⟨Z, Z⟩, .inl ⟨Z, Z⟩, .inr ⟨_, Z, Z, Z⟩, .inl ⟨Z, Z⟩, Y⟩⟩, ⟨_, Z, ⟨.inl ⟨Z, Z⟩, .inl ⟨Z, Z⟩, .inl ⟨Z, Z⟩, .inl ⟨Z, Z⟩, Y⟩⟩, Y⟩) Z (by exact ⟨⟨Z, .inl ⟨Z, Z⟩, .inl ⟨Z, Z⟩, .inl ⟨Z, Z⟩, .inl ⟨Z, Z⟩, Y⟩, FrzB.vec, FrzB.vec, trivial, trivial, trivial, FrzB.vec, Y⟩) ?_; refine AOps.frzV (id := 6) (l := [1]) (env2 := [(0, .c (.ptr 0 0 0)), (1, .c (.own 1 0 ([0].length))), (2, .c (.own 2 0 ([1].length))), (6, .agg [row 1 intI [0], row 1 intI [1], row 1 intI [0], int 1]), (8, .agg [.imm (.val nL), row 1 intI [1], .imm (.val nL), int 3])]) (σ2 := [.one (.cells 4 [[int 0, .imm (.val nL), .imm (.val nL), .imm (.val nL)]]), .one (vec 1 intI [0]), .one (vec 1 intI [1]), .dead, .dead, .dead, .dead]) Z Z (by exact ⟨⟨_, Z, .inl ⟨Z, Z⟩⟩, ⟨_, Z, .inl ⟨Z, Z⟩⟩, ⟨_, Z, .inl ⟨Z, Z⟩⟩, ⟨_, Z, ⟨.inl ⟨Z, Z⟩, .inl ⟨Z, Z⟩, .inl ⟨Z, Z⟩, .inl ⟨Z, Z⟩, Y⟩⟩, ⟨_, Z, ⟨.inl ⟨Z, Z⟩, .inr ⟨_, Z, Z, Z⟩, .inl ⟨Z, Z⟩, .inl ⟨Z, Z⟩, Y⟩⟩, Y⟩) Z (by exact ⟨⟨Z, .inl ⟨Z, Z⟩, .inl ⟨Z, Z⟩, .inl ⟨Z, Z⟩, .inl ⟨Z, Z⟩, Y⟩, FrzB.vec, FrzB.vec, trivial, trivial, trivial, trivial, Y⟩) ?_; refine S.lit (f := n4) (l := [(⟨[0], [1], [0], 1⟩ : g9), (⟨[], [1], [], 3⟩ : g9)]) (ess := [[row 1 intI [0], row 1 intI [1], row 1 intI [0], int 1], [.imm (.val nL), row 1 intI [1], .imm (.val nL), int 3]]) Z Z Z Z Z Z Z ⟨⟨.inl Z, .inl Z, .inl Z, .inl Z, Y⟩, ⟨.inr ⟨Z, _, Z⟩, .inl Z, .inr ⟨Z, _, Z⟩, .inl Z, Y⟩, Y⟩ Z Z Z ?_
 refine W.build Z Z Z Z (W.storeAgg Z Z Z Z Z Z Z (.nil (b6 (.frzV (id := 1) (l := [0]) (env2 := [(0, .c (.ptr 0 0 0))]) (σ2 := [.one (.cells 4 [[int 2, row 1 intI [0], .own 2 0 ([1].length), .own 7 0 (([(⟨[0], [1], [0], 1⟩ : g9), (⟨[], [1], [], 3⟩ : g9)]).length)]]), .dead, .one (vec 1 intI [1]), .dead, .dead, .dead, .dead, .one (vec 4 n4 ([(⟨[0], [1], [0], 1⟩ : g9), (⟨[], [1], [], 3⟩ : g9)]))]) Z Z (by exact ⟨⟨_, Z, .inl ⟨Z, Z⟩⟩, Y⟩) Z (by exact ⟨⟨Z, .inl ⟨Z, Z⟩, .inr ⟨_, Z, Z, Z⟩, .inl ⟨Z, Z⟩, .inl ⟨Z, Z⟩, Y⟩, trivial, FrzB.vec, trivial, trivial, trivial, trivial, FrzB.vec, Y⟩) (.frzV (id := 2) (l := [1]) (env2 := [(0, .c (.ptr 0 0 0))]) (σ2 := [.one (.cells 4 [[int 2, row 1 intI [0], row 1 intI [1], .own 7 0 (([(⟨[0], [1], [0], 1⟩ : g9), (⟨[], [1], [], 3⟩ : g9)]).length)]]), .dead, .dead, .dead, .dead, .dead, .dead, .one (vec 4 n4 ([(⟨[0], [1], [0], 1⟩ : g9), (⟨[], [1], [], 3⟩ : g9)]))]) Z Z (by exact ⟨⟨_, Z, .inl ⟨Z, Z⟩⟩, Y⟩) Z (by exact ⟨⟨Z, .inl ⟨Z, Z⟩, .inl ⟨Z, Z⟩, .inr ⟨_, Z, Z, Z⟩, .inl ⟨Z, Z⟩, Y⟩, trivial, trivial, trivial, trivial, trivial, trivial, FrzB.vec, Y⟩) (.frzV (id := 7) (l := [(⟨[0], [1], [0], 1⟩ : g9), (⟨[], [1], [], 3⟩ : g9)]) (env2 := [(0, .c (.ptr 0 0 0))]) (σ2 := [.one (.cells 4 [[int 2, row 1 intI [0], row 1 intI [1], row 4 n4 ([(⟨[0], [1], [0], 1⟩ : g9), (⟨[], [1], [], 3⟩ : g9)])]]), .dead, .dead, .dead, .dead, .dead, .dead, .dead]) Z Z (by exact ⟨⟨_, Z, .inl ⟨Z, Z⟩⟩, Y⟩) Z (by exact ⟨⟨Z, .inl ⟨Z, Z⟩, .inl ⟨Z, Z⟩, .inl ⟨Z, Z⟩, .inr ⟨_, Z, Z, Z⟩, Y⟩, trivial, trivial, trivial, trivial, trivial, trivial, trivial, Y⟩) (.ret ?_)))))))
 obtain rfl := oi h
 exact Done.ret Z Z
theorem Y3 {av : List (Int × Int)} {bv : List (Int × Int)} {r : Bool} (h : J4 av bv = some r) : f8 prog 14 [.c (row 2 n3 av), .c (row 2 n3 bv)] (.c (bool r)) := by
 unfold f8
 refine FnOk.enter (rs := [.t 4]) func14 Z ntmps14 results14 Z ⟨trivial, Y⟩ (by kernel_rfl) Z ?_
 unfold J4 at h
 refine AWP.q (.u (.z Z Z (.nil (b6 (.q (.q (.u (.j Z Z (S.len Z Z (fun hl7 => .j Z Z (S.len Z Z (fun hl9 => .neq Z Z Z (.nil (b6 (.iteN Z h (fun hc3 h => ?_) (fun hc3 h => ?_))))))))))))))))
 ·refine AWP.q (.u (.z Z Z (.nil (b6 (.ret (f5 ?_))))))
  obtain rfl := oi h
  exact Done.ret Z Z
 ·refine AWP.skip (b6 (.q (.q (.u (.z Z Z (.nil (b6 (.aa ?_))))))))
  obtain ⟨oo, ho1, h⟩ := bind_some h
  refine AWP.rngS ho1 (fun iv4 _ => ⟨[(0, .c (row 2 n3 av)), (1, .c (row 2 n3 bv)), (5, .c (int iv4))], []⟩) (fun o e st => match o with | .inl _ => e = .exit 0 ∧ Sub [] st ⟨[], []⟩ | .inr x => e = .ret ∧ Done [.t 4] (fun t _ => t = .c (bool x)) .ret st) ?_ ?_ ?_ ?_
  ·try dsimp only
   exact Sub.env ⟨Z, Z, Z, Y⟩
  ·intro iv4 s hloiv4 hltiv4 _
   try dsimp only
   refine AWP.q (.q (.u (.j Z Z (.j Z Z (S.len Z Z (fun hl13 => .F Z Z Z (.nil (b6 (.ac Z hltiv4 (.exit (e9 (e9 ⟨Z, ?_⟩))))))))))))
   exact Sub.env trivial
  ·intro iv4 s o hloiv4 hltiv4 h
   unfold P8 at h
   try dsimp only at h ⊢
   refine AWP.q (.q (.u (.j Z Z (.j Z Z (S.len Z Z (fun hl13 => .F Z Z Z (.nil (b6 (.ad Z hltiv4 (.skip (b6 (.q (.aa (.q ?_))))))))))))))
   obtain ⟨a19, ha19, a23, ha23, h⟩ := b2 h
   refine AWP.drawI mixed Z ?_
   refine i9.consF Z (fun E => AOps.j Z Z .N) Z (.consF Z (fun E => AOps.j Z Z .N) Z (.consF Z (fun E => S.idx ha19 Z Z Z Z .N) Z (.consF Z (fun E => W.loadIAgg Z Z Z Z Z .N) Z (.consF Z (fun E => AOps.j Z Z .N) Z (.consF Z (fun E => AOps.j Z Z .N) Z (.consF Z (fun E => S.idx ha23 Z Z Z Z .N) Z (.consF Z (fun E => W.loadIAgg Z Z Z Z Z .N) Z (.consF Z (fun E => AOps.neqA Z Z Z Z .N) Z ?_))))))))
   refine i9.done ?_
   dsimp only [l0]
   refine b6 (.af Z h (fun hc5 h => ?_) (fun hc5 h => ?_))
   ·refine AWP.q (.u (.z Z Z (.nil (b6 (.ret (i8 (f5 ?_)))))))
    obtain rfl := oi h
    refine f5 ⟨_, Z, Z, ?_⟩
    exact Done.ret Z Z
   ·refine AWP.skip (e6 (b6 (.u (.j Z Z (.add Z Z Z (by omega) (.z Z Z (.nil ?_)))))))
    obtain rfl := oi h
    refine b6 ⟨_, Z, ?_⟩
    exact Sub.env ⟨Z, Z, Z, Y⟩
  ·intro e s hq
   rcases oo with u | x
   ·try dsimp only at h hq
    obtain ⟨rfl, hs⟩ := hq
    refine ⟨_, hs, ?_⟩
    refine i7 (b6 (.q (.u (.z Z Z (.nil (b6 (.ret ?_)))))))
    obtain rfl := oi h
    exact Done.ret Z Z
   ·try dsimp only at h hq
    obtain ⟨rfl, hs⟩ := hq
    refine ⟨_, Sub.refl _ _, ?_⟩
    refine i8 (f5 ?_)
    obtain rfl := oi h
    exact hs
theorem af7 {av : List Int} {bv : List Int} {r : Bool} (h : J6 av bv = some r) : f8 prog 15 [.c (row 1 intI av), .c (row 1 intI bv)] (.c (bool r)) := by
 unfold f8
 refine FnOk.enter (rs := [.t 4]) func15 Z ntmps15 results15 Z ⟨trivial, Y⟩ (by kernel_rfl) Z ?_
 unfold J6 at h
 refine AWP.q (.u (.z Z Z (.nil (b6 (.q (.q (.u (.j Z Z (S.len Z Z (fun hl7 => .j Z Z (S.len Z Z (fun hl9 => .neq Z Z Z (.nil (b6 (.iteN Z h (fun hc3 h => ?_) (fun hc3 h => ?_))))))))))))))))
 ·refine AWP.q (.u (.z Z Z (.nil (b6 (.ret (f5 ?_))))))
  obtain rfl := oi h
  exact Done.ret Z Z
 ·refine AWP.skip (b6 (.q (.q (.u (.z Z Z (.nil (b6 (.aa ?_))))))))
  obtain ⟨oo, ho1, h⟩ := bind_some h
  refine AWP.rngS ho1 (fun iv4 _ => ⟨[(0, .c (row 1 intI av)), (1, .c (row 1 intI bv)), (5, .c (int iv4))], []⟩) (fun o e st => match o with | .inl _ => e = .exit 0 ∧ Sub [] st ⟨[], []⟩ | .inr x => e = .ret ∧ Done [.t 4] (fun t _ => t = .c (bool x)) .ret st) ?_ ?_ ?_ ?_
  ·try dsimp only
   exact Sub.env ⟨Z, Z, Z, Y⟩
  ·intro iv4 s hloiv4 hltiv4 _
   try dsimp only
   refine AWP.q (.q (.u (.j Z Z (.j Z Z (S.len Z Z (fun hl13 => .F Z Z Z (.nil (b6 (.ac Z hltiv4 (.exit (e9 (e9 ⟨Z, ?_⟩))))))))))))
   exact Sub.env trivial
  ·intro iv4 s o hloiv4 hltiv4 h
   unfold I8 at h
   try dsimp only at h ⊢
   refine AWP.q (.q (.u (.j Z Z (.j Z Z (S.len Z Z (fun hl13 => .F Z Z Z (.nil (b6 (.ad Z hltiv4 (.skip (b6 (.q (.aa (.q ?_))))))))))))))
   obtain ⟨a19, ha19, a23, ha23, h⟩ := b2 h
   refine AWP.drawI mixed Z ?_
   refine i9.consF Z (fun E => AOps.j Z Z .N) Z (.consF Z (fun E => AOps.j Z Z .N) Z (.consF Z (fun E => S.idx ha19 Z Z Z Z .N) Z (.consF Z (fun E => AOps.ab Z Z Z Z .N) Z (.consF Z (fun E => AOps.j Z Z .N) Z (.consF Z (fun E => AOps.j Z Z .N) Z (.consF Z (fun E => S.idx ha23 Z Z Z Z .N) Z (.consF Z (fun E => AOps.ab Z Z Z Z .N) Z (.consF Z (fun E => AOps.neq Z Z Z .N) Z ?_))))))))
   refine i9.done ?_
   dsimp only [l0]
   refine b6 (.iteN Z h (fun hc5 h => ?_) (fun hc5 h => ?_))
   ·refine AWP.q (.u (.z Z Z (.nil (b6 (.ret (i8 (f5 ?_)))))))
    obtain rfl := oi h
    refine f5 ⟨_, Z, Z, ?_⟩
    exact Done.ret Z Z
   ·refine AWP.skip (e6 (b6 (.u (.j Z Z (.add Z Z Z (by omega) (.z Z Z (.nil ?_)))))))
    obtain rfl := oi h
    refine b6 ⟨_, Z, ?_⟩
    exact Sub.env ⟨Z, Z, Z, Y⟩
  ·intro e s hq
   rcases oo with u | x
   ·try dsimp only at h hq
    obtain ⟨rfl, hs⟩ := hq
    refine ⟨_, hs, ?_⟩
    refine i7 (b6 (.q (.u (.z Z Z (.nil (b6 (.ret ?_)))))))
    obtain rfl := oi h
    exact Done.ret Z Z
   ·try dsimp only at h hq
    obtain ⟨rfl, hs⟩ := hq
    refine ⟨_, Sub.refl _ _, ?_⟩
    refine i8 (f5 ?_)
    obtain rfl := oi h
    exact hs
theorem N8 {r : Bool} (h : B5 = some r) : f8 prog 11 [] (.c (bool r)) := by
 unfold f8
 refine FnOk.enter (rs := [.t 0]) func11 Z ntmps11 results11 Z ⟨trivial, Y⟩ (by kernel_rfl) Z ?_
 unfold B5 at h
 refine AWP.q (.u (.z Z Z (.nil (b6 (.q ?_)))))
 obtain ⟨a6, ha6, a10, ha10, h⟩ := b2 h
 refine AWP.u (.O Z Z Z Z (ae2 ha6) Z (S.lit (f := intI) (l := [1]) (ess := [[int 1]]) Z Z Z Z Z Z Z ⟨⟨.inl Z, Y⟩, Y⟩ Z Z Z (.frzV (id := 0) (l := [1]) (env2 := [(6, .agg (tT a6)), (7, .c (row 1 intI [1]))]) (σ2 := [.dead]) Z Z (by exact ⟨⟨_, Z, ⟨.inl ⟨Z, Z⟩, .inl ⟨Z, Z⟩, .inl ⟨Z, Z⟩, .inl ⟨Z, Z⟩, Y⟩⟩, ⟨_, Z, .inr ⟨_, Z, Z, Z⟩⟩, Y⟩) Z (by exact ⟨trivial, Y⟩) (S.lit (f := f7) (l := [[1]]) (ess := [[row 1 intI [1]]]) Z Z Z Z Z Z Z ⟨⟨.inl Z, Y⟩, Y⟩ Z Z Z (S.lit (f := intI) (l := [1]) (ess := [[int 1]]) Z Z Z Z Z Z Z ⟨⟨.inl Z, Y⟩, Y⟩ Z Z Z ?_)))))
 refine AOps.frzV (id := 1) (l := [[1]]) (env2 := [(6, .agg (tT a6)), (8, .c (row 1 f7 ([[1]]))), (9, .c (.own 2 0 ([1].length)))]) (σ2 := [.dead, .dead, .one (vec 1 intI [1])]) Z Z (by exact ⟨⟨_, Z, ⟨.inl ⟨Z, Z⟩, .inl ⟨Z, Z⟩, .inl ⟨Z, Z⟩, .inl ⟨Z, Z⟩, Y⟩⟩, ⟨_, Z, .inr ⟨_, Z, Z, Z⟩⟩, ⟨_, Z, .inl ⟨Z, Z⟩⟩, Y⟩) Z (by exact ⟨trivial, trivial, FrzB.vec, Y⟩) ?_; refine AOps.frzV (id := 2) (l := [1]) (env2 := [(6, .agg (tT a6)), (8, .c (row 1 f7 ([[1]]))), (9, .c (row 1 intI [1]))]) (σ2 := [.dead, .dead, .dead]) Z Z (by exact ⟨⟨_, Z, ⟨.inl ⟨Z, Z⟩, .inl ⟨Z, Z⟩, .inl ⟨Z, Z⟩, .inl ⟨Z, Z⟩, Y⟩⟩, ⟨_, Z, .inl ⟨Z, Z⟩⟩, ⟨_, Z, .inr ⟨_, Z, Z, Z⟩⟩, Y⟩) Z (by exact ⟨trivial, trivial, trivial, Y⟩) ?_; refine AOps.O Z Z Z Z (C0 ha10) Z ?_
 refine AOps.j Z Z (.ag Z Z Z (.ag Z Z Z (W.alloc Z Z Z Z (.z Z Z (W.storeAgg Z Z Z Z Z Z Z (.nil (b6 (.q ?_))))))))
 obtain ⟨a14, ha14, a18, ha18, h⟩ := b2 h
 refine AWP.u (.O Z Z Z Z (ae2 ha14) Z (S.lit (f := intI) (l := [1]) (ess := [[int 1]]) Z Z Z Z Z Z Z ⟨⟨.inl Z, Y⟩, Y⟩ Z Z Z (.frzV (id := 4) (l := [1]) (env2 := [(1, .c (row 2 n3 a10.1)), (2, .c (.ptr 3 0 0)), (14, .agg (tT a14)), (15, .c (row 1 intI [1]))]) (σ2 := [.dead, .dead, .dead, .one (.cells 2 [[int a10.2.code, int a10.2.index]]), .dead]) Z Z (by exact ⟨⟨_, Z, .inl ⟨Z, Z⟩⟩, ⟨_, Z, .inl ⟨Z, Z⟩⟩, ⟨_, Z, ⟨.inl ⟨Z, Z⟩, .inl ⟨Z, Z⟩, .inl ⟨Z, Z⟩, .inl ⟨Z, Z⟩, Y⟩⟩, ⟨_, Z, .inr ⟨_, Z, Z, Z⟩⟩, Y⟩) Z (by exact ⟨trivial, trivial, trivial, ⟨Z, .inl ⟨Z, Z⟩, .inl ⟨Z, Z⟩, Y⟩, trivial, Y⟩) (S.lit (f := f7) (l := [[1]]) (ess := [[row 1 intI [1]]]) Z Z Z Z Z Z Z ⟨⟨.inl Z, Y⟩, Y⟩ Z Z Z (S.lit (f := intI) (l := [1]) (ess := [[int 1]]) Z Z Z Z Z Z Z ⟨⟨.inl Z, Y⟩, Y⟩ Z Z Z ?_)))))
 refine AOps.frzV (id := 5) (l := [[1]]) (env2 := [(1, .c (row 2 n3 a10.1)), (2, .c (.ptr 3 0 0)), (14, .agg (tT a14)), (16, .c (row 1 f7 ([[1]]))), (17, .c (.own 6 0 ([1].length)))]) (σ2 := [.dead, .dead, .dead, .one (.cells 2 [[int a10.2.code, int a10.2.index]]), .dead, .dead, .one (vec 1 intI [1])]) Z Z (by exact ⟨⟨_, Z, .inl ⟨Z, Z⟩⟩, ⟨_, Z, .inl ⟨Z, Z⟩⟩, ⟨_, Z, ⟨.inl ⟨Z, Z⟩, .inl ⟨Z, Z⟩, .inl ⟨Z, Z⟩, .inl ⟨Z, Z⟩, Y⟩⟩, ⟨_, Z, .inr ⟨_, Z, Z, Z⟩⟩, ⟨_, Z, .inl ⟨Z, Z⟩⟩, Y⟩) Z (by exact ⟨trivial, trivial, trivial, ⟨Z, .inl ⟨Z, Z⟩, .inl ⟨Z, Z⟩, Y⟩, trivial, trivial, FrzB.vec, Y⟩) ?_; refine AOps.frzV (id := 6) (l := [1]) (env2 := [(1, .c (row 2 n3 a10.1)), (2, .c (.ptr 3 0 0)), (14, .agg (tT a14)), (16, .c (row 1 f7 ([[1]]))), (17, .c (row 1 intI [1]))]) (σ2 := [.dead, .dead, .dead, .one (.cells 2 [[int a10.2.code, int a10.2.index]]), .dead, .dead, .dead]) Z Z (by exact ⟨⟨_, Z, .inl ⟨Z, Z⟩⟩, ⟨_, Z, .inl ⟨Z, Z⟩⟩, ⟨_, Z, ⟨.inl ⟨Z, Z⟩, .inl ⟨Z, Z⟩, .inl ⟨Z, Z⟩, .inl ⟨Z, Z⟩, Y⟩⟩, ⟨_, Z, .inl ⟨Z, Z⟩⟩, ⟨_, Z, .inr ⟨_, Z, Z, Z⟩⟩, Y⟩) Z (by exact ⟨trivial, trivial, trivial, ⟨Z, .inl ⟨Z, Z⟩, .inl ⟨Z, Z⟩, Y⟩, trivial, trivial, trivial, Y⟩) ?_; refine AOps.O Z Z Z Z (af3 ha18) Z ?_
 refine AOps.j Z Z (.ag Z Z Z (.ag Z Z Z (W.alloc Z Z Z Z (.z Z Z (W.storeAgg Z Z Z Z Z Z Z (.nil (b6 ?_)))))))
 obtain ⟨t1, hx2, h⟩ := bind_some h
 refine AWP.seqJ (⟨[(0, .c (bool t1))], []⟩) ?_ ?_
 ·rcases bft (decide (a10.2.code = 0)) with hb3 | hb3
  ·replace hx2 := B3 hb3 hx2
   rcases bft (decide (a18.2.code = 0)) with hb4 | hb4
   ·replace hx2 := B3 hb4 hx2
    obtain ⟨a33, ha33, hx2⟩ := bind_some hx2
    rcases bft (a33) with hb5 | hb5
    ·replace hx2 := K9 hb5 hx2
     obtain ⟨a38, ha38, hx2⟩ := bind_some hx2
     refine AWP.u (W.fieldAddr Z Z Z Z (.E Z Z Z Z Z Z (.eql Z Z Z (.j Z Z (.v Z Z Z hb3 (W.fieldAddr Z Z Z Z (.v Z Z Z hb3 (.E Z Z Z Z Z Z (.v Z Z Z hb3 (.eql Z Z Z (.J Z hb3 Z Z (.j Z Z (.v Z Z Z hb4 (.j Z Z (.v Z Z Z hb4 (.buildA Z Z Z Z (.v Z Z Z hb4 (S.lit (f := n3) (l := [(3, 1)]) (ess := [[int 3, int 1]]) Z Z Z Z Z Z Z ⟨⟨.inl Z, .inl Z, Y⟩, Y⟩ Z Z Z (.v Z Z Z hb4 (.callL Z Z (.cons (.c .imm) (.cons (.c (.own Z Z)) .nil)) Z (Y3 ha33) Z (.J Z hb4 Z Z (.j Z Z (.v Z Z Z hb5 (.j Z Z (.v Z Z Z hb5 (S.lit (f := intI) (l := [0]) (ess := [[int 0]]) Z Z Z Z Z Z Z ⟨⟨.inl Z, Y⟩, Y⟩ Z Z Z (.v Z Z Z hb5 (.callL Z Z (.cons (.c .imm) (.cons (.c (.own Z Z)) .nil)) Z (af7 ha38) Z (.J Z hb5 Z Z (.z Z Z (.nil ?_)))))))))))))))))))))))))))))))
     obtain rfl := oi hx2
     refine b6 (Sub.cut ⟨Z, Y⟩ Z trivial Z)
    ·replace hx2 := K6 hb5 hx2
     refine AWP.u (W.fieldAddr Z Z Z Z (.E Z Z Z Z Z Z (.eql Z Z Z (.j Z Z (.v Z Z Z hb3 (W.fieldAddr Z Z Z Z (.v Z Z Z hb3 (.E Z Z Z Z Z Z (.v Z Z Z hb3 (.eql Z Z Z (.J Z hb3 Z Z (.j Z Z (.v Z Z Z hb4 (.j Z Z (.v Z Z Z hb4 (.buildA Z Z Z Z (.v Z Z Z hb4 (S.lit (f := n3) (l := [(3, 1)]) (ess := [[int 3, int 1]]) Z Z Z Z Z Z Z ⟨⟨.inl Z, .inl Z, Y⟩, Y⟩ Z Z Z (.v Z Z Z hb4 (.callL Z Z (.cons (.c .imm) (.cons (.c (.own Z Z)) .nil)) Z (Y3 ha33) Z (.J Z hb4 Z Z (.j Z Z (.B Z Z Z hb5 (.B Z Z Z hb5 (.B Z Z Z hb5 (.U Z hb5 Z Z (.z Z Z (.nil ?_))))))))))))))))))))))))))))
     obtain rfl := oi hx2
     refine b6 (Sub.cut ⟨Z, Y⟩ Z trivial Z)
   ·replace hx2 := B2 hb4 hx2
    refine AWP.u (W.fieldAddr Z Z Z Z (.E Z Z Z Z Z Z (.eql Z Z Z (.j Z Z (.v Z Z Z hb3 (W.fieldAddr Z Z Z Z (.v Z Z Z hb3 (.E Z Z Z Z Z Z (.v Z Z Z hb3 (.eql Z Z Z (.J Z hb3 Z Z (.j Z Z (.B Z Z Z hb4 (.B Z Z Z hb4 (.B Z Z Z hb4 (.B Z Z Z hb4 (.U Z hb4 Z Z (.j Z Z (.B Z Z Z Z (.B Z Z Z Z (.B Z Z Z Z (.U Z Z Z Z (.z Z Z (.nil ?_))))))))))))))))))))))))
    obtain rfl := oi hx2
    refine b6 (Sub.cut ⟨Z, Y⟩ Z trivial Z)
  ·replace hx2 := B2 hb3 hx2
   refine AWP.u (W.fieldAddr Z Z Z Z (.E Z Z Z Z Z Z (.eql Z Z Z (.j Z Z (.B Z Z Z hb3 (.B Z Z Z hb3 (.B Z Z Z hb3 (.U Z hb3 Z Z (.j Z Z (.B Z Z Z Z (.B Z Z Z Z (.B Z Z Z Z (.B Z Z Z Z (.U Z Z Z Z (.j Z Z (.B Z Z Z Z (.B Z Z Z Z (.B Z Z Z Z (.U Z Z Z Z (.z Z Z (.nil ?_)))))))))))))))))))))
   obtain rfl := oi hx2
   refine b6 (Sub.cut ⟨Z, Y⟩ Z trivial Z)
 ·refine AWP.ret ?_
  obtain rfl := oi h
  exact Done.ret Z Z
end Ab
end
section
namespace Ab
open Go Go.Proofs
open Tryz
set_option maxHeartbeats 4000000
set_option linter.all false
attribute [local irreducible] AWP AOps thn inB Done f8 l6 Sub
theorem strips_Steps_ok {operators : Int} {plan : List Int} {r : TFault} (h : M3 operators plan = some r) : f8 prog 52 [.c (int operators), .c (row 1 intI plan)] (.agg [int r.code, int r.index]) := by
 unfold f8
 refine FnOk.enter (rs := [.cell 4 29 2]) func52 Z ntmps52 results52 Z ⟨rv _ Z, Y⟩ (by kernel_rfl) Z ?_
 unfold M3 at h
 refine AWP.q (.u (W.alloc Z Z Z Z (.nil (b6 (.q (.q (.u (.j Z Z (S.len Z Z (fun hl8 => .gtr Z Z Z (.nil (b6 (.ite Z h (fun hc3 h => ?_) (fun hc3 h => ?_))))))))))))))
 ·refine AWP.q (.u (W.build Z Z Z Z (W.storeAgg Z Z Z Z Z Z Z (.nil (b6 (.ret (f5 ?_)))))))
  obtain rfl := oi h
  exact Done.ret Z Z
 ·refine AWP.skip (b6 (.q (.q (.u (.j Z Z (S.len Z Z (fun hl12 => .j Z Z (.nil (b6 (.aa ?_))))))))))
  obtain ⟨oo, ho1, h⟩ := bind_some h
  refine AWP.rngS ho1 (fun t4 _ => ⟨[(0, .c (int operators)), (4, .c (.ptr 0 0 0)), (11, .c (row 1 intI plan)), (12, .c (int (plan.length : Int))), (13, .c (int t4))], [.one (.cells 2 [[int 0, int 0]])]⟩) (fun o e st => match o with | .inl _ => e = .exit 0 ∧ Sub [] st ⟨[(4, .c (.ptr 0 0 0))], [.one (.cells 2 [[int 0, int 0]])]⟩ | .inr x => e = .ret ∧ Done [.cell 4 29 2] (fun t _ => t = .agg [int x.code, int x.index]) .ret st) ?_ ?_ ?_ ?_
  ·try dsimp only
   exact Sub.env ⟨Z, Z, Z, Z, Z, Y⟩
  ·intro t4 s hlot4 hltt4 _
   try dsimp only
   refine AWP.q (.u (.F Z Z Z (.nil (b6 (.q (.ac Z hltt4 (.exit (e9 (e9 ⟨Z, ?_⟩)))))))))
   exact Sub.env ⟨Z, Y⟩
  ·intro t4 s o hlot4 hltt4 h
   unfold R1 at h
   try dsimp only at h ⊢
   refine AWP.q (.u (.F Z Z Z (.nil (b6 (.q (.ad Z hltt4 (.skip (b6 (.q (.aa (.q ?_)))))))))))
   obtain ⟨a15, ha15, h⟩ := bind_some h
   refine AWP.u (S.idx ha15 Z Z Z Z (.ab Z Z Z Z (.z Z Z (.nil (b6 (.seqJ (⟨[(0, .c (int operators)), (4, .c (.ptr 0 0 0)), (11, .c (row 1 intI plan)), (12, .c (int (plan.length : Int))), (13, .c (int t4)), (23, .c (bool ((decide (a15 < 0)) || (decide (operators ≤ a15)))))], [.one (.cells 2 [[int 0, int 0]])]⟩) ?_ ?_))))))
   ·rcases bft (decide (a15 < 0)) with hb1 | hb1
    ·refine AWP.u (.j Z Z (.F Z Z Z (.j Z Z (.B Z Z Z hb1 (.B Z Z Z hb1 (.B Z Z Z hb1 (.J Z hb1 Z Z (.nil (b6 ?_)))))))))
     simp only [and_t hb1, or_t hb1, Bool.false_or, Bool.true_or, Bool.false_and, Bool.true_and]
     exact Sub.env ⟨Z, Z, Z, Z, Z, Z, Y⟩
    ·refine AWP.u (.j Z Z (.F Z Z Z (.j Z Z (.v Z Z Z hb1 (.j Z Z (.v Z Z Z hb1 (.j Z Z (.v Z Z Z hb1 (.geq Z Z Z (.U Z hb1 Z Z (.nil (b6 ?_))))))))))))
     simp only [and_f hb1, or_f hb1, Bool.false_or, Bool.true_or, Bool.false_and, Bool.true_and]
     exact Sub.env ⟨Z, Z, Z, Z, Z, Z, Y⟩
   ·refine AWP.af Z h (fun hc5 h => ?_) (fun hc5 h => ?_)
    ·refine AWP.q (.u (W.build Z Z Z Z (W.storeAgg Z Z Z Z Z Z Z (.nil (b6 (.ret (i8 (f5 ?_))))))))
     obtain rfl := oi h
     refine f5 ⟨_, Z, Z, ?_⟩
     exact Done.ret Z Z
    ·refine AWP.skip (e6 (b6 (.u (.add Z Z Z (by omega) (.j Z Z (.nil ?_))))))
     obtain rfl := oi h
     refine b6 ⟨_, Z, ?_⟩
     exact Sub.env ⟨Z, Z, Z, Z, Z, Y⟩
  ·intro e s hq
   rcases oo with u | x
   ·try dsimp only at h hq
    obtain ⟨rfl, hs⟩ := hq
    refine ⟨_, hs, ?_⟩
    refine i7 (b6 (.q (.u (W.build Z Z Z Z (W.storeAgg Z Z Z Z Z Z Z (.nil (b6 (.ret ?_))))))))
    obtain rfl := oi h
    exact Done.ret Z Z
   ·try dsimp only at h hq
    obtain ⟨rfl, hs⟩ := hq
    refine ⟨_, Sub.refl _ _, ?_⟩
    refine i8 (f5 ?_)
    obtain rfl := oi h
    exact hs
theorem S5 {t : e8} {plan : List Int} {r : TFault} (h : B4 t plan = some r) : f8 prog 32 [.agg (tT t), .c (row 1 intI plan)] (.agg [int r.code, int r.index]) := by
 unfold f8
 refine FnOk.enter (rs := [.cell 4 29 2]) func32 Z ntmps32 results32 Z ⟨rv _ Z, Y⟩ (by kernel_rfl) Z ?_
 unfold B4 at h
 refine AWP.q (.u (W.box Z Z Z Z Z Z (W.alloc Z Z Z Z (.nil (b6 (.q (.q ?_)))))))
 obtain ⟨a7, ha7, h⟩ := bind_some h
 refine AWP.u (W.loadAgg Z Z Z Z Z Z Z (.O Z Z Z Z (V4 ha7) Z (W.alloc Z Z Z Z (W.storeAgg Z Z Z Z Z Z Z (.nil (b6 (.q (.u (W.loadAgg Z Z Z Z Z Z Z (W.build Z Z Z Z (.neqP Z Z Z Z Z Z Z (.nil (b6 (.af Z h (fun hc3 h => ?_) (fun hc3 h => ?_)))))))))))))))
 ·refine AWP.q (.u (W.loadAgg Z Z Z Z Z Z Z (W.storeAgg Z Z Z Z Z Z Z (.nil (b6 (.ret (f5 ?_)))))))
  obtain rfl := oi h
  exact Done.ret Z Z
 ·refine AWP.skip (b6 (.q ?_))
  obtain ⟨a16, ha16, h⟩ := bind_some h
  refine AWP.u (W.fieldAddr Z Z Z Z (.E Z Z Z Z Z Z (S.len Z Z (fun hl14 => .j Z Z (.O Z Z Z Z (strips_Steps_ok ha16) Z (W.storeAgg Z Z Z Z Z Z Z (.nil (b6 (.ret ?_)))))))))
  obtain rfl := oi h
  exact Done.ret Z Z
theorem strips_Run_ok {t : e8} {sv : List Int} {plan : List Int} {r : (List (List Int))} (h : R5 t sv plan = some r) : l6 prog 53 [.agg (tT t), .c (row 1 intI sv), .c (row 1 intI plan)] 1 (List.map f7 r) := by
 unfold l6
 refine FnOk.enter (rs := [.t 6]) func53 Z ntmps53 results53 Z ⟨trivial, Y⟩ (by kernel_rfl) Z ?_
 unfold R5 at h
 refine AWP.q (.u (W.box Z Z Z Z Z Z (.z Z Z (.nil (b6 (.q ?_))))))
 obtain ⟨a11, ha11, h⟩ := bind_some h
 refine AWP.u (.j Z Z (S.fresh Z Z Z Z (aa0 ha11) Z Z (.frzV (id := 1) (l := a11) (env2 := [(1, .c (row 1 intI sv)), (2, .c (row 1 intI plan)), (3, .c (.ptr 0 0 0)), (11, .c (row 1 intI a11))]) (σ2 := [.one (.cells 4 [(tT t)]), .dead]) Z Z (by exact ⟨⟨_, Z, .inl ⟨Z, Z⟩⟩, ⟨_, Z, .inl ⟨Z, Z⟩⟩, ⟨_, Z, .inl ⟨Z, Z⟩⟩, ⟨_, Z, .inr ⟨_, Z, Z, Z⟩⟩, Y⟩) Z (by exact ⟨⟨Z, .inl ⟨Z, Z⟩, .inl ⟨Z, Z⟩, .inl ⟨Z, Z⟩, .inl ⟨Z, Z⟩, Y⟩, trivial, Y⟩) (S.lit (f := f7) (l := [a11]) (ess := [[row 1 intI a11]]) Z Z Z Z Z Z Z ⟨⟨.inl Z, Y⟩, Y⟩ Z Z Z (.z Z Z (.nil (b6 (.q (.q (.u (.j Z Z (S.len Z Z (fun hl14 => .j Z Z (.nil (b6 (.aa ?_))))))))))))))))
 obtain ⟨c7, ho1, h⟩ := bind_some h
 refine AWP.loopS ho1 (fun (c4, sv5, t6) => ⟨[(1, .c (row 1 intI sv5)), (3, .c (.ptr 0 0 0)), (7, .c (.own 2 0 c4.length)), (13, .c (row 1 intI plan)), (14, .c (int (plan.length : Int))), (15, .c (int t6))], [.one (.cells 4 [(tT t)]), .dead, .one (vec 1 f7 c4)]⟩) (fun c7 e st => e = .exit 0 ∧ Sub [] st ⟨[(7, .c (.own 2 0 c7.length))], [.dead, .dead, .one (vec 1 f7 c7)]⟩) ?_ ?_ ?_
 ·try dsimp only
  exact Sub.env ⟨Z, Z, Z, Z, Z, Z, Y⟩
 ·intro s o h
  obtain ⟨c4, sv5, t6⟩ := s
  unfold O8 at h
  try dsimp only at h ⊢
  refine AWP.q (.u (.F Z Z Z (.nil (b6 (.q (.ite Z h (fun hc8 h => ?_) (fun hc8 h => ?_)))))))
  ·refine AWP.skip (b6 (.q (.aa (.q ?_))))
   obtain ⟨a17, ha17, h⟩ := bind_some h
   refine AWP.u (S.idx ha17 Z Z Z Z (.ab Z Z Z Z (.z Z Z (.nil (b6 (.q (.q ?_)))))))
   obtain ⟨a22, ha22, h⟩ := bind_some h
   refine AWP.u (W.loadAgg Z Z Z Z Z Z Z (.j Z Z (.j Z Z (.O Z Z Z Z (W1 ha22) Z (.not Z Z (.nil (b6 (.af Z h (fun hc9 h => ?_) (fun hc9 h => ?_)))))))))
   ·refine AWP.exit (e9 (D7 Z (e9 ?_)))
    obtain rfl := oi h
    refine e9 ⟨_, Z, Z, ?_⟩
    exact Sub.cut ⟨Z, Y⟩ Z ⟨.dead, .dead, .vec, Y⟩ Z
   ·refine AWP.skip (b6 (.q ?_))
    obtain ⟨a27, ha27, h⟩ := bind_some h
    refine AWP.u (W.loadAgg Z Z Z Z Z Z Z (.j Z Z (.j Z Z (S.fresh Z Z Z Z (T0 ha27) Z Z (.z Z Z (.nil (b6 ?_)))))))
    obtain ⟨a31, ha31, h⟩ := bind_some h
    refine AWP.u (.j Z Z (.j Z Z (.frzV (id := 3) (l := a27) (env2 := [(1, .c (row 1 intI a27)), (3, .c (.ptr 0 0 0)), (13, .c (row 1 intI plan)), (14, .c (int (plan.length : Int))), (15, .c (int t6)), (28, .c (.own 2 0 c4.length)), (29, .c (row 1 intI a27))]) (σ2 := [.one (.cells 4 [(tT t)]), .dead, .one (vec 1 f7 c4), .dead]) Z Z (by exact ⟨⟨_, Z, .inr ⟨_, Z, Z, Z⟩⟩, ⟨_, Z, .inl ⟨Z, Z⟩⟩, ⟨_, Z, .inl ⟨Z, Z⟩⟩, ⟨_, Z, .inl ⟨Z, Z⟩⟩, ⟨_, Z, .inl ⟨Z, Z⟩⟩, ⟨_, Z, .inl ⟨Z, Z⟩⟩, ⟨_, Z, .inr ⟨_, Z, Z, Z⟩⟩, Y⟩) Z (by exact ⟨⟨Z, .inl ⟨Z, Z⟩, .inl ⟨Z, Z⟩, .inl ⟨Z, Z⟩, .inl ⟨Z, Z⟩, Y⟩, trivial, FrzB.vec, trivial, Y⟩) (S.lit (f := f7) (l := [a27]) (ess := [[row 1 intI a27]]) Z Z Z Z Z Z Z ⟨⟨.inl Z, Y⟩, Y⟩ Z Z Z (S.append (f := f7) ha31 Z Z Z Z Z Z (.own Z Z) Z Z Z Z (.z Z Z (.nil (e6 (b6 (.j (env' := [(1, .c (row 1 intI a27)), (3, .c (.ptr 0 0 0)), (7, .c (.own 2 0 a31.length)), (13, .c (row 1 intI plan)), (14, .c (int (plan.length : Int))), (15, .c (int t6))]) (σ' := [.one (.cells 4 [(tT t)]), .dead, .one (vec 1 f7 a31), .dead, .one (vec 1 f7 [a27])]) 2 5 Z Z Z ⟨Z, Z, Z, Z, Z, Z, Y⟩ Z ⟨⟨Z, Z⟩, trivial, ⟨Blk.im_ok _ _ _, j7 Z⟩, trivial, ⟨Blk.im_ok _ _ _, j7 Z⟩, Y⟩ (.u (S.add Z Z Z (.j Z Z (.nil ?_))))))))))))))
    obtain rfl := oi h
    refine b6 ⟨_, Z, ?_⟩
    exact Sub.cut ⟨Z, Z, Z, Z, Z, Z, Y⟩ Z ⟨.one Z, .dead, .vec, Y⟩ Z
  ·refine AWP.exit (e9 ?_)
   obtain rfl := oi h
   refine e9 ⟨_, Z, Z, ?_⟩
   exact Sub.cut ⟨Z, Y⟩ Z ⟨.dead, .dead, .vec, Y⟩ Z
 ·intro e s hq
  obtain ⟨rfl, hs⟩ := hq
  refine ⟨_, hs, ?_⟩
  refine i7 (b6 (.q (.u (.j Z Z (.z Z Z (.nil (b6 (.ret ?_))))))))
  obtain rfl := oi h
  exact Done.ret Z (Fresh.mk Z Z)
theorem strips_Works_ok {t : e8} {sv : List Int} {plan : List Int} {r : Bool} (h : M0 t sv plan = some r) : f8 prog 33 [.agg (tT t), .c (row 1 intI sv), .c (row 1 intI plan)] (.c (bool r)) := by
 unfold f8
 refine FnOk.enter (rs := [.t 6]) func33 Z ntmps33 results33 Z ⟨trivial, Y⟩ (by kernel_rfl) Z ?_
 unfold M0 at h
 refine AWP.q (.u (W.box Z Z Z Z Z Z (.z Z Z (.nil (b6 (.q ?_))))))
 obtain ⟨a11, ha11, h⟩ := bind_some h
 refine AWP.u (W.loadAgg Z Z Z Z Z Z Z (.j Z Z (.j Z Z (S.fresh Z Z Z Z (strips_Run_ok ha11) Z Z (.z Z Z (.nil (b6 ?_)))))))
 obtain ⟨t4, hx5, h⟩ := bind_some h
 refine AWP.seqJ (⟨[(6, .c (bool t4))], []⟩) ?_ ?_
 ·rcases bft (decide ((a11.length : Int) = w64 ((plan.length : Int) + 1))) with hb6 | hb6
  ·replace hx5 := B3 hb6 hx5
   obtain ⟨a22, ha22, a26, ha26, hx5⟩ := b2 hx5
   refine AWP.drawI mixed Z ?_
   refine i9.consF Z (fun E => AOps.j Z Z .N) Z (.consF Z (fun E => S.lenO Z Z Z (fun hl13 => .nil ⟨Z, Z⟩)) Z (.consF Z (fun E => AOps.j Z Z .N) Z (.consF Z (fun E => S.len Z Z (fun hl15 => .nil ⟨Z, Z⟩)) Z (.consF Z (fun E => S.add Z Z Z .N) Z (.consF Z (fun E => AOps.eql Z Z Z .N) Z (.consF Z (fun E => AOps.j Z Z .N) Z (.consF Z (fun E => AOps.v Z Z Z hb6 (.j Z Z .N)) Z (.consF Z (fun E => AOps.v Z Z Z hb6 (.j Z Z .N)) Z ?_))))))))
   apply i9.consF; exact Z; intro E
   refine AOps.v Z Z Z hb6 ?_; refine S.len Z Z (fun hl21 => ?_)
   exact AOps.nil ⟨Z, Z⟩
   exact Z
   refine i9.consF Z (fun E => AOps.v Z Z Z hb6 (S.idxO ha22 Z Z Z Z Z .N)) Z (.consF Z (fun E => AOps.v Z Z Z hb6 (S.loadO ha22 Z Z Z Z Z .N)) Z (.consF Z (fun E => AOps.v Z Z Z hb6 (W.fieldAddr Z Z Z Z .N)) Z (.consF Z (fun E => AOps.v Z Z Z hb6 (.E Z Z Z Z Z Z .N)) Z (.consF Z (fun E => AOps.v Z Z Z hb6 (.O Z Z Z Z (F8 ha26) Z .N)) Z (.consF Z (fun E => AOps.J Z hb6 Z Z .N) Z (.consF Z (fun E => AOps.z Z Z .N) Z ?_))))))
   refine i9.done ?_
   dsimp only [l0]
   obtain rfl := oi hx5
   refine b6 (Sub.cut ⟨Z, Y⟩ Z trivial Z)
  ·replace hx5 := B2 hb6 hx5
   refine AWP.drawI mixed Z ?_
   refine i9.consF Z (fun E => AOps.j Z Z .N) Z (.consF Z (fun E => S.lenO Z Z Z (fun hl13 => .nil ⟨Z, Z⟩)) Z (.consF Z (fun E => AOps.j Z Z .N) Z (.consF Z (fun E => S.len Z Z (fun hl15 => .nil ⟨Z, Z⟩)) Z (.consF Z (fun E => S.add Z Z Z .N) Z (.consF Z (fun E => AOps.eql Z Z Z .N) Z (.consF Z (fun E => AOps.j Z Z .N) Z (.consF Z (fun E => AOps.B Z Z Z hb6 .N) Z (.consF Z (fun E => AOps.B Z Z Z hb6 .N) Z (.consF Z (fun E => AOps.B Z Z Z hb6 .N) Z (.consF Z (fun E => AOps.B Z Z Z hb6 .N) Z (.consF Z (fun E => AOps.B Z Z Z hb6 .N) Z (.consF Z (fun E => AOps.B Z Z Z hb6 .N) Z (.consF Z (fun E => AOps.B Z Z Z hb6 .N) Z (.consF Z (fun E => AOps.B Z Z Z hb6 .N) Z (.consF Z (fun E => AOps.U Z hb6 Z Z .N) Z (.consF Z (fun E => AOps.z Z Z .N) Z ?_))))))))))))))))
   refine i9.done ?_
   dsimp only [l0]
   obtain rfl := oi hx5
   refine b6 (Sub.cut ⟨Z, Y⟩ Z trivial Z)
 ·refine AWP.ret ?_
  obtain rfl := oi h
  exact Done.ret Z Z
theorem af6 {t : e8} {plan : List Int} {r : Bool × TFault} (h : J7 t plan = some r) : f8 prog 17 [.agg (tT t), .c (row 1 intI plan)] (.tup [.c (bool r.1), .agg [int r.2.code, int r.2.index]]) := by
 unfold f8
 refine FnOk.enter (rs := [.t 4, .cell 5 29 2]) func17 Z ntmps17 results17 Z ⟨trivial, rv _ Z, Y⟩ (by kernel_rfl) Z ?_
 unfold J7 at h
 refine AWP.q (.u (W.box Z Z Z Z Z Z (.z Z Z (W.alloc Z Z Z Z (.nil (b6 (.q (.q ?_))))))))
 obtain ⟨a9, ha9, h⟩ := bind_some h
 refine AWP.u (W.loadAgg Z Z Z Z Z Z Z (.j Z Z (.O Z Z Z Z (S5 ha9) Z (W.alloc Z Z Z Z (W.storeAgg Z Z Z Z Z Z Z (.nil (b6 (.q (.u (W.loadAgg Z Z Z Z Z Z Z (W.build Z Z Z Z (.neqP Z Z Z Z Z Z Z (.nil (b6 (.af Z h (fun hc3 h => ?_) (fun hc3 h => ?_))))))))))))))))
 ·refine AWP.q (.drawEI [2] mixed Z Z Z ?_)
  refine e7.consN Z Z (fun E => W.loadAgg Z Z Z Z Z Z Z .N) Z (.consN Z Z (fun E => AOps.z Z Z .N) Z ?_)
  apply e7.consE (v := .undef); exact Z; exact Z; intro E
  refine W.storeAgg Z Z Z Z Z Z Z .N
  exact Z
  exact Z
  refine e7.done Z ?_ ?_
  ·refine d9.cons Z Z ?_ ?_
   refine b8.go Z Z (fun E => W.loadAgg Z Z Z Z Z Z Z .N) ?_
   refine b8.skip Z (b8.nil)
   refine d9.cons Z Z ?_ ?_
   refine b8.go Z Z (fun E => AOps.z Z Z .N) ?_
   refine b8.skip Z (b8.nil)
   refine d9.skip Z (d9.nil)
  dsimp only [l0]
  refine b6 (.ret (f5 ?_))
  obtain rfl := oi h
  exact Done.ret Z Z
 ·refine AWP.skip (b6 (.q ?_))
  obtain ⟨a18, ha18, h⟩ := bind_some h
  refine AWP.u (W.loadAgg Z Z Z Z Z Z Z (W.fieldAddr Z Z Z Z (.E Z Z Z Z Z Z (.j Z Z (.O Z Z Z Z (strips_Works_ok ha18) Z (W.build Z Z Z Z (.z Z Z (W.storeAgg Z Z Z Z Z Z Z (.nil (b6 (.ret ?_)))))))))))
  obtain rfl := oi h
  exact Done.ret Z Z
theorem strips_Cost_ok {t : e8} {plan : List Int} {r : Int × TFault} (h : O1 t plan = some r) : f8 prog 18 [.agg (tT t), .c (row 1 intI plan)] (.tup [.c (int r.1), .agg [int r.2.code, int r.2.index]]) := by
 unfold f8
 refine FnOk.enter (rs := [.t 4, .cell 5 29 2]) func18 Z ntmps18 results18 Z ⟨trivial, rv _ Z, Y⟩ (by kernel_rfl) Z ?_
 unfold O1 at h
 refine AWP.q (.u (W.box Z Z Z Z Z Z (.z Z Z (W.alloc Z Z Z Z (.nil (b6 (.q (.q ?_))))))))
 obtain ⟨a12, ha12, h⟩ := bind_some h
 refine AWP.u (W.loadAgg Z Z Z Z Z Z Z (.j Z Z (.O Z Z Z Z (S5 ha12) Z (W.alloc Z Z Z Z (W.storeAgg Z Z Z Z Z Z Z (.nil (b6 (.q (.u (W.loadAgg Z Z Z Z Z Z Z (W.build Z Z Z Z (.neqP Z Z Z Z Z Z Z (.nil (b6 (.af Z h (fun hc3 h => ?_) (fun hc3 h => ?_))))))))))))))))
 ·refine AWP.q (.drawEI [2] mixed Z Z Z ?_)
  refine e7.consN Z Z (fun E => W.loadAgg Z Z Z Z Z Z Z .N) Z (.consN Z Z (fun E => AOps.z Z Z .N) Z ?_)
  apply e7.consE (v := .undef); exact Z; exact Z; intro E
  refine W.storeAgg Z Z Z Z Z Z Z .N
  exact Z
  exact Z
  refine e7.done Z ?_ ?_
  ·refine d9.cons Z Z ?_ ?_
   refine b8.go Z Z (fun E => W.loadAgg Z Z Z Z Z Z Z .N) ?_
   refine b8.skip Z (b8.nil)
   refine d9.cons Z Z ?_ ?_
   refine b8.go Z Z (fun E => AOps.z Z Z .N) ?_
   refine b8.skip Z (b8.nil)
   refine d9.skip Z (d9.nil)
  dsimp only [l0]
  refine b6 (.ret (f5 ?_))
  obtain rfl := oi h
  exact Done.ret Z Z
 ·refine AWP.skip (b6 (.q (.u (.z Z Z (.nil (b6 (.q (.q (.u (.j Z Z (S.len Z Z (fun hl18 => .j Z Z (.nil (b6 (.aa ?_)))))))))))))))
  obtain ⟨sum4, ho1, h⟩ := bind_some h
  refine AWP.forS ho1 (fun t5 sum4 => ⟨[(2, .c (.ptr 0 0 0)), (5, .c (.ptr 1 0 0)), (7, .c (int sum4)), (17, .c (row 1 intI plan)), (18, .c (int (plan.length : Int))), (19, .c (int t5))], [.one (.cells 4 [(tT t)]), .one (.cells 2 [[int 0, int 0]])]⟩) (fun sum4 e st => e = .exit 0 ∧ Sub [] st ⟨[(5, .c (.ptr 1 0 0)), (7, .c (int sum4))], [.one (.cells 4 [(tT t)]), .one (.cells 2 [[int 0, int 0]])]⟩) ?_ ?_ ?_ ?_
  ·try dsimp only
   exact Sub.cut ⟨Z, Z, Z, Z, Z, Z, Y⟩ Z ⟨.one Z, .one Z, Y⟩ Z
  ·intro t5 sum4 hlot5 hltt5 _
   try dsimp only
   refine AWP.q (.u (.F Z Z Z (.nil (b6 (.q (.ac Z hltt5 (.exit (e9 (e9 ⟨Z, ?_⟩)))))))))
   exact Sub.env ⟨Z, Z, Y⟩
  ·intro t5 sum4 o hlot5 hltt5 h
   unfold N2 at h
   try dsimp only at h ⊢
   refine AWP.q (.u (.F Z Z Z (.nil (b6 (.q (.ad Z hltt5 (.skip (b6 (.q (.aa (.q ?_)))))))))))
   obtain ⟨a21, ha21, h⟩ := bind_some h
   refine AWP.u (S.idx ha21 Z Z Z Z (.ab Z Z Z Z (.z Z Z (.nil (b6 ?_)))))
   obtain ⟨a27, ha27, h⟩ := bind_some h
   refine AWP.u (.j Z Z (W.fieldAddr Z Z Z Z (.E Z Z Z Z Z Z (.j Z Z (S.idx ha27 Z Z Z Z (W.fieldAddrI Z Z Z Z (.ab Z Z Z Z (S.add Z Z Z (.z Z Z (.nil (e6 (b6 (.u (.add Z Z Z (by omega) (.j Z Z (.nil ?_))))))))))))))))
   obtain rfl := oi h
   refine b6 (Sub.env ⟨Z, Z, Z, Z, Z, Z, Y⟩)
  ·intro e s hq
   obtain ⟨rfl, hs⟩ := hq
   refine ⟨_, hs, ?_⟩
   refine i7 (b6 (.q (.u (.j Z Z (W.build Z Z Z Z (.z Z Z (W.storeAgg Z Z Z Z Z Z Z (.nil (b6 (.ret ?_))))))))))
   obtain rfl := oi h
   exact Done.ret Z Z
theorem T4 {t : e8} {plan : List Int} {iv : Int} {j : Int} {r : Bool} (h : y8 t plan iv j = some r) : f8 prog 6 [.agg (tT t), .c (row 1 intI plan), .c (int iv), .c (int j)] (.c (bool r)) := by
 unfold f8
 refine FnOk.enter (rs := [.t 8]) func6 Z ntmps6 results6 Z ⟨trivial, Y⟩ (by kernel_rfl) Z ?_
 unfold y8 at h
 refine AWP.q (.u (W.box Z Z Z Z Z Z (.z Z Z (.nil (b6 (.q ?_))))))
 obtain ⟨a18, ha18, h⟩ := bind_some h
 refine AWP.u (W.loadAgg Z Z Z Z Z Z Z (.j Z Z (.O Z Z Z Z (af6 ha18) Z (.j Z Z (.ag Z Z Z (.ag Z Z Z (W.alloc Z Z Z Z (.z Z Z (W.storeAgg Z Z Z Z Z Z Z (.nil (b6 (.q ?_))))))))))))
 obtain ⟨a24, ha24, h⟩ := bind_some h
 refine AWP.u (W.loadAgg Z Z Z Z Z Z Z (.j Z Z (.O Z Z Z Z (strips_Cost_ok ha24) Z (.j Z Z (.ag Z Z Z (.ag Z Z Z (W.alloc Z Z Z Z (.z Z Z (W.storeAgg Z Z Z Z Z Z Z (.nil (b6 (.q ?_))))))))))))
 obtain ⟨t5, hx6, h⟩ := bind_some h
 refine AWP.seqJ (⟨[(1, .c (row 1 intI plan)), (2, .c (int iv)), (3, .c (int j)), (4, .c (.ptr 0 0 0)), (11, .c (int a24.1)), (59, .c (bool t5))], [.one (.cells 4 [(tT t)])]⟩) ?_ ?_
 ·rcases bft (!(decide (a18.2.code = 0))) with hb7 | hb7
  ·replace hx6 := K9 hb7 hx6
   refine AWP.u (W.fieldAddr Z Z Z Z (.E Z Z Z Z Z Z (.neq Z Z Z (.j Z Z (.B Z Z Z hb7 (.B Z Z Z hb7 (.B Z Z Z hb7 (.J Z hb7 Z Z (.j Z Z (.B Z Z Z Z (.B Z Z Z Z (.J Z Z Z Z (.j Z Z (.B Z Z Z Z (.B Z Z Z Z (.B Z Z Z Z (.B Z Z Z Z (.B Z Z Z Z (.J Z Z Z Z (.j Z Z (.B Z Z Z Z (.B Z Z Z Z (.B Z Z Z Z (.B Z Z Z Z (.B Z Z Z Z (.B Z Z Z Z (.J Z Z Z Z (.j Z Z (.B Z Z Z Z (.B Z Z Z Z (.B Z Z Z Z (.B Z Z Z Z (.J Z Z Z Z (.nil ?_))))))))))))))))))))))))))))))))))
   obtain rfl := oi hx6
   refine b6 (Sub.cut ⟨Z, Z, Z, Z, Z, Z, Y⟩ Z ⟨.one Z, Y⟩ Z)
  ·replace hx6 := K6 hb7 hx6
   rcases bft (!(decide (a24.2.code = 0))) with hb8 | hb8
   ·replace hx6 := K9 hb8 hx6
    refine AWP.u (W.fieldAddr Z Z Z Z (.E Z Z Z Z Z Z (.neq Z Z Z (.j Z Z (.v Z Z Z hb7 (W.fieldAddr Z Z Z Z (.v Z Z Z hb7 (.E Z Z Z Z Z Z (.v Z Z Z hb7 (.neq Z Z Z (.U Z hb7 Z Z (.j Z Z (.B Z Z Z hb8 (.B Z Z Z hb8 (.J Z hb8 Z Z (.j Z Z (.B Z Z Z Z (.B Z Z Z Z (.B Z Z Z Z (.B Z Z Z Z (.B Z Z Z Z (.J Z Z Z Z (.j Z Z (.B Z Z Z Z (.B Z Z Z Z (.B Z Z Z Z (.B Z Z Z Z (.B Z Z Z Z (.B Z Z Z Z (.J Z Z Z Z (.j Z Z (.B Z Z Z Z (.B Z Z Z Z (.B Z Z Z Z (.B Z Z Z Z (.J Z Z Z Z (.nil ?_)))))))))))))))))))))))))))))))))))))
    obtain rfl := oi hx6
    refine b6 (Sub.cut ⟨Z, Z, Z, Z, Z, Z, Y⟩ Z ⟨.one Z, Y⟩ Z)
   ·replace hx6 := K6 hb8 hx6
    rcases bft (!a18.1) with hb9 | hb9
    ·replace hx6 := K9 hb9 hx6
     refine AWP.u (W.fieldAddr Z Z Z Z (.E Z Z Z Z Z Z (.neq Z Z Z (.j Z Z (.v Z Z Z hb7 (W.fieldAddr Z Z Z Z (.v Z Z Z hb7 (.E Z Z Z Z Z Z (.v Z Z Z hb7 (.neq Z Z Z (.U Z hb7 Z Z (.j Z Z (.v Z Z Z hb8 (.j Z Z (.v Z Z Z hb8 (.not Z Z (.U Z hb8 Z Z (.j Z Z (.B Z Z Z hb9 (.B Z Z Z hb9 (.B Z Z Z hb9 (.B Z Z Z hb9 (.B Z Z Z hb9 (.J Z hb9 Z Z (.j Z Z (.B Z Z Z Z (.B Z Z Z Z (.B Z Z Z Z (.B Z Z Z Z (.B Z Z Z Z (.B Z Z Z Z (.J Z Z Z Z (.j Z Z (.B Z Z Z Z (.B Z Z Z Z (.B Z Z Z Z (.B Z Z Z Z (.J Z Z Z Z (.nil ?_)))))))))))))))))))))))))))))))))))))))
     obtain rfl := oi hx6
     refine b6 (Sub.cut ⟨Z, Z, Z, Z, Z, Z, Y⟩ Z ⟨.one Z, Y⟩ Z)
    ·replace hx6 := K6 hb9 hx6
     obtain ⟨a43, ha43, hx6⟩ := bind_some hx6
     rcases bft (!a43) with hb10 | hb10
     ·replace hx6 := K9 hb10 hx6
      refine AWP.u (W.fieldAddr Z Z Z Z (.E Z Z Z Z Z Z (.neq Z Z Z (.j Z Z (.v Z Z Z hb7 (W.fieldAddr Z Z Z Z (.v Z Z Z hb7 (.E Z Z Z Z Z Z (.v Z Z Z hb7 (.neq Z Z Z (.U Z hb7 Z Z (.j Z Z (.v Z Z Z hb8 (.j Z Z (.v Z Z Z hb8 (.not Z Z (.U Z hb8 Z Z (.j Z Z (.v Z Z Z hb9 (.j Z Z (.v Z Z Z hb9 (.j Z Z ?_))))))))))))))))))))))
      refine AOps.v Z Z Z hb9 ?_; refine S.len Z Z (fun hl42 => ?_)
      refine AOps.v Z Z Z hb9 (.O Z Z Z Z (R2 ha43) Z (.v Z Z Z hb9 (.not Z Z (.U Z hb9 Z Z (.j Z Z (.B Z Z Z hb10 (.B Z Z Z hb10 (.B Z Z Z hb10 (.B Z Z Z hb10 (.B Z Z Z hb10 (.B Z Z Z hb10 (.J Z hb10 Z Z (.j Z Z (.B Z Z Z Z (.B Z Z Z Z (.B Z Z Z Z (.B Z Z Z Z (.J Z Z Z Z (.nil ?_)))))))))))))))))))
      obtain rfl := oi hx6
      refine b6 (Sub.cut ⟨Z, Z, Z, Z, Z, Z, Y⟩ Z ⟨.one Z, Y⟩ Z)
     ·replace hx6 := K6 hb10 hx6
      obtain ⟨a51, ha51, hx6⟩ := bind_some hx6
      rcases bft (!a51) with hb11 | hb11
      ·replace hx6 := K9 hb11 hx6
       refine AWP.u (W.fieldAddr Z Z Z Z (.E Z Z Z Z Z Z (.neq Z Z Z (.j Z Z (.v Z Z Z hb7 (W.fieldAddr Z Z Z Z (.v Z Z Z hb7 (.E Z Z Z Z Z Z (.v Z Z Z hb7 (.neq Z Z Z (.U Z hb7 Z Z (.j Z Z (.v Z Z Z hb8 (.j Z Z (.v Z Z Z hb8 (.not Z Z (.U Z hb8 Z Z (.j Z Z (.v Z Z Z hb9 (.j Z Z (.v Z Z Z hb9 (.j Z Z ?_))))))))))))))))))))))
       refine AOps.v Z Z Z hb9 ?_; refine S.len Z Z (fun hl42 => ?_)
       refine AOps.v Z Z Z hb9 (.O Z Z Z Z (R2 ha43) Z (.v Z Z Z hb9 (.not Z Z (.U Z hb9 Z Z (.j Z Z (.v Z Z Z hb10 (.j Z Z (.v Z Z Z hb10 (.j Z Z (.v Z Z Z hb10 (.j Z Z ?_)))))))))))
       refine AOps.v Z Z Z hb10 ?_; refine S.len Z Z (fun hl50 => ?_)
       refine AOps.v Z Z Z hb10 (.O Z Z Z Z (R2 ha51) Z (.v Z Z Z hb10 (.not Z Z (.U Z hb10 Z Z (.j Z Z (.B Z Z Z hb11 (.B Z Z Z hb11 (.B Z Z Z hb11 (.B Z Z Z hb11 (.J Z hb11 Z Z (.nil ?_)))))))))))
       obtain rfl := oi hx6
       refine b6 (Sub.cut ⟨Z, Z, Z, Z, Z, Z, Y⟩ Z ⟨.one Z, Y⟩ Z)
      ·replace hx6 := K6 hb11 hx6
       refine AWP.u (W.fieldAddr Z Z Z Z (.E Z Z Z Z Z Z (.neq Z Z Z (.j Z Z (.v Z Z Z hb7 (W.fieldAddr Z Z Z Z (.v Z Z Z hb7 (.E Z Z Z Z Z Z (.v Z Z Z hb7 (.neq Z Z Z (.U Z hb7 Z Z (.j Z Z (.v Z Z Z hb8 (.j Z Z (.v Z Z Z hb8 (.not Z Z (.U Z hb8 Z Z (.j Z Z (.v Z Z Z hb9 (.j Z Z (.v Z Z Z hb9 (.j Z Z ?_))))))))))))))))))))))
       refine AOps.v Z Z Z hb9 ?_; refine S.len Z Z (fun hl42 => ?_)
       refine AOps.v Z Z Z hb9 (.O Z Z Z Z (R2 ha43) Z (.v Z Z Z hb9 (.not Z Z (.U Z hb9 Z Z (.j Z Z (.v Z Z Z hb10 (.j Z Z (.v Z Z Z hb10 (.j Z Z (.v Z Z Z hb10 (.j Z Z ?_)))))))))))
       refine AOps.v Z Z Z hb10 ?_; refine S.len Z Z (fun hl50 => ?_)
       refine AOps.v Z Z Z hb10 (.O Z Z Z Z (R2 ha51) Z (.v Z Z Z hb10 (.not Z Z (.U Z hb10 Z Z (.j Z Z (.v Z Z Z hb11 (.j Z Z (.v Z Z Z hb11 (.j Z Z (.v Z Z Z hb11 (S.sub Z Z Z (.v Z Z Z hb11 (.gtr Z Z Z (.U Z hb11 Z Z (.nil ?_)))))))))))))))
       obtain rfl := oi hx6
       refine b6 (Sub.cut ⟨Z, Z, Z, Z, Z, Z, Y⟩ Z ⟨.one Z, Y⟩ Z)
 ·refine AWP.af Z h (fun hc12 h => ?_) (fun hc12 h => ?_)
  ·refine AWP.q ?_
   obtain ⟨a60, ha60, h⟩ := bind_some h
   refine AWP.u (.O Z Z Z Z (N8 ha60) Z (.z Z Z (.nil (b6 (.ret (f5 ?_))))))
   obtain rfl := oi h
   exact Done.ret Z Z
  ·refine AWP.skip (b6 (.q ?_))
   obtain ⟨a69, ha69, a70, ha70, h⟩ := b2 h
   refine AWP.drawEI [12, 14] mixed Z Z Z ?_
   refine e7.consN Z Z (fun E => W.loadAgg Z Z Z Z Z Z Z .N) Z (.consN Z Z (fun E => W.fieldAddr Z Z Z Z .N) Z (.consN Z Z (fun E => AOps.E Z Z Z Z Z Z .N) Z (.consN Z Z (fun E => S.litD (f := f7) (l := [t.goal]) (ess := [[row 1 intI t.goal]]) Z Z Z Z Z Z Z Z ⟨⟨.inl Z, Y⟩, Y⟩ Z .N) Z (.consN Z Z (fun E => AOps.j Z Z .N) Z (.consN Z Z (fun E => AOps.j Z Z .N) Z (.consN Z Z (fun E => AOps.j Z Z .N) Z (.consN Z Z (fun E => S.sub3 ha69 Z Z Z Z .N) Z (.consN Z Z (fun E => AOps.O Z Z Z Z (C0 ha70) Z .N) Z (.consN Z Z (fun E => AOps.j Z Z .N) Z (.consN Z Z (fun E => AOps.ag Z Z Z .N) Z (.consN Z Z (fun E => AOps.ag Z Z Z .N) Z ?_)))))))))))
   apply e7.consE; exact Z; exact Z; intro E
   refine W.alloc Z Z Z Z .N
   exact Z
   exact Z
   refine e7.consN Z Z (fun E => AOps.z Z Z .N) Z ?_
   apply e7.consE (v := .undef); exact Z; exact Z; intro E
   refine W.storeAgg Z Z Z Z Z Z Z .N
   exact Z
   exact Z
   refine e7.done Z ?_ ?_
   ·refine d9.cons Z Z ?_ ?_
    refine b8.go Z Z (fun E => W.loadAgg Z Z Z Z Z Z Z .N) ?_
    refine b8.go Z Z (fun E => W.loadAgg Z Z Z Z Z Z Z .N) ?_
    refine b8.skip Z (b8.nil)
    refine d9.cons Z Z ?_ ?_
    refine b8.go Z Z (fun E => W.fieldAddr Z Z Z Z .N) ?_
    refine b8.go Z Z (fun E => W.fieldAddr Z Z Z Z .N) ?_
    refine b8.skip Z (b8.nil)
    refine d9.cons Z Z ?_ ?_
    refine b8.go Z Z (fun E => AOps.E Z Z Z Z Z Z .N) ?_
    refine b8.go Z Z (fun E => AOps.E Z Z Z Z Z Z .N) ?_
    refine b8.skip Z (b8.nil)
    refine d9.cons Z Z ?_ ?_
    refine b8.go Z Z (fun E => S.litD (f := f7) (l := [t.goal]) (ess := [[row 1 intI t.goal]]) Z Z Z Z Z Z Z Z ⟨⟨.inl Z, Y⟩, Y⟩ Z .N) ?_
    refine b8.go Z Z (fun E => S.litD (f := f7) (l := [t.goal]) (ess := [[row 1 intI t.goal]]) Z Z Z Z Z Z Z Z ⟨⟨.inl Z, Y⟩, Y⟩ Z .N) ?_
    refine b8.skip Z (b8.nil)
    refine d9.cons Z Z ?_ ?_
    refine b8.go Z Z (fun E => AOps.j Z Z .N) ?_
    refine b8.go Z Z (fun E => AOps.j Z Z .N) ?_
    refine b8.skip Z (b8.nil)
    refine d9.cons Z Z ?_ ?_
    refine b8.go Z Z (fun E => AOps.j Z Z .N) ?_
    refine b8.go Z Z (fun E => AOps.j Z Z .N) ?_
    refine b8.skip Z (b8.nil)
    refine d9.cons Z Z ?_ ?_
    refine b8.go Z Z (fun E => AOps.j Z Z .N) ?_
    refine b8.go Z Z (fun E => AOps.j Z Z .N) ?_
    refine b8.skip Z (b8.nil)
    refine d9.cons Z Z ?_ ?_
    refine b8.go Z Z (fun E => S.sub3 ha69 Z Z Z Z .N) ?_
    refine b8.go Z Z (fun E => S.sub3 ha69 Z Z Z Z .N) ?_
    refine b8.skip Z (b8.nil)
    refine d9.cons Z Z ?_ ?_
    refine b8.go Z Z (fun E => AOps.O Z Z Z Z (C0 ha70) Z .N) ?_
    refine b8.go Z Z (fun E => AOps.O Z Z Z Z (C0 ha70) Z .N) ?_
    refine b8.skip Z (b8.nil)
    refine d9.cons Z Z ?_ ?_
    refine b8.go Z Z (fun E => AOps.j Z Z .N) ?_
    refine b8.go Z Z (fun E => AOps.j Z Z .N) ?_
    refine b8.skip Z (b8.nil)
    refine d9.cons Z Z ?_ ?_
    refine b8.go Z Z (fun E => AOps.ag Z Z Z .N) ?_
    refine b8.go Z Z (fun E => AOps.ag Z Z Z .N) ?_
    refine b8.skip Z (b8.nil)
    refine d9.cons Z Z ?_ ?_
    refine b8.go Z Z (fun E => AOps.ag Z Z Z .N) ?_
    refine b8.go Z Z (fun E => AOps.ag Z Z Z .N) ?_
    refine b8.skip Z (b8.nil)
    refine d9.skip Z ?_
    refine d9.cons Z Z ?_ ?_
    refine b8.skip Z ?_
    refine b8.go Z Z (fun E => AOps.z Z Z .N) ?_
    refine b8.skip Z (b8.nil)
    refine d9.skip Z (d9.nil)
   dsimp only [l0]
   refine b6 (.q (.q (.u (W.fieldAddr Z Z Z Z (.E Z Z Z Z Z Z (.neq Z Z Z (.nil (b6 (.iteN Z h (fun hc13 h => ?_) (fun hc13 h => ?_))))))))))
   ·obtain ⟨t14, hx15, h⟩ := bind_some h
    refine AWP.seqJ (⟨[(8, .c (bool t14))], []⟩) ?_ ?_
    ·rcases bft (decide (a70.2.code = 10)) with hb16 | hb16
     ·replace hx15 := B3 hb16 hx15
      obtain ⟨a80, ha80, hx15⟩ := bind_some hx15
      refine AWP.u (W.fieldAddr Z Z Z Z (.E Z Z Z Z Z Z (.eql Z Z Z (.j Z Z (.v Z Z Z hb16 (.O Z Z Z Z (N8 ha80) Z (.J Z hb16 Z Z (.z Z Z (.nil ?_)))))))))
      obtain rfl := oi hx15
      refine b6 (Sub.cut ⟨Z, Y⟩ Z trivial Z)
     ·replace hx15 := B2 hb16 hx15
      refine AWP.u (W.fieldAddr Z Z Z Z (.E Z Z Z Z Z Z (.eql Z Z Z (.j Z Z (.B Z Z Z hb16 (.U Z hb16 Z Z (.z Z Z (.nil ?_))))))))
      obtain rfl := oi hx15
      refine b6 (Sub.cut ⟨Z, Y⟩ Z trivial Z)
    ·refine AWP.ret (f5 ?_)
     obtain rfl := oi h
     exact Done.ret Z Z
   ·refine AWP.skip (b6 ?_)
    obtain ⟨t17, hx18, h⟩ := bind_some h
    refine AWP.seqJ (⟨[(8, .c (bool t17))], []⟩) ?_ ?_
    ·rcases bft (decide ((a70.1.length : Int) = 1)) with hb19 | hb19
     ·replace hx18 := B3 hb19 hx18
      obtain ⟨a87, ha87, hx18⟩ := bind_some hx18
      rcases bft (decide (a87.1 ≤ a24.1)) with hb20 | hb20
      ·replace hx18 := B3 hb20 hx18
       obtain ⟨a94, ha94, hx18⟩ := bind_some hx18
       refine AWP.u (.j Z Z (S.len Z Z (fun hl83 => .eql Z Z Z (.j Z Z (.v Z Z Z hb19 (.j Z Z (.v Z Z Z hb19 (S.idx ha87 Z Z Z Z (.v Z Z Z hb19 (W.idxArrI Z Z Z (Nat.le_of_ble_eq_true Z) Z Z (.v Z Z Z hb19 (.ab Z Z Z Z (.v Z Z Z hb19 (.j Z Z (.v Z Z Z hb19 (.leq Z Z Z (.J Z hb19 Z Z (.j Z Z (.v Z Z Z hb20 (.O Z Z Z Z (N8 ha94) Z (.J Z hb20 Z Z (.z Z Z (.nil ?_)))))))))))))))))))))))
       obtain rfl := oi hx18
       refine b6 (Sub.cut ⟨Z, Y⟩ Z trivial Z)
      ·replace hx18 := B2 hb20 hx18
       refine AWP.u (.j Z Z (S.len Z Z (fun hl83 => .eql Z Z Z (.j Z Z (.v Z Z Z hb19 (.j Z Z (.v Z Z Z hb19 (S.idx ha87 Z Z Z Z (.v Z Z Z hb19 (W.idxArrI Z Z Z (Nat.le_of_ble_eq_true Z) Z Z (.v Z Z Z hb19 (.ab Z Z Z Z (.v Z Z Z hb19 (.j Z Z (.v Z Z Z hb19 (.leq Z Z Z (.J Z hb19 Z Z (.j Z Z (.B Z Z Z hb20 (.U Z hb20 Z Z (.z Z Z (.nil ?_))))))))))))))))))))))
       obtain rfl := oi hx18
       refine b6 (Sub.cut ⟨Z, Y⟩ Z trivial Z)
     ·replace hx18 := B2 hb19 hx18
      refine AWP.u (.j Z Z (S.len Z Z (fun hl83 => .eql Z Z Z (.j Z Z (.B Z Z Z hb19 (.B Z Z Z hb19 (.B Z Z Z hb19 (.B Z Z Z hb19 (.B Z Z Z hb19 (.B Z Z Z hb19 (.U Z hb19 Z Z (.j Z Z (.B Z Z Z Z (.U Z Z Z Z (.z Z Z (.nil ?_))))))))))))))))
      obtain rfl := oi hx18
      refine b6 (Sub.cut ⟨Z, Y⟩ Z trivial Z)
    ·refine AWP.ret ?_
     obtain rfl := oi h
     exact Done.ret Z Z
end Ab
end
section
namespace Ab
open Go Go.Proofs
set_option maxHeartbeats 4000000
set_option linter.all false
attribute [local irreducible] AWP AOps thn inB Done f8 l6 Sub
end Ab
end
section
namespace Ab
open Go
theorem F0 {α : Type} {l : List α} {k : Nat} : ix l (k : Int) = l[k]? := by simp [ix]
theorem j6 {α : Type} {l : List α} {i : Int} (h0 : 0 ≤ i) (h1 : i < l.length) : ∃ a, ix l i = some a ∧ l[i.toNat]? = some a := by
 have h : i.toNat < l.length := by omega
 exact ⟨l[i.toNat], by simp [ix, h0, h], by simp [h]⟩
theorem o5 {α : Type} {l : List α} {i : Int} {a : α} (h : ix l i = some a) : 0 ≤ i ∧ i < l.length ∧ l[i.toNat]? = some a := by
 unfold ix at h
 split at h
 ·have := (List.getElem?_eq_some_iff.1 h).1
  exact ⟨by assumption, by omega, h⟩
 ·cases h
theorem m9 {n : Int} (h1 : -9223372036854775808 ≤ n) (h2 : n ≤ 9223372036854775807) : w64 n = n := w64_eq ⟨h1, h2⟩
theorem forN_inv {S : Type} {body : Int → S → Option S} (P : Int → S → Prop) : ∀ (k : Nat) (i : Int) (s : S), P i s →
  (∀ j s, i ≤ j → j < i + k → P j s → ∃ s', body j s = some s' ∧ P (j + 1) s') → ∃ s', forN body k i s = some s' ∧ P (i + k) s'
 | 0, i, s, h, _ => ⟨s, rfl, by simpa using h⟩
 | k + 1, i, s, h, hb => by
  obtain ⟨s1, h1, h2⟩ := hb i s (Int.le_refl _) (by omega) h
  obtain ⟨s2, h3, h4⟩ := forN_inv P k (i + 1) s1 h2 (fun j s g1 g2 => hb j s (by omega) (by omega))
  exact ⟨s2, by simp only [forN, h1]; exact h3, by rw [show i + ((k + 1 : Nat) : Int) = i + 1 + k by omega]; exact h4⟩
theorem M6 {S : Type} {body : Int → S → Option S} {n : Int} (P : Int → S → Prop) {s : S} (hn : 0 ≤ n) (h0 : P 0 s)
  (hb : ∀ j s, 0 ≤ j → j < n → P j s → ∃ s', body j s = some s' ∧ P (j + 1) s') : ∃ s', forR 0 n body s = some s' ∧ P n s' := by
 obtain ⟨s', h1, h2⟩ := forN_inv P (n - 0).toNat 0 s h0 (fun j s g1 g2 => hb j s g1 (by omega))
 exact ⟨s', h1, by rwa [show (0 : Int) + ((n - 0).toNat : Int) = n by omega] at h2⟩
theorem rngN_inv {S O : Type} {body : Int → S → Option (S ⊕ O)} (P : Int → S → Prop) (Q : O → Prop) : ∀ (k : Nat) (i : Int) (s : S), P i s →
  (∀ j s, i ≤ j → j < i + k → P j s → (∃ s', body j s = some (.inl s') ∧ P (j + 1) s') ∨ ∃ o, body j s = some (.inr o) ∧ Q o) →
  (∃ s', rngN body k i s = some (.inl s') ∧ P (i + k) s') ∨ ∃ o, rngN body k i s = some (.inr o) ∧ Q o
 | 0, i, s, h, _ => .inl ⟨s, rfl, by simpa using h⟩
 | k + 1, i, s, h, hb => by
  rcases hb i s (Int.le_refl _) (by omega) h with ⟨s1, h1, h2⟩ | ⟨o, h1, h2⟩
  ·rcases rngN_inv P Q k (i + 1) s1 h2 (fun j s g1 g2 => hb j s (by omega) (by omega)) with ⟨s2, h3, h4⟩ | ⟨o, h3, h4⟩
   ·exact .inl ⟨s2, by simp only [rngN, h1]; exact h3, by rw [show i + ((k + 1 : Nat) : Int) = i + 1 + k by omega]; exact h4⟩
   ·exact .inr ⟨o, by simp only [rngN, h1]; exact h3, h4⟩
  ·exact .inr ⟨o, by simp only [rngN, h1], h2⟩
theorem ad1 {S O : Type} {body : Int → S → Option (S ⊕ O)} {n : Int} (P : Int → S → Prop) (Q : O → Prop) {s : S} (hn : 0 ≤ n) (h0 : P 0 s)
  (hb : ∀ j s, 0 ≤ j → j < n → P j s → (∃ s', body j s = some (.inl s') ∧ P (j + 1) s') ∨ ∃ o, body j s = some (.inr o) ∧ Q o) :
  (∃ s', rngX 0 n body s = some (.inl s') ∧ P n s') ∨ ∃ o, rngX 0 n body s = some (.inr o) ∧ Q o := by
 rcases rngN_inv P Q (n - 0).toNat 0 s h0 (fun j s g1 g2 => hb j s g1 (by omega)) with ⟨s', h1, h2⟩ | h
 ·exact .inl ⟨s', h1, by rwa [show (0 : Int) + ((n - 0).toNat : Int) = n by omega] at h2⟩
 ·exact .inr h
theorem LoopN_inv {S O : Type} {body : S → Option (S ⊕ O)} (P : S → Prop) (Q : O → Prop) (μ : S → Nat) (hb : ∀ s, P s → (∃ s', body s = some (.inl s') ∧ P s' ∧ μ s' < μ s) ∨ ∃ o, body s = some (.inr o) ∧ Q o) :
  ∀ (k : Nat) (s : S), μ s < k → P s → ∃ o, K7 body k s = some o ∧ Q o
 | 0, s, h, _ => by omega
 | k + 1, s, h, hs => by
  rcases hb s hs with ⟨s', h1, h2, h3⟩ | ⟨o, h1, h2⟩
  ·obtain ⟨o, g1, g2⟩ := LoopN_inv P Q μ hb k s' (by omega) h2
   exact ⟨o, by simp only [K7, h1]; exact g1, g2⟩
  ·exact ⟨o, by simp only [K7, h1], h2⟩
theorem P3 {S O : Type} {body : S → Option (S ⊕ O)} (P : S → Prop) (Q : O → Prop) (μ : S → Nat) {s : S} (hs : P s)
  (hb : ∀ s, P s → (∃ s', body s = some (.inl s') ∧ P s' ∧ μ s' < μ s) ∨ ∃ o, body s = some (.inr o) ∧ Q o) : ∃ o, Loop body s = some o ∧ Q o := by
 obtain ⟨o, h1, h2⟩ := LoopN_inv P Q μ hb (μ s + 1) s (by omega) hs
 exact ⟨o, Loop_iff.2 ⟨_, h1⟩, h2⟩
/-! ### Two loops that do the same -/
theorem rngN_eq {S O : Type} {b1 b2 : Int → S → Option (S ⊕ O)} (P : Int → S → Prop) : ∀ (k : Nat) (i : Int) (s : S), P i s →
  (∀ j s, i ≤ j → j < i + k → P j s → b1 j s = b2 j s ∧ b1 j s ≠ none ∧ ∀ s', b1 j s = some (.inl s') → P (j + 1) s') →
  rngN b1 k i s = rngN b2 k i s ∧ rngN b1 k i s ≠ none ∧ ∀ s', rngN b1 k i s = some (.inl s') → P (i + k) s'
 | 0, i, s, h, _ => ⟨rfl, by simp [rngN], fun s' hs => by simp only [rngN, Option.some.injEq, Sum.inl.injEq] at hs; subst hs; simpa using h⟩
 | k + 1, i, s, h, hb => by
  obtain ⟨h1, h2, h3⟩ := hb i s (Int.le_refl _) (by omega) h
  simp only [rngN]
  rw [← h1]
  cases hc : b1 i s with
  | none => exact absurd hc h2
  | some x =>
   cases x with
   | inr o => exact ⟨rfl, by simp, fun s' hs => by simp at hs⟩
   | inl s1 =>
    dsimp only
    have := rngN_eq (b1 := b1) (b2 := b2) P k (i + 1) s1 (h3 s1 hc) (fun j s g1 g2 => hb j s (by omega) (by omega))
    rwa [show i + 1 + (k : Int) = i + ((k + 1 : Nat) : Int) by omega] at this
theorem rngX_eq {S O : Type} {b1 b2 : Int → S → Option (S ⊕ O)} {n : Int} (P : Int → S → Prop) {s : S} (hn : 0 ≤ n) (h0 : P 0 s)
  (hb : ∀ j s, 0 ≤ j → j < n → P j s → b1 j s = b2 j s ∧ b1 j s ≠ none ∧ ∀ s', b1 j s = some (.inl s') → P (j + 1) s') :
  rngX 0 n b1 s = rngX 0 n b2 s ∧ rngX 0 n b1 s ≠ none ∧ ∀ s', rngX 0 n b1 s = some (.inl s') → P n s' := by
 have := rngN_eq P (n - 0).toNat 0 s h0 (fun j s g1 g2 => hb j s g1 (by omega))
 rwa [show (0 : Int) + ((n - 0).toNat : Int) = n by omega] at this
end Ab
end
