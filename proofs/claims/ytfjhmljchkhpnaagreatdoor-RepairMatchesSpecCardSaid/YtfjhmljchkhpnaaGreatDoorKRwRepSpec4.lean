/-
  Texts that the proof stands on.
-/
import Derived.Test.YtfjhmljchkhpnaaGreatDoorKRwRepSpec3
set_option linter.all false
section
namespace Ab
open Go Go.Proofs
open Tryz
set_option maxHeartbeats 4000000
set_option linter.all false
attribute [local irreducible] AWP AOps thn inB Done d9 s5 Sub
abbrev tT (v : d5) : List C := [int v.facts, row 1 intI v.init, row 1 intI v.goal, row 4 d8 v.operators]
abbrev tF (a : Int) (b c : List Int) (d : List g7) : List C := [int a, row 1 intI b, row 1 intI c, row 4 d8 d]
abbrev nN (v : d3) : List C := [row 1 intI v.fs, int v.fat, int v.ffrom, int v.op, int v.change]
abbrev vI : Int → Value := Value.int .i64
abbrev nL : Value := .slice none 0 0
theorem n4 {l : List Int} {nv : Int} {r : Bool} (h : x7 l nv = some r) : d9 prog 66 [.c (row 1 intI l), .c (int nv)] (.c (bool r)) := by
 unfold d9
 refine FnOk.enter (rs := [.t 4]) func66 Z ntmps66 results66 Z ⟨trivial, Y⟩ (by kernel_rfl) Z ?_
 unfold x7 at h
 refine AWP.g (.j (.q Z Z (.nil (b5 (.g (.g (.j (.e Z Z (S.len Z Z (fun hl8 => .e Z Z (.nil (b5 (.U ?_)))))))))))))
 obtain ⟨oo, ho1, h⟩ := b8 h
 refine AWP.rngS ho1 (fun t3 _ => ⟨[(0, .c (row 1 intI l)), (1, .c (int nv)), (7, .c (row 1 intI l)), (8, .c (int (l.length : Int))), (9, .c (int t3))], []⟩) (fun o e st => match o with | .inl _ => e = .exit 0 ∧ Sub [] st ⟨[], []⟩ | .inr x => e = .ret ∧ Done [.t 4] (fun t _ => t = .c (bool x)) .ret st) ?_ ?_ ?_ ?_
 ·try dsimp only
  exact Sub.env ⟨Z, Z, Z, Z, Z, Y⟩
 ·intro t3 s hlot3 hltt3 _
  try dsimp only
  refine AWP.g (.j (.F Z Z Z (.nil (b5 (.g (.ad Z hltt3 (.exit (d6 (d6 ⟨Z, ?_⟩)))))))))
  exact Sub.env trivial
 ·intro t3 s o hlot3 hltt3 h
  unfold K4 at h
  try dsimp only at h ⊢
  refine AWP.g (.j (.F Z Z Z (.nil (b5 (.g (.ae Z hltt3 (.skip (b5 (.g (.U (.g ?_)))))))))))
  obtain ⟨a12, ha12, h⟩ := b8 h
  refine AWP.j (.e Z Z (S.idx ha12 Z Z Z Z (.ac Z Z Z Z (.q Z Z (.q Z Z (.nil (b5 ?_)))))))
  obtain ⟨t4, hx5, h⟩ := b8 h
  refine AWP.seqJ (⟨[(0, .c (row 1 intI l)), (1, .c (int nv)), (7, .c (row 1 intI l)), (8, .c (int (l.length : Int))), (9, .c (int t3)), (33, .c (bool t4))], []⟩) ?_ ?_
  ·rcases bft (decide (a12 < 0)) with hb6 | hb6
   ·replace hx5 := x5 hb6 hx5
    refine AWP.j (.e Z Z (.F Z Z Z (.e Z Z (.v Z Z Z hb6 (.v Z Z Z hb6 (.v Z Z Z hb6 (.J Z hb6 Z Z (.e Z Z (.v Z Z Z Z (.v Z Z Z Z (.v Z Z Z Z (.af Z Z Z (.af Z Z Z (.af Z Z Z (.af Z Z Z (.af Z Z Z (.af Z Z Z (.af Z Z Z (.v Z Z Z Z (.J Z Z Z Z (.nil ?_)))))))))))))))))))))
    obtain rfl := oi hx5
    refine b5 (Sub.env ⟨Z, Z, Z, Z, Z, Z, Y⟩)
   ·replace hx5 := x4 hb6 hx5
    rcases bft (decide (nv ≤ a12)) with hb7 | hb7
    ·replace hx5 := x5 hb7 hx5
     refine AWP.j (.e Z Z (.F Z Z Z (.e Z Z (.u Z Z Z hb6 (.e Z Z (.u Z Z Z hb6 (.e Z Z (.u Z Z Z hb6 (.geq Z Z Z (.O Z hb6 Z Z (.e Z Z (.v Z Z Z hb7 (.v Z Z Z hb7 (.v Z Z Z hb7 (.af Z Z Z (.af Z Z Z (.af Z Z Z (.af Z Z Z (.af Z Z Z (.af Z Z Z (.af Z Z Z (.v Z Z Z hb7 (.J Z hb7 Z Z (.nil ?_))))))))))))))))))))))))
     obtain rfl := oi hx5
     refine b5 (Sub.env ⟨Z, Z, Z, Z, Z, Z, Y⟩)
    ·replace hx5 := x4 hb7 hx5
     rcases bft (decide (0 < t3)) with hb8 | hb8
     ·replace hx5 := x5 hb8 hx5
      obtain ⟨a29, ha29, hx5⟩ := b8 hx5
      refine AWP.j (.e Z Z (.F Z Z Z (.e Z Z (.u Z Z Z hb6 (.e Z Z (.u Z Z Z hb6 (.e Z Z (.u Z Z Z hb6 (.geq Z Z Z (.O Z hb6 Z Z (.e Z Z (.u Z Z Z hb7 (.e Z Z (.u Z Z Z hb7 (.gtr Z Z Z (.u Z Z Z hb7 (.e Z Z (.u Z Z Z hb8 (.e Z Z (.u Z Z Z hb8 (.e Z Z (.u Z Z Z hb8 (.e Z Z (.u Z Z Z hb8 (.sub' Z Z Z (by omega) (.u Z Z Z hb8 (S.idx ha29 Z Z Z Z (.u Z Z Z hb8 (.ac Z Z Z Z (.u Z Z Z hb8 (.leq Z Z Z (.u Z Z Z hb7 (.J Z hb8 Z Z (.O Z hb7 Z Z (.nil ?_)))))))))))))))))))))))))))))))))))
      obtain rfl := oi hx5
      refine b5 (Sub.env ⟨Z, Z, Z, Z, Z, Z, Y⟩)
     ·replace hx5 := x4 hb8 hx5
      refine AWP.j (.e Z Z (.F Z Z Z (.e Z Z (.u Z Z Z hb6 (.e Z Z (.u Z Z Z hb6 (.e Z Z (.u Z Z Z hb6 (.geq Z Z Z (.O Z hb6 Z Z (.e Z Z (.u Z Z Z hb7 (.e Z Z (.u Z Z Z hb7 (.gtr Z Z Z (.u Z Z Z hb7 (.e Z Z (.v Z Z Z hb8 (.v Z Z Z hb8 (.v Z Z Z hb8 (.v Z Z Z hb8 (.v Z Z Z hb8 (.v Z Z Z hb8 (.v Z Z Z hb8 (.u Z Z Z hb7 (.O Z hb8 Z Z (.O Z hb7 Z Z (.nil ?_))))))))))))))))))))))))))))
      obtain rfl := oi hx5
      refine b5 (Sub.env ⟨Z, Z, Z, Z, Z, Z, Y⟩)
  ·refine AWP.ag Z h (fun hc9 h => ?_) (fun hc9 h => ?_)
   ·refine AWP.g (.j (.q Z Z (.nil (b5 (.ret (f8 (d4 ?_)))))))
    obtain rfl := oi h
    refine d4 ⟨_, Z, Z, ?_⟩
    exact Done.ret Z Z
   ·refine AWP.skip (e6 (b5 (.j (.add Z Z Z (by omega) (.e Z Z (.nil ?_))))))
    obtain rfl := oi h
    refine b5 ⟨_, Z, ?_⟩
    exact Sub.env ⟨Z, Z, Z, Z, Z, Y⟩
 ·intro e s hq
  rcases oo with u | x
  ·try dsimp only at h hq
   obtain ⟨rfl, hs⟩ := hq
   refine ⟨_, hs, ?_⟩
   refine f9 (b5 (.g (.j (.q Z Z (.nil (b5 (.ret ?_)))))))
   obtain rfl := oi h
   exact Done.ret Z Z
  ·try dsimp only at h hq
   obtain ⟨rfl, hs⟩ := hq
   refine ⟨_, Sub.refl _ _, ?_⟩
   refine f8 (d4 ?_)
   obtain rfl := oi h
   exact hs
theorem w5 {xv : Int} {r : Bool} (h : y7 xv = some r) : d9 prog 100 [.c (int xv)] (.c (bool r)) := by
 unfold d9
 refine FnOk.enter (rs := [.t 2]) func100 Z ntmps100 results100 Z ⟨trivial, Y⟩ (by kernel_rfl) Z ?_
 unfold y7 at h
 refine AWP.g (.j (.q Z Z (.nil (b5 (.g (.j (.e Z Z (.e Z Z (.neq Z Z Z (.q Z Z (.nil (b5 (.ret ?_)))))))))))))
 obtain rfl := oi h
 exact Done.ret Z Z
theorem cmp_Less_int_ok {xv : Int} {yv : Int} {r : Bool} (h : K7 xv yv = some r) : d9 prog 113 [.c (int xv), .c (int yv)] (.c (bool r)) := by
 unfold d9
 refine FnOk.enter (rs := [.t 4]) func113 Z ntmps113 results113 Z ⟨trivial, Y⟩ (by kernel_rfl) Z ?_
 unfold K7 at h
 refine AWP.g (.j (.q Z Z (.nil (b5 ?_))))
 obtain ⟨t3, hx4, h⟩ := b8 h
 refine AWP.seqJ (⟨[(4, .c (bool t3))], []⟩) ?_ ?_
 ·obtain ⟨a6, ha6, hx4⟩ := b8 hx4
  rcases bft (a6) with hb5 | hb5
  ·replace hx4 := A9 hb5 hx4
   obtain ⟨a9, ha9, hx4⟩ := b8 hx4
   rcases bft (!a9) with hb6 | hb6
   ·replace hx4 := A9 hb6 hx4
    refine AWP.j (.e Z Z (.E Z Z Z Z (w5 ha6) Z (.e Z Z (.u Z Z Z hb5 (.e Z Z (.u Z Z Z hb5 (.E Z Z Z Z (w5 ha9) Z (.u Z Z Z hb5 (.ab Z Z (.J Z hb5 Z Z (.e Z Z (.v Z Z Z hb6 (.v Z Z Z hb6 (.v Z Z Z hb6 (.J Z hb6 Z Z (.q Z Z (.nil ?_)))))))))))))))))
    obtain rfl := oi hx4
    refine b5 (Sub.env ⟨Z, Y⟩)
   ·replace hx4 := A7 hb6 hx4
    refine AWP.j (.e Z Z (.E Z Z Z Z (w5 ha6) Z (.e Z Z (.u Z Z Z hb5 (.e Z Z (.u Z Z Z hb5 (.E Z Z Z Z (w5 ha9) Z (.u Z Z Z hb5 (.ab Z Z (.J Z hb5 Z Z (.e Z Z (.u Z Z Z hb6 (.e Z Z (.u Z Z Z hb6 (.e Z Z (.u Z Z Z hb6 (.F Z Z Z (.O Z hb6 Z Z (.q Z Z (.nil ?_))))))))))))))))))))
    obtain rfl := oi hx4
    refine b5 (Sub.env ⟨Z, Y⟩)
  ·replace hx4 := A7 hb5 hx4
   refine AWP.j (.e Z Z (.E Z Z Z Z (w5 ha6) Z (.e Z Z (.v Z Z Z hb5 (.v Z Z Z hb5 (.v Z Z Z hb5 (.O Z hb5 Z Z (.e Z Z (.u Z Z Z Z (.e Z Z (.u Z Z Z Z (.e Z Z (.u Z Z Z Z (.F Z Z Z (.O Z Z Z Z (.q Z Z (.nil ?_)))))))))))))))))
   obtain rfl := oi hx4
   refine b5 (Sub.env ⟨Z, Y⟩)
 ·refine AWP.ret ?_
  obtain rfl := oi h
  exact Done.ret Z Z
theorem J7 {xv : Int} {r : Bool} (h : D2 xv = some r) : d9 prog 114 [.c (int xv)] (.c (bool r)) := by
 unfold d9
 refine FnOk.enter (rs := [.t 2]) func114 Z ntmps114 results114 Z ⟨trivial, Y⟩ (by kernel_rfl) Z ?_
 unfold D2 at h
 refine AWP.g (.j (.q Z Z (.nil (b5 (.g (.j (.e Z Z (.e Z Z (.neq Z Z Z (.q Z Z (.nil (b5 (.ret ?_)))))))))))))
 obtain rfl := oi h
 exact Done.ret Z Z
theorem F4 {xv : List Int} {target : Int} {r : Int × Bool} (h : l8 xv target = some r) : d9 prog 87 [.c (row 1 intI xv), .c (int target)] (.tup [.c (int r.1), .c (bool r.2)]) := by
 unfold d9
 refine FnOk.enter (rs := [.t 4, .t 5]) func87 Z ntmps87 results87 Z ⟨trivial, trivial, Y⟩ (by kernel_rfl) Z ?_
 unfold l8 at h
 refine AWP.g (.j (.q Z Z (.q Z Z (.nil (b5 (.g (.j (.e Z Z (S.len Z Z (fun hl11 => .q Z Z (.nil (b5 (.g (.j (.e Z Z (.q Z Z (.q Z Z (.nil (b5 (.g (.U ?_)))))))))))))))))))))
 obtain ⟨iv5, ho1, h⟩ := b8 h
 refine AWP.loopS ho1 (fun (iv3, j4) => ⟨[(0, .c (row 1 intI xv)), (1, .c (int target)), (6, .c (int (xv.length : Int))), (7, .c (int iv3)), (8, .c (int j4))], []⟩) (fun iv5 e st => e = .exit 0 ∧ Sub [] st ⟨[(0, .c (row 1 intI xv)), (1, .c (int target)), (6, .c (int (xv.length : Int))), (7, .c (int iv5))], []⟩) ?_ ?_ ?_
 ·try dsimp only
  exact Sub.env ⟨Z, Z, Z, Z, Z, Y⟩
 ·intro s o h
  obtain ⟨iv3, j4⟩ := s
  unfold r8 at h
  try dsimp only at h ⊢
  refine AWP.g (.g (.j (.e Z Z (.e Z Z (.F Z Z Z (.nil (b5 (.ite Z h (fun hc6 h => ?_) (fun hc6 h => ?_)))))))))
  ·refine AWP.skip (b5 (.U (.g (.j (.e Z Z (.e Z Z (S.add Z Z Z (.convInt Z Z (.shr Z Z Z (by first | decide | omega) Z (.convInt Z Z (.q Z Z (.nil (b5 (.g ?_))))))))))))))
   obtain ⟨a24, ha24, a27, ha27, h⟩ := b2 h
   refine AWP.j (.e Z Z (.e Z Z (S.idx ha24 Z Z Z Z (.ac Z Z Z Z (.e Z Z (.E Z Z Z Z (cmp_Less_int_ok ha27) Z (.nil (b5 (.ag Z h (fun hc7 h => ?_) (fun hc7 h => ?_))))))))))
   ·refine AWP.j (.e Z Z (S.add Z Z Z (.q Z Z (.nil (e6 ?_)))))
    obtain rfl := oi h
    refine b5 ⟨_, Z, ?_⟩
    exact Sub.env ⟨Z, Z, Z, Z, Z, Y⟩
   ·refine AWP.j (.e Z Z (.q Z Z (.nil (e6 ?_))))
    obtain rfl := oi h
    refine b5 ⟨_, Z, ?_⟩
    exact Sub.env ⟨Z, Z, Z, Z, Z, Y⟩
  ·refine AWP.exit (d6 ?_)
   obtain rfl := oi h
   refine d6 ⟨_, Z, Z, ?_⟩
   exact Sub.env ⟨Z, Z, Z, Z, Y⟩
 ·intro e s hq
  obtain ⟨rfl, hs⟩ := hq
  refine ⟨_, hs, ?_⟩
  refine f9 (b5 ?_)
  obtain ⟨t8, hx9, h⟩ := b8 h
  refine AWP.seqJ (⟨[(4, .c (int iv5)), (5, .c (bool t8))], []⟩) ?_ ?_
  ·rcases bft (decide (iv5 < (xv.length : Int))) with hb10 | hb10
   ·replace hx9 := x5 hb10 hx9
    obtain ⟨a38, ha38, hx9⟩ := b8 hx9
    rcases bft (decide (a38 = target)) with hb11 | hb11
    ·replace hx9 := x5 hb11 hx9
     refine AWP.j (.e Z Z (.e Z Z (.e Z Z (.F Z Z Z (.e Z Z (.u Z Z Z hb10 (.e Z Z (.u Z Z Z hb10 (.e Z Z (.u Z Z Z hb10 (S.idx ha38 Z Z Z Z (.u Z Z Z hb10 (.ac Z Z Z Z (.u Z Z Z hb10 (.e Z Z (.u Z Z Z hb10 (.aa Z Z Z (.u Z Z Z hb10 (.e Z Z (.v Z Z Z hb11 (.v Z Z Z hb11 (.v Z Z Z hb11 (.v Z Z Z hb11 (.v Z Z Z hb11 (.v Z Z Z hb11 (.af Z Z Z (.af Z Z Z (.v Z Z Z hb11 (.u Z Z Z hb10 (.J Z hb11 Z Z (.J Z hb10 Z Z (.q Z Z (.q Z Z (.nil ?_))))))))))))))))))))))))))))))))))
     obtain rfl := oi hx9
     refine b5 (Sub.env ⟨Z, Z, Y⟩)
    ·replace hx9 := x4 hb11 hx9
     obtain ⟨a45, ha45, a47, ha47, hx9⟩ := b2 hx9
     rcases bft (a47) with hb12 | hb12
     ·replace hx9 := A9 hb12 hx9
      obtain ⟨a50, ha50, hx9⟩ := b8 hx9
      refine AWP.j (.e Z Z (.e Z Z (.e Z Z (.F Z Z Z (.e Z Z (.u Z Z Z hb10 (.e Z Z (.u Z Z Z hb10 (.e Z Z (.u Z Z Z hb10 (S.idx ha38 Z Z Z Z (.u Z Z Z hb10 (.ac Z Z Z Z (.u Z Z Z hb10 (.e Z Z (.u Z Z Z hb10 (.aa Z Z Z (.u Z Z Z hb10 (.e Z Z (.u Z Z Z hb11 (.e Z Z (.u Z Z Z hb11 (.e Z Z (.u Z Z Z hb11 (S.idx ha45 Z Z Z Z (.u Z Z Z hb11 (.ac Z Z Z Z (.u Z Z Z hb11 (.E Z Z Z Z (J7 ha47) Z (.u Z Z Z hb11 (.e Z Z (.u Z Z Z hb12 (.e Z Z (.u Z Z Z hb12 (.E Z Z Z Z (J7 ha50) Z (.u Z Z Z hb11 (.J Z hb12 Z Z (.u Z Z Z hb10 (.O Z hb11 Z Z (.J Z hb10 Z Z (.q Z Z (.q Z Z (.nil ?_)))))))))))))))))))))))))))))))))))))))))))
      obtain rfl := oi hx9
      refine b5 (Sub.env ⟨Z, Z, Y⟩)
     ·replace hx9 := A7 hb12 hx9
      refine AWP.j (.e Z Z (.e Z Z (.e Z Z (.F Z Z Z (.e Z Z (.u Z Z Z hb10 (.e Z Z (.u Z Z Z hb10 (.e Z Z (.u Z Z Z hb10 (S.idx ha38 Z Z Z Z (.u Z Z Z hb10 (.ac Z Z Z Z (.u Z Z Z hb10 (.e Z Z (.u Z Z Z hb10 (.aa Z Z Z (.u Z Z Z hb10 (.e Z Z (.u Z Z Z hb11 (.e Z Z (.u Z Z Z hb11 (.e Z Z (.u Z Z Z hb11 (S.idx ha45 Z Z Z Z (.u Z Z Z hb11 (.ac Z Z Z Z (.u Z Z Z hb11 (.E Z Z Z Z (J7 ha47) Z (.u Z Z Z hb11 (.e Z Z (.v Z Z Z hb12 (.v Z Z Z hb12 (.u Z Z Z hb11 (.O Z hb12 Z Z (.u Z Z Z hb10 (.O Z hb11 Z Z (.J Z hb10 Z Z (.q Z Z (.q Z Z (.nil ?_)))))))))))))))))))))))))))))))))))))))))
      obtain rfl := oi hx9
      refine b5 (Sub.env ⟨Z, Z, Y⟩)
   ·replace hx9 := x4 hb10 hx9
    refine AWP.j (.e Z Z (.e Z Z (.e Z Z (.F Z Z Z (.e Z Z (.v Z Z Z hb10 (.v Z Z Z hb10 (.v Z Z Z hb10 (.v Z Z Z hb10 (.v Z Z Z hb10 (.v Z Z Z hb10 (.v Z Z Z hb10 (.af Z Z Z (.af Z Z Z (.af Z Z Z (.af Z Z Z (.af Z Z Z (.af Z Z Z (.af Z Z Z (.af Z Z Z (.af Z Z Z (.v Z Z Z hb10 (.O Z hb10 Z Z (.q Z Z (.q Z Z (.nil ?_))))))))))))))))))))))))))
    obtain rfl := oi hx9
    refine b5 (Sub.env ⟨Z, Z, Y⟩)
  ·refine AWP.ret ?_
   obtain rfl := oi h
   exact Done.ret Z Z
theorem af5 {xv : Int} {c2 : List Int} {r : Bool} (h : N8 xv c2 = some r) : d9 prog 104 [.c (int xv), .c (.imm (.ipt [.sl 1 (List.map intI c2)]))] (.c (bool r)) := by
 unfold d9
 refine FnOk.enter (rs := [.t 3]) func104 Z ntmps104 results104 Z ⟨trivial, Y⟩ (by kernel_rfl) Z ?_
 unfold N8 at h
 refine AWP.g (.j (.q Z Z (.nil (b5 (.g ?_)))))
 obtain ⟨a9, ha9, h⟩ := b8 h
 refine AWP.j (.ac Z Z Z Z (.e Z Z (.E Z Z Z Z (F4 ha9) Z (.e Z Z (.ah Z Z Z (.ah Z Z Z (.q Z Z (.q Z Z (.nil (b5 (.g (.j (.e Z Z (.q Z Z (.nil (b5 (.ret ?_)))))))))))))))))
 obtain rfl := oi h
 exact Done.ret Z Z
theorem T5 {sv : List Int} {fv : Int → Option Bool} {r : Int} {fvfv : FuncId} {cvfv : List C} (hcvfv : C.okL 0 cvfv = true) (hfv : ∀ {y1 : Int} {z : Bool}, fv y1 = some z → d9 prog fvfv ([.c (int y1)] ++ cvfv.map T.c) (.c (bool z))) (h : x6 sv fv = some r) : d9 prog 121 [.c (row 1 intI sv), .c (.fn fvfv cvfv)] (.c (int r)) := by
 unfold d9
 refine FnOk.enter (rs := [.t 4]) func121 Z ntmps121 results121 Z ⟨trivial, Y⟩ (by kernel_rfl) Z ?_
 unfold x6 at h
 refine AWP.g (.j (.q Z Z (.nil (b5 (.g (.g (.j (.e Z Z (S.len Z Z (fun hl7 => .e Z Z (.nil (b5 (.U ?_)))))))))))))
 obtain ⟨oo, ho1, h⟩ := b8 h
 refine AWP.rngS ho1 (fun t3 _ => ⟨[(0, .c (row 1 intI sv)), (1, .c (.fn fvfv cvfv)), (7, .c (int (sv.length : Int))), (8, .c (int t3))], []⟩) (fun o e st => match o with | .inl _ => e = .exit 0 ∧ Sub [] st ⟨[], []⟩ | .inr x => e = .ret ∧ Done [.t 4] (fun t _ => t = .c (int x)) .ret st) ?_ ?_ ?_ ?_
 ·try dsimp only
  exact Sub.env ⟨Z, Z, Z, Z, Y⟩
 ·intro t3 s hlot3 hltt3 _
  try dsimp only
  refine AWP.g (.j (.F Z Z Z (.nil (b5 (.g (.ad Z hltt3 (.exit (d6 (d6 ⟨Z, ?_⟩)))))))))
  exact Sub.env trivial
 ·intro t3 s o hlot3 hltt3 h
  unfold u7 at h
  try dsimp only at h ⊢
  refine AWP.g (.j (.F Z Z Z (.nil (b5 (.g (.ae Z hltt3 (.skip (b5 (.g (.U (.g (.j (.e Z Z (.q Z Z (.nil (b5 (.g ?_)))))))))))))))))
  obtain ⟨a14, ha14, a16, ha16, h⟩ := b2 h
  refine AWP.j (.e Z Z (.e Z Z (.e Z Z (S.idx ha14 Z Z Z Z (.ac Z Z Z Z (.E Z Z (okL_app Z hcvfv) Z (hfv ha16) Z (.nil (b5 (.ag Z h (fun hc4 h => ?_) (fun hc4 h => ?_))))))))))
  ·refine AWP.g (.j (.e Z Z (.q Z Z (.nil (b5 (.ret (f8 (d4 ?_))))))))
   obtain rfl := oi h
   refine d4 ⟨_, Z, Z, ?_⟩
   exact Done.ret Z Z
  ·refine AWP.skip (e6 (b5 (.j (.add Z Z Z (by omega) (.e Z Z (.nil ?_))))))
   obtain rfl := oi h
   refine b5 ⟨_, Z, ?_⟩
   exact Sub.env ⟨Z, Z, Z, Z, Y⟩
 ·intro e s hq
  rcases oo with u | x
  ·try dsimp only at h hq
   obtain ⟨rfl, hs⟩ := hq
   refine ⟨_, hs, ?_⟩
   refine f9 (b5 (.g (.j (.q Z Z (.nil (b5 (.ret ?_)))))))
   obtain rfl := oi h
   exact Done.ret Z Z
  ·try dsimp only at h hq
   obtain ⟨rfl, hs⟩ := hq
   refine ⟨_, Sub.refl _ _, ?_⟩
   refine f8 (d4 ?_)
   obtain rfl := oi h
   exact hs
theorem R7 {sv : List Int} {fv : Int → Option Bool} {r : Bool} {fvfv : FuncId} {cvfv : List C} (hcvfv : C.okL 0 cvfv = true) (hfv : ∀ {y1 : Int} {z : Bool}, fv y1 = some z → d9 prog fvfv ([.c (int y1)] ++ cvfv.map T.c) (.c (bool z))) (h : o5 sv fv = some r) : d9 prog 103 [.c (row 1 intI sv), .c (.fn fvfv cvfv)] (.c (bool r)) := by
 unfold d9
 refine FnOk.enter (rs := [.t 4]) func103 Z ntmps103 results103 Z ⟨trivial, Y⟩ (by kernel_rfl) Z ?_
 unfold o5 at h
 refine AWP.g (.j (.q Z Z (.nil (b5 (.g ?_)))))
 obtain ⟨a7, ha7, h⟩ := b8 h
 refine AWP.j (.e Z Z (.e Z Z (.E Z Z (by simp [T.okL, T.ok, C.ok, C.okL, hcvfv]) Z (T5 hcvfv hfv ha7) Z (.geq Z Z Z (.q Z Z (.nil (b5 (.ret ?_))))))))
 obtain rfl := oi h
 exact Done.ret Z Z
theorem strips_Meets_ok {av : List Int} {bv : List Int} {r : Bool} (h : M0 av bv = some r) : d9 prog 82 [.c (row 1 intI av), .c (row 1 intI bv)] (.c (bool r)) := by
 unfold d9
 refine FnOk.enter (rs := [.t 4]) func82 Z ntmps82 results82 Z ⟨trivial, Y⟩ (by kernel_rfl) Z ?_
 unfold M0 at h
 refine AWP.g (.j (W.box Z Z Z Z Z Z (.q Z Z (.nil (b5 (.g ?_))))))
 obtain ⟨a7, ha7, h⟩ := b8 h
 refine AWP.j (.e Z Z (.makeFunc Z Z (.callL Z Z (.cons (.c .imm) (.cons (.c (.fn (.cons (.ptr (es := [.sl 1 (List.map intI bv)]) Z Z (.cons .imm .nil)) .nil))) .nil)) Z (R7 Z (fun hy => af5 hy) ha7) Z ?_)))
 refine AOps.q Z Z (.nil (b5 (.ret ?_)))
 obtain rfl := oi h
 exact Done.ret Z Z
theorem ae2 {ov : g7} {facts : Int} {r : Int} (h : F7 ov facts = some r) : d9 prog 67 [.agg [row 1 intI ov.pre, row 1 intI ov.add, row 1 intI ov.del, int ov.cost], .c (int facts)] (.c (int r)) := by
 unfold d9
 refine FnOk.enter (rs := [.t 4]) func67 Z ntmps67 results67 Z ⟨trivial, Y⟩ (by kernel_rfl) Z ?_
 unfold F7 at h
 refine AWP.g (.j (W.box Z Z Z Z Z Z (.q Z Z (.nil (b5 (.g (.U ?_)))))))
 obtain ⟨t3, hx4, h⟩ := b8 h
 refine AWP.seqJ (⟨[(2, .c (.ptr 0 0 0)), (5, .c (bool t3))], [.one (.cells 4 [[row 1 intI ov.pre, row 1 intI ov.add, row 1 intI ov.del, int ov.cost]])]⟩) ?_ ?_
 ·obtain ⟨a9, ha9, hx4⟩ := b8 hx4
  rcases bft (!a9) with hb5 | hb5
  ·replace hx4 := A9 hb5 hx4
   refine AWP.j (W.fieldAddr Z Z Z Z (.z Z Z Z Z Z Z (.e Z Z (.E Z Z Z Z (n4 ha9) Z (.ab Z Z (.e Z Z (.v Z Z Z hb5 (.v Z Z Z hb5 (.v Z Z Z hb5 (.v Z Z Z hb5 (.v Z Z Z hb5 (.J Z hb5 Z Z (.e Z Z (.v Z Z Z Z (.v Z Z Z Z (.v Z Z Z Z (.v Z Z Z Z (.v Z Z Z Z (.J Z Z Z Z (.e Z Z (.v Z Z Z Z (.v Z Z Z Z (.v Z Z Z Z (.v Z Z Z Z (.v Z Z Z Z (.J Z Z Z Z (.q Z Z (.nil ?_))))))))))))))))))))))))))))
   obtain rfl := oi hx4
   refine b5 (Sub.env ⟨Z, Z, Y⟩)
  ·replace hx4 := A7 hb5 hx4
   obtain ⟨a15, ha15, hx4⟩ := b8 hx4
   rcases bft (!a15) with hb6 | hb6
   ·replace hx4 := A9 hb6 hx4
    refine AWP.j (W.fieldAddr Z Z Z Z (.z Z Z Z Z Z Z (.e Z Z (.E Z Z Z Z (n4 ha9) Z (.ab Z Z (.e Z Z (.u Z Z Z hb5 (W.fieldAddr Z Z Z Z (.u Z Z Z hb5 (.z Z Z Z Z Z Z (.u Z Z Z hb5 (.e Z Z (.u Z Z Z hb5 (.E Z Z Z Z (n4 ha15) Z (.u Z Z Z hb5 (.ab Z Z (.O Z hb5 Z Z (.e Z Z (.v Z Z Z hb6 (.v Z Z Z hb6 (.v Z Z Z hb6 (.v Z Z Z hb6 (.v Z Z Z hb6 (.J Z hb6 Z Z (.e Z Z (.v Z Z Z Z (.v Z Z Z Z (.v Z Z Z Z (.v Z Z Z Z (.v Z Z Z Z (.J Z Z Z Z (.q Z Z (.nil ?_)))))))))))))))))))))))))))))))))
    obtain rfl := oi hx4
    refine b5 (Sub.env ⟨Z, Z, Y⟩)
   ·replace hx4 := A7 hb6 hx4
    obtain ⟨a22, ha22, hx4⟩ := b8 hx4
    rcases bft (!a22) with hb7 | hb7
    ·replace hx4 := A9 hb7 hx4
     refine AWP.j (W.fieldAddr Z Z Z Z (.z Z Z Z Z Z Z (.e Z Z (.E Z Z Z Z (n4 ha9) Z (.ab Z Z (.e Z Z (.u Z Z Z hb5 (W.fieldAddr Z Z Z Z (.u Z Z Z hb5 (.z Z Z Z Z Z Z (.u Z Z Z hb5 (.e Z Z (.u Z Z Z hb5 (.E Z Z Z Z (n4 ha15) Z (.u Z Z Z hb5 (.ab Z Z (.O Z hb5 Z Z (.e Z Z (.u Z Z Z hb6 (W.fieldAddr Z Z Z Z (.u Z Z Z hb6 (.z Z Z Z Z Z Z (.u Z Z Z hb6 (.e Z Z (.u Z Z Z hb6 (.E Z Z Z Z (n4 ha22) Z (.u Z Z Z hb6 (.ab Z Z (.O Z hb6 Z Z (.e Z Z (.v Z Z Z hb7 (.v Z Z Z hb7 (.v Z Z Z hb7 (.v Z Z Z hb7 (.v Z Z Z hb7 (.J Z hb7 Z Z (.q Z Z (.nil ?_))))))))))))))))))))))))))))))))))))))
     obtain rfl := oi hx4
     refine b5 (Sub.env ⟨Z, Z, Y⟩)
    ·replace hx4 := A7 hb7 hx4
     obtain ⟨a30, ha30, hx4⟩ := b8 hx4
     refine AWP.j (W.fieldAddr Z Z Z Z (.z Z Z Z Z Z Z (.e Z Z (.E Z Z Z Z (n4 ha9) Z (.ab Z Z (.e Z Z (.u Z Z Z hb5 (W.fieldAddr Z Z Z Z (.u Z Z Z hb5 (.z Z Z Z Z Z Z (.u Z Z Z hb5 (.e Z Z (.u Z Z Z hb5 (.E Z Z Z Z (n4 ha15) Z (.u Z Z Z hb5 (.ab Z Z (.O Z hb5 Z Z (.e Z Z (.u Z Z Z hb6 (W.fieldAddr Z Z Z Z (.u Z Z Z hb6 (.z Z Z Z Z Z Z (.u Z Z Z hb6 (.e Z Z (.u Z Z Z hb6 (.E Z Z Z Z (n4 ha22) Z (.u Z Z Z hb6 (.ab Z Z (.O Z hb6 Z Z (.e Z Z (.u Z Z Z hb7 (W.fieldAddr Z Z Z Z (.u Z Z Z hb7 (.z Z Z Z Z Z Z (.u Z Z Z hb7 (W.fieldAddr Z Z Z Z (.u Z Z Z hb7 (.z Z Z Z Z Z Z (.u Z Z Z hb7 (.E Z Z Z Z (strips_Meets_ok ha30) Z (.O Z hb7 Z Z (.q Z Z (.nil ?_)))))))))))))))))))))))))))))))))))))))))))
     obtain rfl := oi hx4
     refine b5 (Sub.env ⟨Z, Z, Y⟩)
 ·refine AWP.ag Z h (fun hc8 h => ?_) (fun hc8 h => ?_)
  ·refine AWP.g (.j (.q Z Z (.nil (b5 (.ret (f8 (d4 ?_)))))))
   obtain rfl := oi h
   exact Done.ret Z Z
  ·refine AWP.seqJ (⟨[(32, .c (bool ((decide (ov.cost < 0)) || (decide (100 < ov.cost)))))], [.one (.cells 4 [[row 1 intI ov.pre, row 1 intI ov.add, row 1 intI ov.del, int ov.cost]])]⟩) ?_ ?_
   ·rcases bft (decide (ov.cost < 0)) with hb1 | hb1
    ·refine AWP.j (W.fieldAddr Z Z Z Z (.z Z Z Z Z Z Z (.F Z Z Z (.e Z Z (.v Z Z Z hb1 (.v Z Z Z hb1 (.v Z Z Z hb1 (.J Z hb1 Z Z (.q Z Z (.nil (b5 ?_)))))))))))
     simp only [and_t hb1, or_t hb1, Bool.false_or, Bool.true_or, Bool.false_and, Bool.true_and]
     exact Sub.env ⟨Z, Y⟩
    ·refine AWP.j (W.fieldAddr Z Z Z Z (.z Z Z Z Z Z Z (.F Z Z Z (.e Z Z (.u Z Z Z hb1 (W.fieldAddr Z Z Z Z (.u Z Z Z hb1 (.z Z Z Z Z Z Z (.u Z Z Z hb1 (.gtr Z Z Z (.O Z hb1 Z Z (.q Z Z (.nil (b5 ?_))))))))))))))
     simp only [and_f hb1, or_f hb1, Bool.false_or, Bool.true_or, Bool.false_and, Bool.true_and]
     exact Sub.env ⟨Z, Y⟩
   ·refine AWP.ag Z h (fun hc9 h => ?_) (fun hc9 h => ?_)
    ·refine AWP.g (.j (.q Z Z (.nil (b5 (.ret (f8 (d4 ?_)))))))
     obtain rfl := oi h
     exact Done.ret Z Z
    ·refine AWP.skip (e6 (b5 (.g (.j (.q Z Z (.nil (b5 (.ret ?_))))))))
     obtain rfl := oi h
     exact Done.ret Z Z
theorem ae0 {t : d5} {r : j6} (h : E9 t = some r) : d9 prog 37 [.agg (tT t)] (.agg [int r.code, int r.index]) := by
 unfold d9
 refine FnOk.enter (rs := [.cell 2 27 2]) func37 Z ntmps37 results37 Z ⟨rv _ Z, Y⟩ (by kernel_rfl) Z ?_
 unfold E9 at h
 refine AWP.g (.j (W.box Z Z Z Z Z Z (W.alloc Z Z Z Z (.nil (b5 (.g (.U (.seqJ (⟨[(1, .c (.ptr 0 0 0)), (2, .c (.ptr 1 0 0)), (6, .c (bool ((decide (t.facts < 0)) || (decide (24 < t.facts)))))], [.one (.cells 4 [(tT t)]), .one (.cells 2 [[int 0, int 0]])]⟩) ?_ ?_))))))))
 ·rcases bft (decide (t.facts < 0)) with hb1 | hb1
  ·refine AWP.j (W.fieldAddr Z Z Z Z (.z Z Z Z Z Z Z (.F Z Z Z (.e Z Z (.v Z Z Z hb1 (.v Z Z Z hb1 (.v Z Z Z hb1 (.J Z hb1 Z Z (.q Z Z (.nil (b5 ?_)))))))))))
   simp only [and_t hb1, or_t hb1, Bool.false_or, Bool.true_or, Bool.false_and, Bool.true_and]
   exact Sub.env ⟨Z, Z, Z, Y⟩
  ·refine AWP.j (W.fieldAddr Z Z Z Z (.z Z Z Z Z Z Z (.F Z Z Z (.e Z Z (.u Z Z Z hb1 (W.fieldAddr Z Z Z Z (.u Z Z Z hb1 (.z Z Z Z Z Z Z (.u Z Z Z hb1 (.gtr Z Z Z (.O Z hb1 Z Z (.q Z Z (.nil (b5 ?_))))))))))))))
   simp only [and_f hb1, or_f hb1, Bool.false_or, Bool.true_or, Bool.false_and, Bool.true_and]
   exact Sub.env ⟨Z, Z, Z, Y⟩
 ·refine AWP.ag Z h (fun hc2 h => ?_) (fun hc2 h => ?_)
  ·refine AWP.g (.j (W.build Z Z Z Z (W.storeAgg Z Z Z Z Z Z Z (.nil (b5 (.ret (f8 (d4 ?_))))))))
   obtain rfl := oi h
   exact Done.ret Z Z
  ·refine AWP.g ?_
   obtain ⟨a21, ha21, h⟩ := b8 h
   refine AWP.j (W.fieldAddr Z Z Z Z (.z Z Z Z Z Z Z (W.fieldAddr Z Z Z Z (.z Z Z Z Z Z Z (.E Z Z Z Z (n4 ha21) Z (.ab Z Z (.q Z Z (.nil (b5 (.ag Z h (fun hc3 h => ?_) (fun hc3 h => ?_)))))))))))
   ·refine AWP.g (.j (W.build Z Z Z Z (W.storeAgg Z Z Z Z Z Z Z (.nil (b5 (.ret (f8 (d4 ?_))))))))
    obtain rfl := oi h
    exact Done.ret Z Z
   ·refine AWP.g ?_
    obtain ⟨a29, ha29, h⟩ := b8 h
    refine AWP.j (W.fieldAddr Z Z Z Z (.z Z Z Z Z Z Z (W.fieldAddr Z Z Z Z (.z Z Z Z Z Z Z (.E Z Z Z Z (n4 ha29) Z (.ab Z Z (.q Z Z (.nil (b5 (.ag Z h (fun hc4 h => ?_) (fun hc4 h => ?_)))))))))))
    ·refine AWP.g (.j (W.build Z Z Z Z (W.storeAgg Z Z Z Z Z Z Z (.nil (b5 (.ret (f8 (d4 ?_))))))))
     obtain rfl := oi h
     exact Done.ret Z Z
    ·refine AWP.g (.j (W.fieldAddr Z Z Z Z (.z Z Z Z Z Z Z (S.len Z Z (fun hl35 => .gtr Z Z Z (.q Z Z (.nil (b5 (.ite Z h (fun hc5 h => ?_) (fun hc5 h => ?_))))))))))
     ·refine AWP.g (.j (W.build Z Z Z Z (W.storeAgg Z Z Z Z Z Z Z (.nil (b5 (.ret (f8 (d4 ?_))))))))
      obtain rfl := oi h
      exact Done.ret Z Z
     ·refine AWP.skip (e6 (b5 (.g (.g (.j (W.fieldAddr Z Z Z Z (.z Z Z Z Z Z Z (S.len Z Z (fun hl40 => .e Z Z (.nil (b5 (.U ?_))))))))))))
      obtain ⟨oo, ho1, h⟩ := b8 h
      refine AWP.rngS ho1 (fun t6 _ => ⟨[(1, .c (.ptr 0 0 0)), (2, .c (.ptr 1 0 0)), (39, .c (row 4 d8 t.operators)), (40, .c (int (t.operators.length : Int))), (41, .c (int t6))], [.one (.cells 4 [(tT t)]), .one (.cells 2 [[int 0, int 0]])]⟩) (fun o e st => match o with | .inl _ => e = .exit 1 ∧ Sub [] st ⟨[(2, .c (.ptr 1 0 0))], [.one (.cells 4 [(tT t)]), .one (.cells 2 [[int 0, int 0]])]⟩ | .inr x => e = .ret ∧ Done [.cell 2 27 2] (fun t _ => t = .agg [int x.code, int x.index]) .ret st) ?_ ?_ ?_ ?_
      ·try dsimp only
       exact Sub.env ⟨Z, Z, Z, Z, Z, Y⟩
      ·intro t6 s hlot6 hltt6 _
       try dsimp only
       refine AWP.g (.j (.F Z Z Z (.nil (b5 (.g (.ad Z hltt6 (.exit (d6 (d6 ⟨Z, ?_⟩)))))))))
       exact Sub.env ⟨Z, Y⟩
      ·intro t6 s o hlot6 hltt6 h
       unfold B4 at h
       try dsimp only at h ⊢
       refine AWP.g (.j (.F Z Z Z (.nil (b5 (.g (.ae Z hltt6 (.skip (b5 (.g (.U (.g ?_)))))))))))
       obtain ⟨a44, ha44, h⟩ := b8 h
       refine AWP.j (.e Z Z (S.idx ha44 Z Z Z Z (W.loadIAgg Z Z Z Z Z (W.alloc Z Z Z Z (.q Z Z (W.storeAgg Z Z Z Z Z Z Z (.nil (b5 (.g ?_)))))))))
       obtain ⟨a49, ha49, h⟩ := b8 h
       refine AWP.j (W.loadAgg Z Z Z Z Z Z Z (W.fieldAddr Z Z Z Z (.z Z Z Z Z Z Z (.E Z Z Z Z (ae2 ha49) Z (.q Z Z (.nil (b5 (.g (.j (.e Z Z (.neq Z Z Z (.nil (b5 (.iteN Z h (fun hc7 h => ?_) (fun hc7 h => ?_)))))))))))))))
       ·refine AWP.g (.j (.e Z Z (.e Z Z (W.build Z Z Z Z (W.storeAgg Z Z Z Z Z Z Z (.nil (b5 (.ret (f8 (d4 ?_))))))))))
        obtain rfl := oi h
        refine d4 ⟨_, Z, Z, ?_⟩
        exact Done.ret Z Z
       ·refine AWP.skip (e6 (b5 (.j (.add Z Z Z (by omega) (.e Z Z (.nil ?_))))))
        obtain rfl := oi h
        refine b5 ⟨_, Z, ?_⟩
        exact Sub.cut ⟨Z, Z, Z, Z, Z, Y⟩ Z ⟨.one Z, .one Z, Y⟩ Z
      ·intro e s hq
       rcases oo with u | x
       ·try dsimp only at h hq
        obtain ⟨rfl, hs⟩ := hq
        refine ⟨_, hs, ?_⟩
        refine f9 (b5 (.g (.j (W.build Z Z Z Z (W.storeAgg Z Z Z Z Z Z Z (.nil (b5 (.ret ?_))))))))
        obtain rfl := oi h
        exact Done.ret Z Z
       ·try dsimp only at h hq
        obtain ⟨rfl, hs⟩ := hq
        refine ⟨_, Sub.refl _ _, ?_⟩
        refine f8 (d4 ?_)
        obtain rfl := oi h
        exact hs
theorem strips_Steps_ok {operators : Int} {plan : List Int} {r : j6} (h : L9 operators plan = some r) : d9 prog 38 [.c (int operators), .c (row 1 intI plan)] (.agg [int r.code, int r.index]) := by
 unfold d9
 refine FnOk.enter (rs := [.cell 4 27 2]) func38 Z ntmps38 results38 Z ⟨rv _ Z, Y⟩ (by kernel_rfl) Z ?_
 unfold L9 at h
 refine AWP.g (.j (W.alloc Z Z Z Z (.nil (b5 (.g (.g (.j (.e Z Z (S.len Z Z (fun hl8 => .gtr Z Z Z (.nil (b5 (.ite Z h (fun hc3 h => ?_) (fun hc3 h => ?_))))))))))))))
 ·refine AWP.g (.j (W.build Z Z Z Z (W.storeAgg Z Z Z Z Z Z Z (.nil (b5 (.ret (d4 ?_)))))))
  obtain rfl := oi h
  exact Done.ret Z Z
 ·refine AWP.skip (b5 (.g (.g (.j (.e Z Z (S.len Z Z (fun hl12 => .e Z Z (.nil (b5 (.U ?_))))))))))
  obtain ⟨oo, ho1, h⟩ := b8 h
  refine AWP.rngS ho1 (fun t4 _ => ⟨[(0, .c (int operators)), (4, .c (.ptr 0 0 0)), (11, .c (row 1 intI plan)), (12, .c (int (plan.length : Int))), (13, .c (int t4))], [.one (.cells 2 [[int 0, int 0]])]⟩) (fun o e st => match o with | .inl _ => e = .exit 0 ∧ Sub [] st ⟨[(4, .c (.ptr 0 0 0))], [.one (.cells 2 [[int 0, int 0]])]⟩ | .inr x => e = .ret ∧ Done [.cell 4 27 2] (fun t _ => t = .agg [int x.code, int x.index]) .ret st) ?_ ?_ ?_ ?_
  ·try dsimp only
   exact Sub.env ⟨Z, Z, Z, Z, Z, Y⟩
  ·intro t4 s hlot4 hltt4 _
   try dsimp only
   refine AWP.g (.j (.F Z Z Z (.nil (b5 (.g (.ad Z hltt4 (.exit (d6 (d6 ⟨Z, ?_⟩)))))))))
   exact Sub.env ⟨Z, Y⟩
  ·intro t4 s o hlot4 hltt4 h
   unfold S0 at h
   try dsimp only at h ⊢
   refine AWP.g (.j (.F Z Z Z (.nil (b5 (.g (.ae Z hltt4 (.skip (b5 (.g (.U (.g ?_)))))))))))
   obtain ⟨a15, ha15, h⟩ := b8 h
   refine AWP.j (S.idx ha15 Z Z Z Z (.ac Z Z Z Z (.q Z Z (.nil (b5 (.seqJ (⟨[(0, .c (int operators)), (4, .c (.ptr 0 0 0)), (11, .c (row 1 intI plan)), (12, .c (int (plan.length : Int))), (13, .c (int t4)), (23, .c (bool ((decide (a15 < 0)) || (decide (operators ≤ a15)))))], [.one (.cells 2 [[int 0, int 0]])]⟩) ?_ ?_))))))
   ·rcases bft (decide (a15 < 0)) with hb1 | hb1
    ·refine AWP.j (.e Z Z (.F Z Z Z (.e Z Z (.v Z Z Z hb1 (.v Z Z Z hb1 (.v Z Z Z hb1 (.J Z hb1 Z Z (.nil (b5 ?_)))))))))
     simp only [and_t hb1, or_t hb1, Bool.false_or, Bool.true_or, Bool.false_and, Bool.true_and]
     exact Sub.env ⟨Z, Z, Z, Z, Z, Z, Y⟩
    ·refine AWP.j (.e Z Z (.F Z Z Z (.e Z Z (.u Z Z Z hb1 (.e Z Z (.u Z Z Z hb1 (.e Z Z (.u Z Z Z hb1 (.geq Z Z Z (.O Z hb1 Z Z (.nil (b5 ?_))))))))))))
     simp only [and_f hb1, or_f hb1, Bool.false_or, Bool.true_or, Bool.false_and, Bool.true_and]
     exact Sub.env ⟨Z, Z, Z, Z, Z, Z, Y⟩
   ·refine AWP.ag Z h (fun hc5 h => ?_) (fun hc5 h => ?_)
    ·refine AWP.g (.j (W.build Z Z Z Z (W.storeAgg Z Z Z Z Z Z Z (.nil (b5 (.ret (f8 (d4 ?_))))))))
     obtain rfl := oi h
     refine d4 ⟨_, Z, Z, ?_⟩
     exact Done.ret Z Z
    ·refine AWP.skip (e6 (b5 (.j (.add Z Z Z (by omega) (.e Z Z (.nil ?_))))))
     obtain rfl := oi h
     refine b5 ⟨_, Z, ?_⟩
     exact Sub.env ⟨Z, Z, Z, Z, Z, Y⟩
  ·intro e s hq
   rcases oo with u | x
   ·try dsimp only at h hq
    obtain ⟨rfl, hs⟩ := hq
    refine ⟨_, hs, ?_⟩
    refine f9 (b5 (.g (.j (W.build Z Z Z Z (W.storeAgg Z Z Z Z Z Z Z (.nil (b5 (.ret ?_))))))))
    obtain rfl := oi h
    exact Done.ret Z Z
   ·try dsimp only at h hq
    obtain ⟨rfl, hs⟩ := hq
    refine ⟨_, Sub.refl _ _, ?_⟩
    refine f8 (d4 ?_)
    obtain rfl := oi h
    exact hs
theorem ad3 {t : d5} {plan : List Int} {r : j6} (h : D0 t plan = some r) : d9 prog 14 [.agg (tT t), .c (row 1 intI plan)] (.agg [int r.code, int r.index]) := by
 unfold d9
 refine FnOk.enter (rs := [.cell 4 27 2]) func14 Z ntmps14 results14 Z ⟨rv _ Z, Y⟩ (by kernel_rfl) Z ?_
 unfold D0 at h
 refine AWP.g (.j (W.box Z Z Z Z Z Z (W.alloc Z Z Z Z (.nil (b5 (.g (.g ?_)))))))
 obtain ⟨a7, ha7, h⟩ := b8 h
 refine AWP.j (W.loadAgg Z Z Z Z Z Z Z (.E Z Z Z Z (ae0 ha7) Z (W.alloc Z Z Z Z (W.storeAgg Z Z Z Z Z Z Z (.nil (b5 (.g (.j (W.loadAgg Z Z Z Z Z Z Z (W.build Z Z Z Z (.neqP Z Z Z Z Z Z Z (.nil (b5 (.ag Z h (fun hc3 h => ?_) (fun hc3 h => ?_)))))))))))))))
 ·refine AWP.g (.j (W.loadAgg Z Z Z Z Z Z Z (W.storeAgg Z Z Z Z Z Z Z (.nil (b5 (.ret (d4 ?_)))))))
  obtain rfl := oi h
  exact Done.ret Z Z
 ·refine AWP.skip (b5 (.g ?_))
  obtain ⟨a16, ha16, h⟩ := b8 h
  refine AWP.j (W.fieldAddr Z Z Z Z (.z Z Z Z Z Z Z (S.len Z Z (fun hl14 => .e Z Z (.E Z Z Z Z (strips_Steps_ok ha16) Z (W.storeAgg Z Z Z Z Z Z Z (.nil (b5 (.ret ?_)))))))))
  obtain rfl := oi h
  exact Done.ret Z Z
theorem K5 {sv : List Int} {part : List Int} {r : Bool} (h : v7 sv part = some r) : d9 prog 19 [.c (row 1 intI sv), .c (row 1 intI part)] (.c (bool r)) := by
 unfold d9
 refine FnOk.enter (rs := [.t 4]) func19 Z ntmps19 results19 Z ⟨trivial, Y⟩ (by kernel_rfl) Z ?_
 unfold v7 at h
 refine AWP.g (.j (.q Z Z (.nil (b5 (.g (.j (.q Z Z (.nil (b5 (.g (.g (.j (.e Z Z (S.len Z Z (fun hl9 => .e Z Z (.nil (b5 (.U ?_))))))))))))))))))
 obtain ⟨oo, ho1, h⟩ := b8 h
 refine AWP.rngS ho1 (fun t4 iv3 => ⟨[(0, .c (row 1 intI sv)), (5, .c (int iv3)), (8, .c (row 1 intI part)), (9, .c (int (part.length : Int))), (10, .c (int t4))], []⟩) (fun o e st => match o with | .inl iv3 => e = .exit 0 ∧ Sub [] st ⟨[], []⟩ | .inr x => e = .ret ∧ Done [.t 4] (fun t _ => t = .c (bool x)) .ret st) ?_ ?_ ?_ ?_
 ·try dsimp only
  exact Sub.env ⟨Z, Z, Z, Z, Z, Y⟩
 ·intro t4 iv3 hlot4 hltt4 _
  try dsimp only
  refine AWP.g (.j (.F Z Z Z (.nil (b5 (.g (.ad Z hltt4 (.exit (d6 (d6 ⟨Z, ?_⟩)))))))))
  exact Sub.env trivial
 ·intro t4 iv3 o hlot4 hltt4 h
  unfold F0 at h
  try dsimp only at h ⊢
  refine AWP.g (.j (.F Z Z Z (.nil (b5 (.g (.ae Z hltt4 (.skip (b5 (.g (.U (.g ?_)))))))))))
  obtain ⟨a12, ha12, h⟩ := b8 h
  refine AWP.j (S.idx ha12 Z Z Z Z (.ac Z Z Z Z (.q Z Z (.nil (b5 (.g (.U ?_)))))))
  obtain ⟨iv6, ho2, h⟩ := b8 h
  refine AWP.loopS ho2 (fun iv5 => ⟨[(0, .c (row 1 intI sv)), (5, .c (int iv5)), (7, .c (int a12)), (8, .c (row 1 intI part)), (9, .c (int (part.length : Int))), (10, .c (int t4))], []⟩) (fun iv6 e st => e = .exit 2 ∧ Sub [] st ⟨[(0, .c (row 1 intI sv)), (5, .c (int iv6)), (7, .c (int a12)), (8, .c (row 1 intI part)), (9, .c (int (part.length : Int))), (10, .c (int t4))], []⟩) ?_ ?_ ?_
  ·try dsimp only
   exact Sub.env ⟨Z, Z, Z, Z, Z, Z, Y⟩
  ·intro iv5 o h
   unfold B0 at h
   try dsimp only at h ⊢
   refine AWP.g ?_
   obtain ⟨t7, hx8, h⟩ := b8 h
   refine AWP.seqJ (⟨[(0, .c (row 1 intI sv)), (5, .c (int iv5)), (7, .c (int a12)), (8, .c (row 1 intI part)), (9, .c (int (part.length : Int))), (10, .c (int t4)), (25, .c (bool t7))], []⟩) ?_ ?_
   ·rcases bft (decide (iv5 < (sv.length : Int))) with hb9 | hb9
    ·replace hx8 := x5 hb9 hx8
     obtain ⟨a21, ha21, hx8⟩ := b8 hx8
     refine AWP.j (.e Z Z (.e Z Z (S.len Z Z (fun hl16 => .F Z Z Z (.e Z Z (.u Z Z Z hb9 (.e Z Z (.u Z Z Z hb9 (.e Z Z (.u Z Z Z hb9 (S.idx ha21 Z Z Z Z (.u Z Z Z hb9 (.ac Z Z Z Z (.u Z Z Z hb9 (.e Z Z (.u Z Z Z hb9 (.F Z Z Z (.J Z hb9 Z Z (.nil ?_)))))))))))))))))))
     obtain rfl := oi hx8
     refine b5 (Sub.env ⟨Z, Z, Z, Z, Z, Z, Z, Y⟩)
    ·replace hx8 := x4 hb9 hx8
     refine AWP.j (.e Z Z (.e Z Z (S.len Z Z (fun hl16 => .F Z Z Z (.e Z Z (.v Z Z Z hb9 (.v Z Z Z hb9 (.v Z Z Z hb9 (.v Z Z Z hb9 (.v Z Z Z hb9 (.v Z Z Z hb9 (.O Z hb9 Z Z (.nil ?_)))))))))))))
     obtain rfl := oi hx8
     refine b5 (Sub.env ⟨Z, Z, Z, Z, Z, Z, Z, Y⟩)
   ·refine AWP.ag Z h (fun hc10 h => ?_) (fun hc10 h => ?_)
    ·refine AWP.skip (b5 (.U (.j (.e Z Z (S.add Z Z Z (.q Z Z (.nil (e6 ?_))))))))
     obtain rfl := oi h
     refine b5 ⟨_, Z, ?_⟩
     exact Sub.env ⟨Z, Z, Z, Z, Z, Z, Y⟩
    ·refine AWP.exit (d6 ?_)
     obtain rfl := oi h
     refine d6 ⟨_, Z, Z, ?_⟩
     exact Sub.env ⟨Z, Z, Z, Z, Z, Z, Y⟩
  ·intro e s hq
   obtain ⟨rfl, hs⟩ := hq
   refine ⟨_, hs, ?_⟩
   refine f9 (b5 ?_)
   obtain ⟨t11, hx12, h⟩ := b8 h
   refine AWP.seqJ (⟨[(0, .c (row 1 intI sv)), (5, .c (int iv6)), (8, .c (row 1 intI part)), (9, .c (int (part.length : Int))), (10, .c (int t4)), (39, .c (bool t11))], []⟩) ?_ ?_
   ·rcases bft (decide (iv6 = (sv.length : Int))) with hb13 | hb13
    ·replace hx12 := x5 hb13 hx12
     refine AWP.j (.e Z Z (.e Z Z (S.len Z Z (fun hl30 => .aa Z Z Z (.e Z Z (.v Z Z Z hb13 (.v Z Z Z hb13 (.v Z Z Z hb13 (.v Z Z Z hb13 (.v Z Z Z hb13 (.v Z Z Z hb13 (.J Z hb13 Z Z (.nil ?_)))))))))))))
     obtain rfl := oi hx12
     refine b5 (Sub.env ⟨Z, Z, Z, Z, Z, Z, Y⟩)
    ·replace hx12 := x4 hb13 hx12
     obtain ⟨a35, ha35, hx12⟩ := b8 hx12
     refine AWP.j (.e Z Z (.e Z Z (S.len Z Z (fun hl30 => .aa Z Z Z (.e Z Z (.u Z Z Z hb13 (.e Z Z (.u Z Z Z hb13 (.e Z Z (.u Z Z Z hb13 (S.idx ha35 Z Z Z Z (.u Z Z Z hb13 (.ac Z Z Z Z (.u Z Z Z hb13 (.e Z Z (.u Z Z Z hb13 (.neq Z Z Z (.O Z hb13 Z Z (.nil ?_)))))))))))))))))))
     obtain rfl := oi hx12
     refine b5 (Sub.env ⟨Z, Z, Z, Z, Z, Z, Y⟩)
   ·refine AWP.ag Z h (fun hc14 h => ?_) (fun hc14 h => ?_)
    ·refine AWP.g (.j (.q Z Z (.nil (b5 (.ret (f8 (d4 ?_)))))))
     obtain rfl := oi h
     refine d4 ⟨_, Z, Z, ?_⟩
     exact Done.ret Z Z
    ·refine AWP.skip (e6 (b5 (.j (.add Z Z Z (by omega) (.e Z Z (.nil ?_))))))
     obtain rfl := oi h
     refine b5 ⟨_, Z, ?_⟩
     exact Sub.env ⟨Z, Z, Z, Z, Z, Y⟩
 ·intro e s hq
  rcases oo with iv3 | x
  ·try dsimp only at h hq
   obtain ⟨rfl, hs⟩ := hq
   refine ⟨_, hs, ?_⟩
   refine f9 (b5 (.g (.j (.q Z Z (.nil (b5 (.ret ?_)))))))
   obtain rfl := oi h
   exact Done.ret Z Z
  ·try dsimp only at h hq
   obtain ⟨rfl, hs⟩ := hq
   refine ⟨_, Sub.refl _ _, ?_⟩
   refine f8 (d4 ?_)
   obtain rfl := oi h
   exact hs
theorem ag6 {sv : List Int} {c2 : List Int} {r : Bool} (h : P2 sv c2 = some r) : d9 prog 85 [.c (row 1 intI sv), .c (.imm (.ipt [.sl 1 (List.map intI c2)]))] (.c (bool r)) := by
 unfold d9
 refine FnOk.enter (rs := [.t 3]) func85 Z ntmps85 results85 Z ⟨trivial, Y⟩ (by kernel_rfl) Z ?_
 unfold P2 at h
 refine AWP.g (.j (.q Z Z (.nil (b5 (.g ?_)))))
 obtain ⟨a6, ha6, h⟩ := b8 h
 refine AWP.j (.e Z Z (.ac Z Z Z Z (.E Z Z Z Z (K5 ha6) Z (.ab Z Z (.q Z Z (.nil (b5 (.ret ?_))))))))
 obtain rfl := oi h
 exact Done.ret Z Z
theorem V5 {sv : List (List Int)} {fv : (List Int) → Option Bool} {r : Int} {fvfv : FuncId} {cvfv : List C} (hcvfv : C.okL 0 cvfv = true) (hfv : ∀ {y1 : List Int} {z : Bool}, fv y1 = some z → d9 prog fvfv ([.c (row 1 intI y1)] ++ cvfv.map T.c) (.c (bool z))) (h : A8 sv fv = some r) : d9 prog 109 [.c (row 1 e7 sv), .c (.fn fvfv cvfv)] (.c (int r)) := by
 unfold d9
 refine FnOk.enter (rs := [.t 4]) func109 Z ntmps109 results109 Z ⟨trivial, Y⟩ (by kernel_rfl) Z ?_
 unfold A8 at h
 refine AWP.g (.j (.q Z Z (.nil (b5 (.g (.g (.j (.e Z Z (S.len Z Z (fun hl7 => .e Z Z (.nil (b5 (.U ?_)))))))))))))
 obtain ⟨oo, ho1, h⟩ := b8 h
 refine AWP.rngS ho1 (fun t3 _ => ⟨[(0, .c (row 1 e7 sv)), (1, .c (.fn fvfv cvfv)), (7, .c (int (sv.length : Int))), (8, .c (int t3))], []⟩) (fun o e st => match o with | .inl _ => e = .exit 0 ∧ Sub [] st ⟨[], []⟩ | .inr x => e = .ret ∧ Done [.t 4] (fun t _ => t = .c (int x)) .ret st) ?_ ?_ ?_ ?_
 ·try dsimp only
  exact Sub.env ⟨Z, Z, Z, Z, Y⟩
 ·intro t3 s hlot3 hltt3 _
  try dsimp only
  refine AWP.g (.j (.F Z Z Z (.nil (b5 (.g (.ad Z hltt3 (.exit (d6 (d6 ⟨Z, ?_⟩)))))))))
  exact Sub.env trivial
 ·intro t3 s o hlot3 hltt3 h
  unfold w7 at h
  try dsimp only at h ⊢
  refine AWP.g (.j (.F Z Z Z (.nil (b5 (.g (.ae Z hltt3 (.skip (b5 (.g (.U (.g (.j (.e Z Z (.q Z Z (.nil (b5 (.g ?_)))))))))))))))))
  obtain ⟨a14, ha14, a16, ha16, h⟩ := b2 h
  refine AWP.j (.e Z Z (.e Z Z (.e Z Z (S.idx ha14 Z Z Z Z (.ac Z Z Z Z (.E Z Z (okL_app Z hcvfv) Z (hfv ha16) Z (.nil (b5 (.ag Z h (fun hc4 h => ?_) (fun hc4 h => ?_))))))))))
  ·refine AWP.g (.j (.e Z Z (.q Z Z (.nil (b5 (.ret (f8 (d4 ?_))))))))
   obtain rfl := oi h
   refine d4 ⟨_, Z, Z, ?_⟩
   exact Done.ret Z Z
  ·refine AWP.skip (e6 (b5 (.j (.add Z Z Z (by omega) (.e Z Z (.nil ?_))))))
   obtain rfl := oi h
   refine b5 ⟨_, Z, ?_⟩
   exact Sub.env ⟨Z, Z, Z, Z, Y⟩
 ·intro e s hq
  rcases oo with u | x
  ·try dsimp only at h hq
   obtain ⟨rfl, hs⟩ := hq
   refine ⟨_, hs, ?_⟩
   refine f9 (b5 (.g (.j (.q Z Z (.nil (b5 (.ret ?_)))))))
   obtain rfl := oi h
   exact Done.ret Z Z
  ·try dsimp only at h hq
   obtain ⟨rfl, hs⟩ := hq
   refine ⟨_, Sub.refl _ _, ?_⟩
   refine f8 (d4 ?_)
   obtain rfl := oi h
   exact hs
theorem S3 {sv : List (List Int)} {fv : (List Int) → Option Bool} {r : Bool} {fvfv : FuncId} {cvfv : List C} (hcvfv : C.okL 0 cvfv = true) (hfv : ∀ {y1 : List Int} {z : Bool}, fv y1 = some z → d9 prog fvfv ([.c (row 1 intI y1)] ++ cvfv.map T.c) (.c (bool z))) (h : q9 sv fv = some r) : d9 prog 84 [.c (row 1 e7 sv), .c (.fn fvfv cvfv)] (.c (bool r)) := by
 unfold d9
 refine FnOk.enter (rs := [.t 4]) func84 Z ntmps84 results84 Z ⟨trivial, Y⟩ (by kernel_rfl) Z ?_
 unfold q9 at h
 refine AWP.g (.j (.q Z Z (.nil (b5 (.g ?_)))))
 obtain ⟨a7, ha7, h⟩ := b8 h
 refine AWP.j (.e Z Z (.e Z Z (.E Z Z (by simp [T.okL, T.ok, C.ok, C.okL, hcvfv]) Z (V5 hcvfv hfv ha7) Z (.geq Z Z Z (.q Z Z (.nil (b5 (.ret ?_))))))))
 obtain rfl := oi h
 exact Done.ret Z Z
theorem ab5 {worlds : List (List Int)} {facts : List Int} {r : Bool} (h : O3 worlds facts = some r) : d9 prog 70 [.c (row 1 e7 worlds), .c (row 1 intI facts)] (.c (bool r)) := by
 unfold d9
 refine FnOk.enter (rs := [.t 4]) func70 Z ntmps70 results70 Z ⟨trivial, Y⟩ (by kernel_rfl) Z ?_
 unfold O3 at h
 refine AWP.g (.j (W.box Z Z Z Z Z Z (.q Z Z (.nil (b5 (.g ?_))))))
 obtain ⟨a7, ha7, h⟩ := b8 h
 refine AWP.j (.e Z Z (.makeFunc Z Z (.callL Z Z (.cons (.c .imm) (.cons (.c (.fn (.cons (.ptr (es := [.sl 1 (List.map intI facts)]) Z Z (.cons .imm .nil)) .nil))) .nil)) Z (S3 Z (fun hy => ag6 hy) ha7) Z ?_)))
 refine AOps.ab Z Z (.q Z Z (.nil (b5 (.ret ?_))))
 obtain rfl := oi h
 exact Done.ret Z Z
theorem ag1 {sv : List Int} {add : List Int} {del : List Int} {r : (List Int)} (h : D7 sv add del = some r) : s5 prog 72 [.c (row 1 intI sv), .c (row 1 intI add), .c (row 1 intI del)] 1 (List.map intI r) := by
 unfold s5
 refine FnOk.enter (rs := [.t 6]) func72 Z ntmps72 results72 Z ⟨trivial, Y⟩ (by kernel_rfl) Z ?_
 unfold D7 at h
 refine AWP.g (.j (.q Z Z (.nil (b5 (.g (.j (.q Z Z (.nil (b5 (.g (.g (.j (.e Z Z (S.len Z Z (fun hl13 => .e Z Z (.nil (b5 (.U (.virtV 1 intI 7 Z Z Z ?_)))))))))))))))))))
 obtain ⟨c4, ho1, h⟩ := b8 h
 refine AWP.forS ho1 (fun t5 c4 => ⟨[(1, .c (row 1 intI add)), (2, .c (row 1 intI del)), (7, .c (.own 0 0 c4.length)), (12, .c (row 1 intI sv)), (13, .c (int (sv.length : Int))), (14, .c (int t5))], [.one (vec 1 intI c4)]⟩) (fun c4 e st => e = .exit 0 ∧ Sub [] st ⟨[(1, .c (row 1 intI add)), (7, .c (.own 0 0 c4.length))], [.one (vec 1 intI c4)]⟩) ?_ ?_ ?_ ?_
 ·try dsimp only
  exact Sub.env ⟨Z, Z, (o8 (by first | rfl | simp only [List.length_set])), Z, Z, Z, Y⟩
 ·intro t5 c4 hlot5 hltt5 _
  try dsimp only
  refine AWP.g (.j (.F Z Z Z (.nil (b5 (.g (.ad Z hltt5 (.exit (d6 (d6 ⟨Z, ?_⟩)))))))))
  exact Sub.env ⟨Z, Z, Y⟩
 ·intro t5 c4 o hlot5 hltt5 h
  unfold Q3 at h
  try dsimp only at h ⊢
  refine AWP.g (.j (.F Z Z Z (.nil (b5 (.g (.ae Z hltt5 (.skip (b5 ?_))))))))
  obtain ⟨c6, hx7, h⟩ := b8 h
  refine AWP.seqJ (⟨[(1, .c (row 1 intI add)), (2, .c (row 1 intI del)), (7, .c (.own 2 0 c6.length)), (12, .c (row 1 intI sv)), (13, .c (int (sv.length : Int))), (14, .c (int t5))], [.dead, .dead, .one (vec 1 intI c6)]⟩) ?_ ?_
  ·refine AWP.U (.g ?_)
   obtain ⟨a16, ha16, hx7⟩ := b8 hx7
   refine AWP.j (S.idx ha16 Z Z Z Z (.ac Z Z Z Z (.q Z Z (.nil (b5 (.g ?_))))))
   obtain ⟨a21, ha21, hx7⟩ := b8 hx7
   refine AWP.j (.e Z Z (.e Z Z (.E Z Z Z Z (F4 ha21) Z (.e Z Z (.ah Z Z Z (.ah Z Z Z (.q Z Z (.q Z Z (.nil (b5 (.g (.j (.e Z Z (.ab Z Z (.nil (b5 (.ag Z hx7 (fun hc8 hx7 => ?_) (fun hc8 hx7 => ?_))))))))))))))))))
   ·obtain ⟨a29, ha29, hx7⟩ := b8 hx7
    refine AWP.j (.e Z Z (.e Z Z (S.lit (f := intI) (l := [a16]) (ess := [[int a16]]) Z Z Z Z Z Z Z ⟨⟨.inl Z, Y⟩, Y⟩ Z Z Z (S.append (f := intI) ha29 Z Z Z Z Z Z (.own Z Z) Z Z Z Z (.q Z Z (.nil (e6 ?_)))))))
    obtain rfl := oi hx7
    refine b5 (Sub.cut ⟨Z, Z, Z, Z, Z, Z, Y⟩ Z ⟨.dead, .dead, .vec, Y⟩ Z)
   ·refine AWP.skip (e6 ?_)
    obtain rfl := oi hx7
    refine b5 ((Sub.move (env' := [(1, .c (row 1 intI add)), (2, .c (row 1 intI del)), (7, .c (.own 2 0 c4.length)), (12, .c (row 1 intI sv)), (13, .c (int (sv.length : Int))), (14, .c (int t5))]) (σ' := [.dead, .dead, .one (vec 1 intI c4)]) 2 0 Z Z Z ⟨Z, Z, Z, Z, Z, Z, Y⟩ Z ⟨trivial, trivial, ⟨Blk.im_ok _ _ _, j9 Z⟩, Y⟩).trans (Sub.env ⟨Z, Z, Z, Z, Z, Z, Y⟩))
  ·refine AWP.j (.add Z Z Z (by omega) (.e Z Z (.nil ?_)))
   obtain rfl := oi h
   refine b5 ((Sub.move (env' := [(1, .c (row 1 intI add)), (2, .c (row 1 intI del)), (7, .c (.own 0 0 c6.length)), (12, .c (row 1 intI sv)), (13, .c (int (sv.length : Int))), (14, .c (int (t5 + 1)))]) (σ' := [.one (vec 1 intI c6), .dead]) 0 2 Z Z Z ⟨Z, Z, Z, Z, Z, Z, Y⟩ Z ⟨⟨Blk.im_ok _ _ _, j9 Z⟩, trivial, Y⟩).trans (Sub.cut ⟨Z, Z, Z, Z, Z, Z, Y⟩ Z ⟨.vec, Y⟩ Z))
 ·intro e s hq
  obtain ⟨rfl, hs⟩ := hq
  refine ⟨_, hs, ?_⟩
  refine f9 (b5 (.g ?_))
  obtain ⟨a33, ha33, h⟩ := b8 h
  refine AWP.j (.e Z Z (.e Z Z (S.append (f := intI) ha33 Z Z Z Z Z Z .row Z Z Z Z (.q Z Z (.nil (b5 (.g (.e (env' := [(7, .c (.own 0 0 a33.length))]) (σ' := [.one (vec 1 intI a33)]) 0 1 Z Z Z ⟨Z, Y⟩ Z ⟨⟨Blk.im_ok _ _ _, j9 Z⟩, Y⟩ ?_))))))))
  obtain ⟨a35, ha35, h⟩ := b8 h
  refine AWP.j (.e Z Z (S.sort ha35 sortL_ok Z Z Z Z Z Z (.nil (b5 (.g (.j (.e Z Z (S.compact compactL_ok Z Z (sortL_len ha35) Z Z Z Z Z (.q Z Z (.nil (b5 (.ret ?_))))))))))))
  obtain rfl := oi h
  exact Done.ret Z (Fresh.mk Z Z)
theorem N7 {t : d5} {sv : List Int} {op : Int} {r : (List Int)} (h : G5 t sv op = some r) : s5 prog 46 [.agg (tT t), .c (row 1 intI sv), .c (int op)] 1 (List.map intI r) := by
 unfold s5
 refine FnOk.enter (rs := [.t 6]) func46 Z ntmps46 results46 Z ⟨trivial, Y⟩ (by kernel_rfl) Z ?_
 unfold G5 at h
 refine AWP.g (.j (W.box Z Z Z Z Z Z (.q Z Z (.nil (b5 (.g ?_))))))
 obtain ⟨a11, ha11, h⟩ := b8 h
 refine AWP.j (W.fieldAddr Z Z Z Z (.z Z Z Z Z Z Z (.e Z Z (S.idx ha11 Z Z Z Z (W.loadIAgg Z Z Z Z Z (W.alloc Z Z Z Z (W.storeAgg Z Z Z Z Z Z Z (.nil (b5 (.g ?_))))))))))
 obtain ⟨a18, ha18, h⟩ := b8 h
 refine AWP.j (.e Z Z (W.fieldAddr Z Z Z Z (.z Z Z Z Z Z Z (W.fieldAddr Z Z Z Z (.z Z Z Z Z Z Z (S.fresh Z Z Z Z (ag1 ha18) Z Z (.q Z Z (.nil (b5 (.ret ?_))))))))))
 obtain rfl := oi h
 exact Done.ret Z (Fresh.mk Z Z)
theorem af1 {xv : Int} {yv : Int} {r : Int} (h : E8 xv yv = some r) : d9 prog 77 [.c (int xv), .c (int yv)] (.c (int r)) := by
 unfold d9
 refine FnOk.enter (rs := [.t 4]) func77 Z ntmps77 results77 Z ⟨trivial, Y⟩ (by kernel_rfl) Z ?_
 unfold E8 at h
 refine AWP.g (.j (.q Z Z (.nil (b5 (.g ?_)))))
 obtain ⟨a8, ha8, h⟩ := b8 h
 refine AWP.j (.e Z Z (.E Z Z Z Z (w5 ha8) Z (.q Z Z (.nil (b5 (.g ?_))))))
 obtain ⟨a10, ha10, h⟩ := b8 h
 refine AWP.j (.e Z Z (.E Z Z Z Z (w5 ha10) Z (.q Z Z (.nil (b5 (.g (.g (.j (.e Z Z (.nil (b5 (.ag Z h (fun hc3 h => ?_) (fun hc3 h => ?_)))))))))))))
 ·refine AWP.g (.g (.j (.e Z Z (.nil (b5 (.ag Z h (fun hc4 h => ?_) (fun hc4 h => ?_)))))))
  ·refine AWP.g (.j (.q Z Z (.nil (b5 (.ret (d4 (d4 ?_)))))))
   obtain rfl := oi h
   exact Done.ret Z Z
  ·refine AWP.skip (b5 (.g (.j (.q Z Z (.nil (b5 (.ret (d4 ?_))))))))
   obtain rfl := oi h
   exact Done.ret Z Z
 ·refine AWP.skip (b5 (.g (.g (.j (.e Z Z (.nil (b5 (.ag Z h (fun hc5 h => ?_) (fun hc5 h => ?_)))))))))
  ·refine AWP.g (.j (.q Z Z (.nil (b5 (.ret (d4 ?_))))))
   obtain rfl := oi h
   exact Done.ret Z Z
  ·refine AWP.skip (b5 (.g (.g (.j (.e Z Z (.e Z Z (.F Z Z Z (.nil (b5 (.ite Z h (fun hc6 h => ?_) (fun hc6 h => ?_)))))))))))
   ·refine AWP.g (.j (.q Z Z (.nil (b5 (.ret (d4 ?_))))))
    obtain rfl := oi h
    exact Done.ret Z Z
   ·refine AWP.skip (b5 (.g (.g (.j (.e Z Z (.e Z Z (.gtr Z Z Z (.nil (b5 (.ite Z h (fun hc7 h => ?_) (fun hc7 h => ?_)))))))))))
    ·refine AWP.g (.j (.q Z Z (.nil (b5 (.ret (d4 ?_))))))
     obtain rfl := oi h
     exact Done.ret Z Z
    ·refine AWP.skip (b5 (.g (.j (.q Z Z (.nil (b5 (.ret ?_)))))))
     obtain rfl := oi h
     exact Done.ret Z Z
theorem W2 {s11 : List Int} {s22 : List Int} {r : Int} (h : q7 s11 s22 = some r) : d9 prog 58 [.c (row 1 intI s11), .c (row 1 intI s22)] (.c (int r)) := by
 unfold d9
 refine FnOk.enter (rs := [.t 4]) func58 Z ntmps58 results58 Z ⟨trivial, Y⟩ (by kernel_rfl) Z ?_
 unfold q7 at h
 refine AWP.g (.j (.q Z Z (.nil (b5 (.g (.g (.j (.e Z Z (S.len Z Z (fun hl10 => .e Z Z (.nil (b5 (.U ?_)))))))))))))
 obtain ⟨oo, ho1, h⟩ := b8 h
 refine AWP.rngS ho1 (fun t3 _ => ⟨[(0, .c (row 1 intI s11)), (1, .c (row 1 intI s22)), (9, .c (row 1 intI s11)), (10, .c (int (s11.length : Int))), (11, .c (int t3))], []⟩) (fun o e st => match o with | .inl _ => e = .exit 0 ∧ Sub [] st ⟨[(0, .c (row 1 intI s11)), (1, .c (row 1 intI s22))], []⟩ | .inr x => e = .ret ∧ Done [.t 4] (fun t _ => t = .c (int x)) .ret st) ?_ ?_ ?_ ?_
 ·try dsimp only
  exact Sub.env ⟨Z, Z, Z, Z, Z, Y⟩
 ·intro t3 s hlot3 hltt3 _
  try dsimp only
  refine AWP.g (.j (.F Z Z Z (.nil (b5 (.g (.ad Z hltt3 (.exit (d6 (d6 ⟨Z, ?_⟩)))))))))
  exact Sub.env ⟨Z, Z, Y⟩
 ·intro t3 s o hlot3 hltt3 h
  unfold w8 at h
  try dsimp only at h ⊢
  refine AWP.g (.j (.F Z Z Z (.nil (b5 (.g (.ae Z hltt3 (.skip (b5 (.g (.U (.g ?_)))))))))))
  obtain ⟨a14, ha14, h⟩ := b8 h
  refine AWP.j (.e Z Z (S.idx ha14 Z Z Z Z (.ac Z Z Z Z (.q Z Z (.q Z Z (.nil (b5 (.g (.g (.j (.e Z Z (.e Z Z (S.len Z Z (fun hl18 => .geq Z Z Z (.nil (b5 (.ite Z h (fun hc4 h => ?_) (fun hc4 h => ?_))))))))))))))))))
  ·refine AWP.g (.j (.q Z Z (.nil (b5 (.ret (d4 (f8 (d4 ?_))))))))
   obtain rfl := oi h
   refine d4 ⟨_, Z, Z, ?_⟩
   exact Done.ret Z Z
  ·refine AWP.skip (b5 (.g ?_))
   obtain ⟨a22, ha22, h⟩ := b8 h
   refine AWP.j (.e Z Z (.e Z Z (S.idx ha22 Z Z Z Z (.ac Z Z Z Z (.q Z Z (.nil (b5 (.g ?_))))))))
   obtain ⟨a26, ha26, h⟩ := b8 h
   refine AWP.j (.e Z Z (.e Z Z (.E Z Z Z Z (af1 ha26) Z (.q Z Z (.nil (b5 (.g (.j (.e Z Z (.neq Z Z Z (.nil (b5 (.iteN Z h (fun hc5 h => ?_) (fun hc5 h => ?_))))))))))))))
   ·refine AWP.g (.j (.e Z Z (.q Z Z (.nil (b5 (.ret (f8 (d4 ?_))))))))
    obtain rfl := oi h
    refine d4 ⟨_, Z, Z, ?_⟩
    exact Done.ret Z Z
   ·refine AWP.skip (e6 (b5 (.j (.add Z Z Z (by omega) (.e Z Z (.nil ?_))))))
    obtain rfl := oi h
    refine b5 ⟨_, Z, ?_⟩
    exact Sub.env ⟨Z, Z, Z, Z, Z, Y⟩
 ·intro e s hq
  rcases oo with u | x
  ·try dsimp only at h hq
   obtain ⟨rfl, hs⟩ := hq
   refine ⟨_, hs, ?_⟩
   refine f9 (b5 (.g (.g (.j (.e Z Z (S.len Z Z (fun hl32 => .e Z Z (S.len Z Z (fun hl34 => .F Z Z Z (.nil (b5 (.ite Z h (fun hc6 h => ?_) (fun hc6 h => ?_)))))))))))))
   ·refine AWP.g (.j (.q Z Z (.nil (b5 (.ret (d4 ?_))))))
    obtain rfl := oi h
    exact Done.ret Z Z
   ·refine AWP.skip (b5 (.g (.j (.q Z Z (.nil (b5 (.ret ?_)))))))
    obtain rfl := oi h
    exact Done.ret Z Z
  ·try dsimp only at h hq
   obtain ⟨rfl, hs⟩ := hq
   refine ⟨_, Sub.refl _ _, ?_⟩
   refine f8 (d4 ?_)
   obtain rfl := oi h
   exact hs
theorem N9 {s11 : List Int} {s22 : List Int} {r : Bool} (h : u3 s11 s22 = some r) : d9 prog 112 [.c (row 1 intI s11), .c (row 1 intI s22)] (.c (bool r)) := by
 unfold d9
 refine FnOk.enter (rs := [.t 4]) func112 Z ntmps112 results112 Z ⟨trivial, Y⟩ (by kernel_rfl) Z ?_
 unfold u3 at h
 refine AWP.g (.j (.q Z Z (.nil (b5 (.g (.g (.j (.e Z Z (S.len Z Z (fun hl7 => .e Z Z (S.len Z Z (fun hl9 => .neq Z Z Z (.nil (b5 (.iteN Z h (fun hc3 h => ?_) (fun hc3 h => ?_))))))))))))))))
 ·refine AWP.g (.j (.q Z Z (.nil (b5 (.ret (d4 ?_))))))
  obtain rfl := oi h
  exact Done.ret Z Z
 ·refine AWP.skip (b5 (.g (.g (.j (.e Z Z (S.len Z Z (fun hl12 => .e Z Z (.nil (b5 (.U ?_))))))))))
  obtain ⟨oo, ho1, h⟩ := b8 h
  refine AWP.rngS ho1 (fun t4 _ => ⟨[(0, .c (row 1 intI s11)), (1, .c (row 1 intI s22)), (12, .c (int (s11.length : Int))), (13, .c (int t4))], []⟩) (fun o e st => match o with | .inl _ => e = .exit 0 ∧ Sub [] st ⟨[], []⟩ | .inr x => e = .ret ∧ Done [.t 4] (fun t _ => t = .c (bool x)) .ret st) ?_ ?_ ?_ ?_
  ·try dsimp only
   exact Sub.env ⟨Z, Z, Z, Z, Y⟩
  ·intro t4 s hlot4 hltt4 _
   try dsimp only
   refine AWP.g (.j (.F Z Z Z (.nil (b5 (.g (.ad Z hltt4 (.exit (d6 (d6 ⟨Z, ?_⟩)))))))))
   exact Sub.env trivial
  ·intro t4 s o hlot4 hltt4 h
   unfold D5 at h
   try dsimp only at h ⊢
   refine AWP.g (.j (.F Z Z Z (.nil (b5 (.g (.ae Z hltt4 (.skip (b5 (.g (.U (.g (.j (.e Z Z (.q Z Z (.nil (b5 (.g ?_)))))))))))))))))
   obtain ⟨a18, ha18, a22, ha22, h⟩ := b2 h
   refine AWP.drawI mixed Z ?_
   refine f7.consF Z (fun E => AOps.e Z Z .N) Z (.consF Z (fun E => AOps.e Z Z .N) Z (.consF Z (fun E => S.idx ha18 Z Z Z Z .N) Z (.consF Z (fun E => AOps.ac Z Z Z Z .N) Z (.consF Z (fun E => AOps.e Z Z .N) Z (.consF Z (fun E => AOps.e Z Z .N) Z (.consF Z (fun E => S.idx ha22 Z Z Z Z .N) Z (.consF Z (fun E => AOps.ac Z Z Z Z .N) Z (.consF Z (fun E => AOps.neq Z Z Z .N) Z ?_))))))))
   refine f7.done ?_
   dsimp only [i4]
   refine b5 (.iteN Z h (fun hc5 h => ?_) (fun hc5 h => ?_))
   ·refine AWP.g (.j (.q Z Z (.nil (b5 (.ret (f8 (d4 ?_)))))))
    obtain rfl := oi h
    refine d4 ⟨_, Z, Z, ?_⟩
    exact Done.ret Z Z
   ·refine AWP.skip (e6 (b5 (.j (.add Z Z Z (by omega) (.e Z Z (.nil ?_))))))
    obtain rfl := oi h
    refine b5 ⟨_, Z, ?_⟩
    exact Sub.env ⟨Z, Z, Z, Z, Y⟩
  ·intro e s hq
   rcases oo with u | x
   ·try dsimp only at h hq
    obtain ⟨rfl, hs⟩ := hq
    refine ⟨_, hs, ?_⟩
    refine f9 (b5 (.g (.j (.q Z Z (.nil (b5 (.ret ?_)))))))
    obtain rfl := oi h
    exact Done.ret Z Z
   ·try dsimp only at h hq
    obtain ⟨rfl, hs⟩ := hq
    refine ⟨_, Sub.refl _ _, ?_⟩
    refine f8 (d4 ?_)
    obtain rfl := oi h
    exact hs
theorem R3 {l : List (List Int)} {r : (List (List Int))} (h : n8 l = some r) : FnOk prog 111 [.c (.own 0 0 l.length), .c (.fn 112 [])] (p9 l) (fun tt ss => tt = .c (.own 1 0 r.length) ∧ ss = [.dead, .one (vec 1 e7 r)]) := by
 refine FnOk.enter (rs := [.t 4]) func111 Z ntmps111 results111 Z ⟨trivial, Y⟩ (by kernel_rfl) Z ?_
 refine AWP.weak ?_
 unfold n8 at h
 refine AWP.e (env' := [(0, .c (.own 1 0 l.length)), (1, .c (.fn 112 []))]) (σ' := [.dead, .one (vec 1 e7 l)]) 1 0 Z Z Z ⟨Z, Z, Y⟩ Z ⟨trivial, ⟨Blk.im_ok _ _ _, j9 Z⟩, Y⟩ (.g (.j (.q Z Z (.nil (b5 (.g (.g (.j (.e Z Z (S.lenO Z Z Z (fun hl9 => .F Z Z Z (.nil (b5 (.ite Z h (fun hc53 h => ?_) (fun hc53 h => ?_)))))))))))))))
 ·refine AWP.g (.j (.e Z Z (.q Z Z (.nil (b5 (.ret (d4 ?_)))))))
  obtain rfl := oi h
  exact ⟨⟨[(4, .c (.own 1 0 l.length))], [.dead, .one (vec 1 e7 l)]⟩, Sub.env ⟨Z, Y⟩, Done.ret Z ⟨Z, Z⟩⟩
 ·refine AWP.skip (b5 (.g (.g (.j (.q Z Z (.nil (b5 (.U ?_))))))))
  obtain ⟨oo, ho1, h⟩ := b8 h
  refine AWP.rngS ho1 (fun kv54 _ => ⟨[(0, .c (.own 1 0 l.length)), (1, .c (.fn 112 [])), (5, .c (int kv54))], [.dead, .one (vec 1 e7 l)]⟩) (fun o e st => match o with | .inl _ => e = .exit 0 ∧ Sub (p9 l) st ⟨[(0, .c (.own 1 0 l.length))], [.dead, .one (vec 1 e7 l)]⟩ | .inr x => e = .ret ∧ ∃ J, Sub (p9 l) st J ∧ Done [.t 4] (fun tt ss => tt = .c (.own 1 0 x.length) ∧ ss = [.dead, .one (vec 1 e7 x)]) .ret J) ?_ ?_ ?_ ?_
  ·try dsimp only
   exact Sub.env ⟨Z, Z, Z, Y⟩
  ·intro kv54 s hlokv54 hltkv54 _
   try dsimp only
   refine AWP.g (.g (.j (.e Z Z (.e Z Z (S.lenO Z Z Z (fun hl14 => .F Z Z Z (.nil (b5 (.ad Z hltkv54 (.exit (d6 (d6 ⟨Z, ?_⟩))))))))))))
   exact Sub.env ⟨Z, Y⟩
  ·intro kv54 s o hlokv54 hltkv54 h
   unfold l7 at h
   try dsimp only at h ⊢
   refine AWP.g (.g (.j (.e Z Z (.e Z Z (S.lenO Z Z Z (fun hl14 => .F Z Z Z (.nil (b5 (.ae Z hltkv54 (.skip (b5 (.g (.U (.g ?_))))))))))))))
   obtain ⟨a21, ha21, a26, ha26, a28, ha28, h⟩ := b3 h
   refine AWP.drawI mixed Z ?_
   refine f7.consF Z (fun E => AOps.e Z Z .N) Z (.consF Z (fun E => AOps.e Z Z .N) Z (.consF Z (fun E => AOps.e Z Z .N) Z (.consF Z (fun E => S.idxO ha21 Z Z Z Z Z .N) Z (.consF Z (fun E => S.loadO ha21 Z Z Z Z Z .N) Z (.consF Z (fun E => AOps.e Z Z .N) Z (.consF Z (fun E => AOps.e Z Z .N) Z (.consF Z (fun E => AOps.sub' Z Z Z (by omega) .N) Z (.consF Z (fun E => S.idxO ha26 Z Z Z Z Z .N) Z (.consF Z (fun E => S.loadO ha26 Z Z Z Z Z .N) Z (.consF Z (fun E => AOps.E Z Z Z Z (N9 ha28) Z .N) Z ?_))))))))))
   refine f7.done ?_
   dsimp only [i4]
   refine b5 (.ag Z h (fun hc55 h => ?_) (fun hc55 h => ?_))
   ·refine AWP.g ?_
    obtain ⟨u31, hu31, h⟩ := b8 h
    refine AWP.j (.e Z Z (.e Z Z (S.vFrom (Q7 l) hu31 Z Z Z Z Z Z (.q Z Z (.nil (b5 (.g (.g (.j (.q Z Z (.nil (b5 (.U ?_)))))))))))))
    obtain ⟨⟨c56, kv57⟩, ho2, h⟩ := b8 h
    try dsimp only at h
    refine AWP.forS ho2 (fun k258 (c56, kv57) => ⟨[(0, .c (.own 1 0 c56.length)), (1, .c (.fn 112 [])), (5, .c (int kv57)), (6, .c (.own 1 ((0 + kv54).toNat) (((l.length : Int) - kv54).toNat))), (7, .c (int k258))], [.dead, .one (vec 1 e7 c56)]⟩) (fun (c56, kv57) e st => e = .exit 2 ∧ Sub (p9 l) st ⟨[(0, .c (.own 1 0 c56.length)), (5, .c (int kv57))], [.dead, .one (vec 1 e7 c56)]⟩) ?_ ?_ ?_ ?_
    ·try dsimp only
     exact Sub.env ⟨Z, Z, Z, Z, Z, Y⟩
    ·intro k258 s hlok258 hltk258 _
     obtain ⟨c56, kv57⟩ := s
     try dsimp only
     refine AWP.g (.g (.j (.e Z Z (.e Z Z (S.lenV (M1 (vw_cut (Q7 l) hu31)).2.1 Z Z Z (fun hl34 => .F Z Z Z (.nil (b5 (.ad Z hltk258 (.exit (d6 (d6 ⟨Z, ?_⟩))))))))))))
     exact Sub.env ⟨Z, Z, Y⟩
    ·intro k258 s o hlok258 hltk258 h
     obtain ⟨c56, kv57⟩ := s
     unfold m8 at h
     try dsimp only at h ⊢
     refine AWP.g (.g (.j (.e Z Z (.e Z Z (S.lenV (M1 (vw_cut (Q7 l) hu31)).2.1 Z Z Z (fun hl34 => .F Z Z Z (.nil (b5 (.ae Z hltk258 (.skip (b5 ?_)))))))))))
     obtain ⟨⟨c59, kv60⟩, hx61, h⟩ := b8 h
     refine AWP.seqJ (⟨[(0, .c (.own 1 0 c59.length)), (1, .c (.fn 112 [])), (5, .c (int kv60)), (6, .c (.own 1 ((0 + kv54).toNat) (((l.length : Int) - kv54).toNat))), (7, .c (int k258))], [.dead, .one (vec 1 e7 c59)]⟩) ?_ ?_
     ·refine AWP.U (.g ?_)
      obtain ⟨a41, ha41, a46, ha46, a48, ha48, hx61⟩ := b3 hx61
      refine AWP.drawI mixed Z ?_
      refine f7.consF Z (fun E => AOps.e Z Z .N) Z (.consF Z (fun E => AOps.e Z Z .N) Z (.consF Z (fun E => AOps.e Z Z .N) Z (.consF Z (fun E => S.idxV ha41 Z Z Z Z .N) Z (.consF Z (fun E => S.loadO (ixV_ix ha41) Z Z Z Z Z .N) Z (.consF Z (fun E => AOps.e Z Z .N) Z (.consF Z (fun E => AOps.e Z Z .N) Z (.consF Z (fun E => AOps.sub' Z Z Z (by omega) .N) Z (.consF Z (fun E => S.idxV ha46 Z Z Z Z .N) Z (.consF Z (fun E => S.loadO (ixV_ix ha46) Z Z Z Z Z .N) Z (.consF Z (fun E => AOps.E Z Z Z Z (N9 ha48) Z .N) Z (.consF Z (fun E => AOps.ab Z Z .N) Z ?_)))))))))))
      refine f7.done ?_
      dsimp only [i4]
      refine b5 (.ag Z hx61 (fun hc62 hx61 => ?_) (fun hc62 hx61 => ?_))
      ·refine AWP.g ?_
       obtain ⟨a54, ha54, a56, ha56, hx61⟩ := b2 hx61
       refine AWP.j (.e Z Z (.e Z Z (.e Z Z (.e Z Z (S.idxV ha54 Z Z Z Z (S.loadO (ixV_ix ha54) Z Z Z Z Z (S.idxO ha56 Z Z Z Z Z (S.storeO1 (f := e7) (a' := a54) (J9 ha56) (fun _ => ⟨_, Z⟩) Z Z Z Z Z ?_))))))))
       refine AOps.nil (b5 (.j (.e Z Z (S.add Z Z Z (.q Z Z (.nil (e6 ?_)))))))
       obtain ⟨ej0, ej1⟩ := o2 hx61
       subst ej0 ej1
       refine b5 (Sub.env ⟨(o8 (by first | rfl | simp only [List.length_set])), Z, Z, Z, Z, Y⟩)
      ·refine AWP.skip (e6 ?_)
       obtain ⟨ej0, ej1⟩ := o2 hx61
       subst ej0 ej1
       refine b5 (Sub.env ⟨Z, Z, Z, Z, Z, Y⟩)
     ·try dsimp only at h
      refine AWP.j (.e Z Z (.add Z Z Z (by omega) (.q Z Z (.nil ?_))))
      obtain rfl := oi h
      refine b5 (Sub.env ⟨Z, Z, Z, Z, Z, Y⟩)
    ·intro e s hq
     obtain ⟨rfl, hs⟩ := hq
     refine ⟨_, hs, ?_⟩
     refine f9 (b5 (.g ?_))
     obtain ⟨u61, hu61, h⟩ := b8 h
     refine AWP.j (.e Z Z (.e Z Z (S.vFrom (Q7 c56) hu61 Z Z Z Z Z Z (S.clear (a0 := []) Z Z Z (fun _ _ _ _ => .imm .slNil) (vw_cut (Q7 c56) hu61) Z Z Z Z Z ?_))))
     refine AOps.nil (b5 (.g ?_))
     obtain ⟨u64, hu64, h⟩ := b8 h
     refine AWP.j (.e Z Z (.e Z Z ?_))
     refine S.vTo (Q7 (clrL c56 (0 + kv57) ((c56.length : Int) - kv57) [])) hu64 Z Z (by rw [Int.toNat_natCast]; exact (clrL_len (vw_cut (Q7 c56) hu61)).symm) Z Z Z ?_
     refine AOps.q Z Z (.nil (b5 (.reown (env' := [(4, .c (.own 2 0 ((r9 (clrL c56 (0 + kv57) ((c56.length : Int) - kv57) []) 0 kv57).length)))]) 4 (vw_to (Q7 (clrL c56 (0 + kv57) ((c56.length : Int) - kv57) [])) hu64) Z Z Z Z Z Z Z Z (by exact ⟨.inl ⟨Z, Z⟩, Y⟩) (.ret (f8 (d4 ?_))))))
     obtain rfl := oi h
     refine d4 ⟨_, Z, Z, ?_⟩
     exact ⟨⟨[(4, .c (.own 1 0 ((r9 (clrL c56 (0 + kv57) ((c56.length : Int) - kv57) []) 0 kv57).length)))], [.dead, .one (vec 1 e7 (r9 (clrL c56 (0 + kv57) ((c56.length : Int) - kv57) []) 0 kv57))]⟩, (Sub.move (env' := [(4, .c (.own 1 0 ((r9 (clrL c56 (0 + kv57) ((c56.length : Int) - kv57) []) 0 kv57).length)))]) (σ' := [.dead, .one (vec 1 e7 (r9 (clrL c56 (0 + kv57) ((c56.length : Int) - kv57) []) 0 kv57))]) 1 2 Z Z Z ⟨Z, Y⟩ Z ⟨trivial, ⟨Blk.im_ok _ _ _, j9 Z⟩, Y⟩).trans (Sub.env ⟨Z, Y⟩), Done.ret Z ⟨Z, Z⟩⟩
   ·refine AWP.skip (e6 (b5 (.j (.e Z Z (.add Z Z Z (by omega) (.q Z Z (.nil ?_)))))))
    obtain rfl := oi h
    refine b5 ⟨_, Z, ?_⟩
    exact Sub.env ⟨Z, Z, Z, Y⟩
  ·intro e s hq
   rcases oo with u | x
   ·try dsimp only at h hq
    obtain ⟨rfl, hs⟩ := hq
    refine ⟨_, hs, ?_⟩
    refine f9 (b5 (.g (.j (.e Z Z (.q Z Z (.nil (b5 (.ret ?_))))))))
    obtain rfl := oi h
    exact ⟨⟨[(4, .c (.own 1 0 l.length))], [.dead, .one (vec 1 e7 l)]⟩, Sub.env ⟨Z, Y⟩, Done.ret Z ⟨Z, Z⟩⟩
   ·try dsimp only at h hq
    obtain ⟨rfl, hs⟩ := hq
    refine ⟨_, Sub.refl _ _, ?_⟩
    refine f8 (d4 ?_)
    obtain rfl := oi h
    exact hs
theorem ae5 {l : List (List Int)} {r : (List (List Int))} (h : G4 l = some r) : FnOk prog 86 [.c (.own 0 0 l.length)] (ae3 l) (fun tt ss => tt = .c (.own 2 0 r.length) ∧ ss = [.dead, .dead, .one (vec 1 e7 r)]) := by
 refine FnOk.enter (rs := [.t 2]) func86 Z ntmps86 results86 Z ⟨trivial, Y⟩ (by kernel_rfl) Z ?_
 refine AWP.weak ?_
 unfold G4 at h
 refine AWP.e (env' := [(0, .c (.own 1 0 l.length))]) (σ' := [.dead, .one (vec 1 e7 l)]) 1 0 Z Z Z ⟨Z, Y⟩ Z ⟨trivial, ⟨Blk.im_ok _ _ _, j9 Z⟩, Y⟩ (.g (.j (.q Z Z (.nil (b5 (.g ?_))))))
 obtain ⟨a4, ha4, h⟩ := b8 h
 refine AWP.j (.e Z Z (S.sortF (fun x => .sl 1 (List.map intI x)) ha4 Z (fun hy => W2 hy) sortF_LLi64_ok (⟨_, func58, Z, Z⟩) Z Z Z Z Z Z ?_))
 refine AOps.nil (b5 (.g ?_))
 obtain ⟨a6, ha6, h⟩ := b8 h
 refine AWP.j (.e Z Z ?_)
 refine AOps.callF (r2 := .c (.own 2 0 a6.length)) (σ'' := [.dead, .dead, .one (vec 1 e7 a6)]) Z Z Z (FnOk.lend [1] (R3 ha6) Z Z Z Z Z Z (by exact ⟨.vec, Y⟩) (by rw [(sortFL_len ha4)] <;> rfl) (by exact ⟨(.live Z .vec), Y⟩) Z Z (by exact ⟨.dead, .dead, (.new 1 Z Z .vec), Y⟩)) ?_
 refine AOps.q Z Z (.nil (b5 (.ret ?_)))
 obtain rfl := oi h
 exact ⟨⟨[(2, .c (.own 2 0 a6.length))], [.dead, .dead, .one (vec 1 e7 a6)]⟩, Sub.env ⟨Z, Y⟩, Done.ret Z ⟨Z, Z⟩⟩
theorem belief_After_ok {t : d5} {worlds : List (List Int)} {op : Int} {r : (List (List Int))} (h : H5 t worlds op = some r) : s5 prog 71 [.agg (tT t), .c (row 1 e7 worlds), .c (int op)] 1 (List.map e7 r) := by
 unfold s5
 refine FnOk.enter (rs := [.t 6]) func71 Z ntmps71 results71 Z ⟨trivial, Y⟩ (by kernel_rfl) Z ?_
 unfold H5 at h
 refine AWP.g (.j (W.box Z Z Z Z Z Z (.q Z Z (.nil (b5 (.g (.j (.q Z Z (.nil (b5 (.g (.g (.j (.e Z Z (S.len Z Z (fun hl11 => .e Z Z (.nil (b5 (.U (.virtV 1 e7 7 Z Z Z ?_))))))))))))))))))))
 obtain ⟨c4, ho1, h⟩ := b8 h
 refine AWP.forS ho1 (fun t5 c4 => ⟨[(2, .c (int op)), (3, .c (.ptr 0 0 0)), (7, .c (.own 1 0 c4.length)), (10, .c (row 1 e7 worlds)), (11, .c (int (worlds.length : Int))), (12, .c (int t5))], [.one (.cells 4 [(tT t)]), .one (vec 1 e7 c4)]⟩) (fun c4 e st => e = .exit 0 ∧ Sub [] st ⟨[(7, .c (.own 1 0 c4.length))], [.one (.cells 4 [(tT t)]), .one (vec 1 e7 c4)]⟩) ?_ ?_ ?_ ?_
 ·try dsimp only
  exact Sub.env ⟨Z, Z, (o8 (by first | rfl | simp only [List.length_set])), Z, Z, Z, Y⟩
 ·intro t5 c4 hlot5 hltt5 _
  try dsimp only
  refine AWP.g (.j (.F Z Z Z (.nil (b5 (.g (.ad Z hltt5 (.exit (d6 (d6 ⟨Z, ?_⟩)))))))))
  exact Sub.env ⟨Z, Y⟩
 ·intro t5 c4 o hlot5 hltt5 h
  unfold G0 at h
  try dsimp only at h ⊢
  refine AWP.g (.j (.F Z Z Z (.nil (b5 (.g (.ae Z hltt5 (.skip (b5 (.g (.U (.g ?_)))))))))))
  obtain ⟨a14, ha14, h⟩ := b8 h
  refine AWP.j (S.idx ha14 Z Z Z Z (.ac Z Z Z Z (.q Z Z (.nil (b5 ?_)))))
  obtain ⟨a20, ha20, a22, ha22, h⟩ := b2 h
  refine AWP.j (.e Z Z (W.loadAgg Z Z Z Z Z Z Z (.e Z Z (.e Z Z (S.fresh Z Z Z Z (N7 ha20) Z Z (.frzV (id := 2) (l := a20) (env2 := [(2, .c (int op)), (3, .c (.ptr 0 0 0)), (10, .c (row 1 e7 worlds)), (11, .c (int (worlds.length : Int))), (12, .c (int t5)), (16, .c (.own 1 0 c4.length)), (20, .c (row 1 intI a20))]) (σ2 := [.one (.cells 4 [(tT t)]), .one (vec 1 e7 c4), .dead]) Z Z (by exact ⟨⟨_, Z, .inl ⟨Z, Z⟩⟩, ⟨_, Z, .inl ⟨Z, Z⟩⟩, ⟨_, Z, .inl ⟨Z, Z⟩⟩, ⟨_, Z, .inl ⟨Z, Z⟩⟩, ⟨_, Z, .inl ⟨Z, Z⟩⟩, ⟨_, Z, .inl ⟨Z, Z⟩⟩, ⟨_, Z, .inr ⟨_, Z, Z, Z⟩⟩, Y⟩) Z (by exact ⟨⟨Z, .inl ⟨Z, Z⟩, .inl ⟨Z, Z⟩, .inl ⟨Z, Z⟩, .inl ⟨Z, Z⟩, Y⟩, FrzB.vec, trivial, Y⟩) (S.lit (f := e7) (l := [a20]) (ess := [[row 1 intI a20]]) Z Z Z Z Z Z Z ⟨⟨.inl Z, Y⟩, Y⟩ Z Z Z (S.append (f := e7) ha22 Z Z Z Z Z Z (.own Z Z) Z Z Z Z (.q Z Z (.nil (e6 (b5 (.e (env' := [(2, .c (int op)), (3, .c (.ptr 0 0 0)), (7, .c (.own 1 0 a22.length)), (10, .c (row 1 e7 worlds)), (11, .c (int (worlds.length : Int))), (12, .c (int t5))]) (σ' := [.one (.cells 4 [(tT t)]), .one (vec 1 e7 a22), .dead, .one (vec 1 e7 [a20])]) 1 4 Z Z Z ⟨Z, Z, Z, Z, Z, Z, Y⟩ Z ⟨⟨Z, Z⟩, ⟨Blk.im_ok _ _ _, j9 Z⟩, trivial, ⟨Blk.im_ok _ _ _, j9 Z⟩, Y⟩ (.j (.add Z Z Z (by omega) (.e Z Z (.nil ?_)))))))))))))))))
  obtain rfl := oi h
  refine b5 (Sub.cut ⟨Z, Z, Z, Z, Z, Z, Y⟩ Z ⟨.one Z, .vec, Y⟩ Z)
 ·intro e s hq
  obtain ⟨rfl, hs⟩ := hq
  refine ⟨_, hs, ?_⟩
  refine f9 (b5 (.g ?_))
  obtain ⟨a25, ha25, h⟩ := b8 h
  refine AWP.j (.e Z Z (.callF (r2 := .c (.own 3 0 a25.length)) (σ'' := [.one (.cells 4 [(tT t)]), .dead, .dead, .one (vec 1 e7 a25)]) Z Z Z (FnOk.lend [1] (ae5 ha25) Z Z Z Z Z Z (by exact ⟨.vec, Y⟩) Z (by exact ⟨(.live Z .vec), Y⟩) Z Z (by exact ⟨(.old Z Z Z), .dead, .dead, (.new 2 Z Z .vec), Y⟩)) (.q Z Z (.nil (b5 (.ret ?_))))))
  obtain rfl := oi h
  exact Done.ret Z (Fresh.mk Z Z)
theorem aa5 {t : d5} {worlds : List (List Int)} {r : Unit} (h : D3 t worlds = some r) : FnOk prog 43 [.agg (tT t), .c (row 1 e7 worlds)] (aa3 t worlds) (fun tt ss => tt = .c (.fn 69 [.ptr 0 0 0, .ptr 1 0 0]) ∧ ss = [.one (.cells 4 [(tT t)]), .one (.cells 1 [[row 1 e7 worlds]])]) := by
 refine FnOk.enter (rs := [.t 4]) func43 Z ntmps43 results43 Z ⟨trivial, Y⟩ (by kernel_rfl) Z ?_
 refine AWP.weak ?_
 unfold D3 at h
 refine AWP.g (.j (W.box Z Z Z Z Z Z (W.box Z Z Z Z Z Z (.q Z Z (.nil (b5 (.g (.j (.makeFunc Z Z (.q Z Z (.nil (b5 (.ret ?_)))))))))))))
 obtain rfl := oi h
 exact ⟨⟨[(4, .c (.fn 69 [.ptr 0 0 0, .ptr 1 0 0]))], [.one (.cells 4 [(tT t)]), .one (.cells 1 [[row 1 e7 worlds]])]⟩, Sub.env ⟨Z, Y⟩, Done.ret Z ⟨Z, Z⟩⟩
theorem ab4 {v : List (List Int)} {r : Bool} (h : E2 v = some r) : d9 prog 40 [.c (row 1 e7 v)] (.c (bool r)) := by
 unfold d9
 refine FnOk.enter (rs := [.t 2]) func40 Z ntmps40 results40 Z ⟨trivial, Y⟩ (by kernel_rfl) Z ?_
 unfold E2 at h
 refine AWP.g (.j (.q Z Z (.nil (b5 (.g (.j (.q Z Z (.nil (b5 (.ret ?_))))))))))
 obtain rfl := oi h
 exact Done.ret Z Z
theorem W0 {iv : Int} {r : ByteArray} (h : internal_strconv_small iv = some r) : d9 prog 105 [.c (int iv)] (.c (.imm (.val (.string r)))) := by
 unfold d9
 refine FnOk.enter (rs := [.t 2]) func105 Z ntmps105 results105 Z ⟨trivial, Y⟩ (by kernel_rfl) Z ?_
 unfold internal_strconv_small at h
 refine AWP.g (.j (.q Z Z (.nil (b5 (.g (.g (.j (.e Z Z (.F Z Z Z (.nil (b5 (.ite Z h (fun hc2 h => ?_) (fun hc2 h => ?_)))))))))))))
 ·refine AWP.g ?_
  obtain ⟨a8, ha8, h⟩ := b8 h
  refine AWP.j (.e Z Z (.e Z Z (S.add Z Z Z (S.subStr ha8 Z Z Z Z (.q Z Z (.nil (b5 (.ret (d4 ?_)))))))))
  obtain rfl := oi h
  exact Done.ret Z Z
 ·refine AWP.skip (b5 (.g ?_))
  obtain ⟨a14, ha14, h⟩ := b8 h
  refine AWP.j (.e Z Z (S.mul Z Z Z (.e Z Z (S.mul Z Z Z (S.add Z Z Z (S.subStr ha14 Z Z Z Z (.q Z Z (.nil (b5 (.ret ?_))))))))))
  obtain rfl := oi h
  exact Done.ret Z Z
theorem O7 {iv : Int} {base : Int} {l : List Int} {r : (List Int)} (h : q8 iv base l = some r) : FnOk prog 83 [.c (.own 0 0 l.length), .c (.imm (.val (.int .u64 iv))), .c (int base)] (O5 iv base l) (fun tt ss => tt = .c (.own 2 0 r.length) ∧ ss = [.dead, .dead, .one (vec 1 eU8 r)]) := by
 refine FnOk.enter (rs := [.t 6]) func83 Z ntmps83 results83 Z ⟨trivial, Y⟩ (by kernel_rfl) Z ?_
 refine AWP.weak ?_
 unfold q8 at h
 refine AWP.e (env' := [(0, .c (.own 1 0 l.length)), (1, .c (.imm (.val (.int .u64 iv)))), (2, .c (int base))]) (σ' := [.dead, .one (vec 1 eU8 l)]) 1 0 Z Z Z ⟨Z, Z, Z, Y⟩ Z ⟨trivial, ⟨Blk.im_ok _ _ _, j9 Z⟩, Y⟩ (.g (.j (.q Z Z (.nil (b5 (.g (.g (.j (.e Z Z (.aa Z Z Z (.nil (b5 (.ite Z h (fun hc55 h => ?_) (fun hc55 h => ?_))))))))))))))
 ·refine AWP.g (.g (.j (.e Z Z (.F Z Z Z (.nil (b5 (.ite Z h (fun hc56 h => ?_) (fun hc56 h => ?_))))))))
  ·refine AWP.g ?_
   obtain ⟨a16, ha16, a17, ha17, h⟩ := b2 h
   refine AWP.j (.e Z Z (.e Z Z (.convInt Z Z (.E Z Z Z Z (W0 ha16) Z (S.appendStr ha17 Z Z Z Z Z Z Z Z Z Z (.q Z Z (.nil (b5 (.ret (d4 (d4 ?_)))))))))))
   obtain rfl := oi h
   exact ⟨⟨[(6, .c (.own 2 0 a17.length))], [.dead, .dead, .one (vec 1 eU8 a17)]⟩, Sub.env ⟨Z, Y⟩, Done.ret Z ⟨Z, Z⟩⟩
  ·cases h
 ·cases h
theorem P7 {iv : Int} {base : Int} {l : List Int} {r : (List Int)} (h : s6 iv base l = some r) : FnOk prog 68 [.c (.own 0 0 l.length), .c (int iv), .c (int base)] (P4 iv base l) (fun tt ss => tt = .c (.own 3 0 r.length) ∧ ss = [.dead, .dead, .dead, .one (vec 1 eU8 r)]) := by
 refine FnOk.enter (rs := [.t 6]) func68 Z ntmps68 results68 Z ⟨trivial, Y⟩ (by kernel_rfl) Z ?_
 refine AWP.weak ?_
 unfold s6 at h
 refine AWP.e (env' := [(0, .c (.own 1 0 l.length)), (1, .c (int iv)), (2, .c (int base))]) (σ' := [.dead, .one (vec 1 eU8 l)]) 1 0 Z Z Z ⟨Z, Z, Z, Y⟩ Z ⟨trivial, ⟨Blk.im_ok _ _ _, j9 Z⟩, Y⟩ (.g (.j (.q Z Z (.nil (b5 (.g (.j (.e Z Z (.convInt Z Z (.q Z Z (.nil (b5 ?_))))))))))))
 obtain ⟨u, hx55, h⟩ := b8 h
 refine AWP.seqJ (⟨[(0, .c (.own 1 0 l.length)), (2, .c (int base)), (7, .c (.imm (.val (.int .u64 ((IntKind.u64).wrap iv)))))], [.dead, .one (vec 1 eU8 l)]⟩) ?_ ?_
 ·refine AWP.g (.j (.e Z Z (.F Z Z Z (.nil (b5 (.ite Z hx55 (fun hc56 hx55 => ?_) (fun hc56 hx55 => ?_)))))))
  ·cases hx55
  ·refine AWP.skip ?_
   obtain rfl := oi hx55
   refine b5 (Sub.env ⟨Z, Z, Z, Y⟩)
 ·try dsimp only at h
  refine AWP.g ?_
  obtain ⟨a20, ha20, h⟩ := b8 h
  refine AWP.j (.e Z Z (.e Z Z (.e Z Z (.callF (r2 := .c (.own 3 0 a20.length)) (σ'' := [.dead, .dead, .dead, .one (vec 1 eU8 a20)]) Z Z Z (FnOk.lend [1] (O7 ha20) Z Z Z Z Z Z (by exact ⟨.vec, Y⟩) Z (by exact ⟨(.live Z .vec), Y⟩) Z Z (by exact ⟨.dead, .dead, .dead, (.new 2 Z Z .vec), Y⟩)) (.q Z Z (.nil (b5 (.ret ?_))))))))
  obtain rfl := oi h
  exact ⟨⟨[(6, .c (.own 3 0 a20.length))], [.dead, .dead, .dead, .one (vec 1 eU8 a20)]⟩, Sub.env ⟨Z, Y⟩, Done.ret Z ⟨Z, Z⟩⟩
theorem Y1 {iv : Int} {base : Int} {l : List Int} {r : (List Int)} (h : s9 iv base l = some r) : FnOk prog 41 [.c (.own 0 0 l.length), .c (int iv), .c (int base)] (Y0 iv base l) (fun tt ss => tt = .c (.own 4 0 r.length) ∧ ss = [.dead, .dead, .dead, .dead, .one (vec 1 eU8 r)]) := by
 refine FnOk.enter (rs := [.t 6]) func41 Z ntmps41 results41 Z ⟨trivial, Y⟩ (by kernel_rfl) Z ?_
 refine AWP.weak ?_
 unfold s9 at h
 refine AWP.e (env' := [(0, .c (.own 1 0 l.length)), (1, .c (int iv)), (2, .c (int base))]) (σ' := [.dead, .one (vec 1 eU8 l)]) 1 0 Z Z Z ⟨Z, Z, Z, Y⟩ Z ⟨trivial, ⟨Blk.im_ok _ _ _, j9 Z⟩, Y⟩ (.g (.j (.q Z Z (.nil (b5 (.g ?_))))))
 obtain ⟨a10, ha10, h⟩ := b8 h
 refine AWP.j (.e Z Z (.e Z Z (.e Z Z (.callF (r2 := .c (.own 4 0 a10.length)) (σ'' := [.dead, .dead, .dead, .dead, .one (vec 1 eU8 a10)]) Z Z Z (FnOk.lend [1] (P7 ha10) Z Z Z Z Z Z (by exact ⟨.vec, Y⟩) Z (by exact ⟨(.live Z .vec), Y⟩) Z Z (by exact ⟨.dead, .dead, .dead, .dead, (.new 3 Z Z .vec), Y⟩)) (.q Z Z (.nil (b5 (.ret ?_))))))))
 obtain rfl := oi h
 exact ⟨⟨[(6, .c (.own 4 0 a10.length))], [.dead, .dead, .dead, .dead, .one (vec 1 eU8 a10)]⟩, Sub.env ⟨Z, Y⟩, Done.ret Z ⟨Z, Z⟩⟩
theorem V1 {l : List (List Int)} {r : ByteArray} (h : A6 l = some r) : d9 prog 16 [.c (row 1 e7 l)] (.c (.imm (.val (.string r)))) := by
 unfold d9
 refine FnOk.enter (rs := [.t 2]) func16 Z ntmps16 results16 Z ⟨trivial, Y⟩ (by kernel_rfl) Z ?_
 unfold A6 at h
 refine AWP.g (.j (.q Z Z (.nil (b5 (.g (.j (.q Z Z (.nil (b5 (.g (.g (.j (.e Z Z (S.len Z Z (fun hl9 => .e Z Z (.nil (b5 (.U (.virtV 1 eU8 3 Z Z Z ?_)))))))))))))))))))
 obtain ⟨c2, ho1, h⟩ := b8 h
 refine AWP.forS ho1 (fun t3 c2 => ⟨[(3, .c (.own 0 0 c2.length)), (8, .c (row 1 e7 l)), (9, .c (int (l.length : Int))), (10, .c (int t3))], [.one (vec 1 eU8 c2)]⟩) (fun c2 e st => e = .exit 0 ∧ Sub [] st ⟨[(3, .c (.own 0 0 c2.length))], [.one (vec 1 eU8 c2)]⟩) ?_ ?_ ?_ ?_
 ·try dsimp only
  exact Sub.env ⟨(o8 (by first | rfl | simp only [List.length_set])), Z, Z, Z, Y⟩
 ·intro t3 c2 hlot3 hltt3 _
  try dsimp only
  refine AWP.g (.j (.F Z Z Z (.nil (b5 (.g (.ad Z hltt3 (.exit (d6 (d6 ⟨Z, ?_⟩)))))))))
  exact Sub.env ⟨Z, Y⟩
 ·intro t3 c2 o hlot3 hltt3 h
  unfold U9 at h
  try dsimp only at h ⊢
  refine AWP.g (.j (.F Z Z Z (.nil (b5 (.g (.ae Z hltt3 (.skip (b5 (.g (.U (.g ?_)))))))))))
  obtain ⟨a12, ha12, h⟩ := b8 h
  refine AWP.j (S.idx ha12 Z Z Z Z (.ac Z Z Z Z (.q Z Z (.nil (b5 (.g (.g (.j (.e Z Z (S.len Z Z (fun hl15 => .e Z Z (.nil (b5 (.U ?_))))))))))))))
  obtain ⟨c4, ho2, h⟩ := b8 h
  refine AWP.forS ho2 (fun t5 c4 => ⟨[(3, .c (.own 0 0 c4.length)), (8, .c (row 1 e7 l)), (9, .c (int (l.length : Int))), (10, .c (int t3)), (14, .c (row 1 intI a12)), (15, .c (int (a12.length : Int))), (16, .c (int t5))], [.one (vec 1 eU8 c4)]⟩) (fun c4 e st => e = .exit 2 ∧ Sub [] st ⟨[(3, .c (.own 0 0 c4.length)), (8, .c (row 1 e7 l)), (9, .c (int (l.length : Int))), (10, .c (int t3))], [.one (vec 1 eU8 c4)]⟩) ?_ ?_ ?_ ?_
  ·try dsimp only
   exact Sub.env ⟨Z, Z, Z, Z, Z, Z, Z, Y⟩
  ·intro t5 c4 hlot5 hltt5 _
   try dsimp only
   refine AWP.g (.j (.F Z Z Z (.nil (b5 (.g (.ad Z hltt5 (.exit (d6 (d6 ⟨Z, ?_⟩)))))))))
   exact Sub.env ⟨Z, Z, Z, Z, Y⟩
  ·intro t5 c4 o hlot5 hltt5 h
   unfold V2 at h
   try dsimp only at h ⊢
   refine AWP.g (.j (.F Z Z Z (.nil (b5 (.g (.ae Z hltt5 (.skip (b5 (.g (.U (.g ?_)))))))))))
   obtain ⟨a18, ha18, h⟩ := b8 h
   refine AWP.j (S.idx ha18 Z Z Z Z (.ac Z Z Z Z (.q Z Z (.nil (b5 ?_)))))
   obtain ⟨a22, ha22, a24, ha24, h⟩ := b2 h
   refine AWP.j (.e Z Z (.e Z Z (.callF (r2 := .c (.own 4 0 a22.length)) (σ'' := [.dead, .dead, .dead, .dead, .one (vec 1 eU8 a22)]) Z Z Z (FnOk.lend [0] (Y1 ha22) Z Z Z Z Z Z (by exact ⟨.vec, Y⟩) Z (by exact ⟨(.live Z .vec), Y⟩) Z Z (by exact ⟨.dead, .dead, .dead, .dead, (.new 4 Z Z .vec), Y⟩)) (S.lit (f := eU8) (l := [44]) (ess := [[.imm (.val (.int .u8 44))]]) Z Z Z Z Z Z Z ⟨⟨.inl Z, Y⟩, Y⟩ Z Z Z (S.append (f := eU8) ha24 Z Z Z Z Z Z (.own Z Z) Z Z Z Z (.q Z Z (.nil (e6 (b5 (.e (env' := [(3, .c (.own 4 0 a24.length)), (8, .c (row 1 e7 l)), (9, .c (int (l.length : Int))), (10, .c (int t3)), (14, .c (row 1 intI a12)), (15, .c (int (a12.length : Int))), (16, .c (int t5))]) (σ' := [.dead, .dead, .dead, .dead, .one (vec 1 eU8 a24), .one (vec 1 eU8 [44])]) 4 6 Z Z Z ⟨Z, Z, Z, Z, Z, Z, Z, Y⟩ Z ⟨trivial, trivial, trivial, trivial, ⟨Blk.im_ok _ _ _, j9 Z⟩, ⟨Blk.im_ok _ _ _, j9 Z⟩, Y⟩ (.j (.add Z Z Z (by omega) (.e Z Z (.nil ?_))))))))))))))
   obtain rfl := oi h
   refine b5 ((Sub.move (env' := [(3, .c (.own 0 0 a24.length)), (8, .c (row 1 e7 l)), (9, .c (int (l.length : Int))), (10, .c (int t3)), (14, .c (row 1 intI a12)), (15, .c (int (a12.length : Int))), (16, .c (int (t5 + 1)))]) (σ' := [.one (vec 1 eU8 a24), .dead, .dead, .dead, .dead, .one (vec 1 eU8 [44])]) 0 4 Z Z Z ⟨Z, Z, Z, Z, Z, Z, Z, Y⟩ Z ⟨⟨Blk.im_ok _ _ _, j9 Z⟩, trivial, trivial, trivial, trivial, ⟨Blk.im_ok _ _ _, j9 Z⟩, Y⟩).trans (Sub.cut ⟨Z, Z, Z, Z, Z, Z, Z, Y⟩ Z ⟨.vec, Y⟩ Z))
  ·intro e s hq
   obtain ⟨rfl, hs⟩ := hq
   refine ⟨_, hs, ?_⟩
   refine f9 (b5 ?_)
   obtain ⟨a28, ha28, h⟩ := b8 h
   refine AWP.j (.e Z Z (S.lit (f := eU8) (l := [59]) (ess := [[.imm (.val (.int .u8 59))]]) Z Z Z Z Z Z Z ⟨⟨.inl Z, Y⟩, Y⟩ Z Z Z (S.append (f := eU8) ha28 Z Z Z Z Z Z (.own Z Z) Z Z Z Z (.q Z Z (.nil (e6 (b5 (.e (env' := [(3, .c (.own 0 0 a28.length)), (8, .c (row 1 e7 l)), (9, .c (int (l.length : Int))), (10, .c (int t3))]) (σ' := [.one (vec 1 eU8 a28), .one (vec 1 eU8 [59])]) 0 2 Z Z Z ⟨Z, Z, Z, Z, Y⟩ Z ⟨⟨Blk.im_ok _ _ _, j9 Z⟩, ⟨Blk.im_ok _ _ _, j9 Z⟩, Y⟩ (.j (.add Z Z Z (by omega) (.e Z Z (.nil ?_))))))))))))
   obtain rfl := oi h
   refine b5 (Sub.cut ⟨Z, Z, Z, Z, Y⟩ Z ⟨.vec, Y⟩ Z)
 ·intro e s hq
  obtain ⟨rfl, hs⟩ := hq
  refine ⟨_, hs, ?_⟩
  refine f9 (b5 (.g (.j (.e Z Z (S.bytesStr Z Z Z Z (.q Z Z (.nil (b5 (.ret ?_)))))))))
  obtain rfl := oi h
  exact Done.ret Z Z
theorem U8 {t : d5} {sv : List Int} {op : Int} {r : Bool} (h : N1 t sv op = some r) : d9 prog 45 [.agg (tT t), .c (row 1 intI sv), .c (int op)] (.c (bool r)) := by
 unfold d9
 refine FnOk.enter (rs := [.t 6]) func45 Z ntmps45 results45 Z ⟨trivial, Y⟩ (by kernel_rfl) Z ?_
 unfold N1 at h
 refine AWP.g (.j (W.box Z Z Z Z Z Z (.q Z Z (.nil (b5 (.g ?_))))))
 obtain ⟨a11, ha11, a14, ha14, h⟩ := b2 h
 refine AWP.j (.e Z Z (W.fieldAddr Z Z Z Z (.z Z Z Z Z Z Z (.e Z Z (S.idx ha11 Z Z Z Z (W.fieldAddrI Z Z Z Z (.ac Z Z Z Z (.E Z Z Z Z (K5 ha14) Z (.q Z Z (.nil (b5 (.ret ?_))))))))))))
 obtain rfl := oi h
 exact Done.ret Z Z
theorem X1 {t : d5} {r : Unit} (h : O8 t = some r) : FnOk prog 17 [.agg (tT t)] (af7 t) (fun tt ss => tt = .c (.fn 42 [.ptr 0 0 0]) ∧ ss = [.one (.cells 4 [(tT t)])]) := by
 refine FnOk.enter (rs := [.t 2]) func17 Z ntmps17 results17 Z ⟨trivial, Y⟩ (by kernel_rfl) Z ?_
 refine AWP.weak ?_
 unfold O8 at h
 refine AWP.g (.j (W.box Z Z Z Z Z Z (.q Z Z (.nil (b5 (.g (.j (.makeFunc Z Z (.q Z Z (.nil (b5 (.ret ?_))))))))))))
 obtain rfl := oi h
 exact ⟨⟨[(2, .c (.fn 42 [.ptr 0 0 0]))], [.one (.cells 4 [(tT t)])]⟩, Sub.env ⟨Z, Y⟩, Done.ret Z ⟨Z, Z⟩⟩
theorem af0 {worlds : List (List Int)} {Facts : Int} {Init : List Int} {Goal : List Int} {Operators : List g7} {r : Unit} (h : K1 worlds Facts Init Goal Operators = some r) : FnOk prog 42 [.c (row 1 e7 worlds), .c (.ptr 0 0 0)] (ae9 worlds Facts Init Goal Operators) (fun tt ss => tt = .c (.fn 69 [.ptr 1 0 0, .ptr 2 0 0]) ∧ ss = [.one (.cells 4 [(tF Facts Init Goal Operators)]), .one (.cells 4 [(tF Facts Init Goal Operators)]), .one (.cells 1 [[row 1 e7 worlds]])]) := by
 refine FnOk.enter (rs := [.t 3]) func42 Z ntmps42 results42 Z ⟨trivial, Y⟩ (by kernel_rfl) Z ?_
 refine AWP.weak ?_
 unfold K1 at h
 refine AWP.g (.j (.q Z Z (.nil (b5 (.g ?_)))))
 obtain ⟨a6, ha6, h⟩ := b8 h
 refine AWP.j (W.loadAgg Z Z Z Z Z Z Z (.e Z Z (.callF (r2 := .c (.fn 69 [.ptr 1 0 0, .ptr 2 0 0])) (σ'' := [.one (.cells 4 [(tF Facts Init Goal Operators)]), .one (.cells 4 [(tF Facts Init Goal Operators)]), .one (.cells 1 [[row 1 e7 worlds]])]) Z Z Z (FnOk.lend [] (aa5 ha6) Z Z Z Z Z Z (by exact trivial) Z (by exact trivial) Z Z (by exact ⟨(.old Z Z Z), (.new 0 Z Z (.one Z)), (.new 1 Z Z (.one Z)), Y⟩)) (.q Z Z (.nil (b5 (.ret ?_)))))))
 obtain rfl := oi h
 exact ⟨⟨[(3, .c (.fn 69 [.ptr 1 0 0, .ptr 2 0 0]))], [.one (.cells 4 [(tF Facts Init Goal Operators)]), .one (.cells 4 [(tF Facts Init Goal Operators)]), .one (.cells 1 [[row 1 e7 worlds]])]⟩, Sub.env ⟨Z, Y⟩, Done.ret Z ⟨Z, Z⟩⟩
theorem Y2 {start : List (List Int)} {Facts : Int} {Init : List Int} {Goal : List Int} {Operators : List g7} {r : (List Int) × Bool × Bool} (h : C3 start Facts Init Goal Operators = some r) : FnOk prog 39 [.c (row 1 e7 start), .c (.fn 16 []), .c (.fn 42 [.ptr 0 0 0]), .c (.fn 40 [])] (y9 start Facts Init Goal Operators) (fun tt ss => tt = .tup [.c (row 1 intI r.1), .c (bool r.2.1), .c (bool r.2.2)] ∧ ss = [.one (.cells 4 [(tF Facts Init Goal Operators)]), .dead, .one (.cells 1 [[row 1 intI r.1]]), .one (.cells 1 [[bool r.2.1]]), .one (.cells 1 [[bool r.2.2]])]) := by
 refine FnOk.enter (rs := [.one 8 22, .one 9 4, .one 10 4]) func39 Z ntmps39 results39 Z ⟨rv1 _ Z, rv1 _ Z, rv1 _ Z, Y⟩ (by kernel_rfl) Z ?_
 refine AWP.weak ?_
 unfold C3 at h
 refine AWP.g (.j (W.box Z Z Z Z Z Z (W.alloc Z Z Z Z (W.alloc Z Z Z Z (W.alloc Z Z Z Z (.nil (b5 (.g (.j (.e Z Z (W.build Z Z Z Z (S.lit (f := f5) (l := [(⟨start, -1, 0⟩ : f4)]) (ess := [[row 1 e7 start, int (-1), int 0]]) Z Z Z Z Z Z Z ⟨⟨.inl Z, .inl Z, .inl Z, Y⟩, Y⟩ Z Z Z (W.alloc Z Z Z Z (W.store Z Z Z Z Z (.nil (b5 (.g ?_)))))))))))))))))
 obtain ⟨a25, ha25, h⟩ := b8 h
 refine AWP.j (W.makeMap Value.string vI Z Z Z (.z Z Z Z Z Z Z (.e Z Z (.E Z Z Z Z (V1 ha25) Z (W.insert (fk := Value.string) (fv := vI) (k := a25) (a := 1) keyStr Z Z Z Z Z (.e Z Z (W.alloc Z Z Z Z (W.store Z Z Z Z Z (.nil (b5 (.g (.g (.j (W.alloc Z Z Z Z (W.store Z Z Z Z Z (.nil (b5 (.U ?_))))))))))))))))))
 obtain ⟨oo, ho1, h⟩ := b8 h
 refine AWP.loopS ho1 (fun (c59, c60, c61) => ⟨[(2, .c (.fn 42 [.ptr 0 0 0])), (3, .c (.fn 40 [])), (5, .c (.ptr 1 0 0)), (8, .c (.ptr 2 0 0)), (9, .c (.ptr 3 0 0)), (10, .c (.ptr 4 0 0)), (11, .c (.ptr 6 0 0)), (12, .c (.ptr 8 0 0)), (13, .c (.ptr 9 0 0))], [.one (.cells 4 [(tF Facts Init Goal Operators)]), .one (.cells 1 [[.fn 16 []]]), .one (.cells 1 [[.imm (.val nL)]]), .one (.cells 1 [[bool false]]), .one (.cells 1 [[bool false]]), .one (vec 3 f5 c59), .one (.cells 1 [[.own 5 0 c59.length]]), .one (mapB Value.string vI c60), .one (.cells 1 [[.map 7]]), .one (.cells 1 [[int c61]])]⟩) (fun o e st => match o with | .inl _ => e = .exit 0 ∧ Sub (y9 start Facts Init Goal Operators) st ⟨[(8, .c (.ptr 2 0 0)), (9, .c (.ptr 3 0 0)), (10, .c (.ptr 4 0 0))], [.one (.cells 4 [(tF Facts Init Goal Operators)]), .dead, .one (.cells 1 [[.imm (.val nL)]]), .one (.cells 1 [[bool false]]), .one (.cells 1 [[bool false]])]⟩ | .inr x => e = .ret ∧ ∃ J, Sub (y9 start Facts Init Goal Operators) st J ∧ Done [.one 8 22, .one 9 4, .one 10 4] (fun tt ss => tt = .tup [.c (row 1 intI x.1), .c (bool x.2.1), .c (bool x.2.2)] ∧ ss = [.one (.cells 4 [(tF Facts Init Goal Operators)]), .dead, .one (.cells 1 [[row 1 intI x.1]]), .one (.cells 1 [[bool x.2.1]]), .one (.cells 1 [[bool x.2.2]])]) .ret J) ?_ ?_ ?_
 ·try dsimp only
  exact Sub.env ⟨Z, Z, Z, Z, Z, Z, Z, Z, Z, Y⟩
 ·intro s o h
  obtain ⟨c59, c60, c61⟩ := s
  unfold z2 at h
  try dsimp only at h ⊢
  refine AWP.g (.g (.j (.z Z Z Z Z Z Z (.z Z Z Z Z Z Z (S.lenO Z Z Z (fun hl29 => .F Z Z Z (.nil (b5 (.ite Z h (fun hc62 h => ?_) (fun hc62 h => ?_))))))))))
  ·refine AWP.skip (b5 (.g (.U (.g (.g ?_)))))
   obtain ⟨a36, ha36, a39, ha39, h⟩ := b2 h
   refine AWP.j (.e Z Z (.z Z Z Z Z Z Z (.z Z Z Z Z Z Z (S.idxO ha36 Z Z Z Z Z (W.fieldAddr Z Z Z Z (S.loadO ha36 Z Z Z Z Z (.E Z Z Z Z (ab4 ha39) Z (.nil (b5 (.ag Z h (fun hc63 h => ?_) (fun hc63 h => ?_)))))))))))
   ·refine AWP.g (.j (.q Z Z (.nil (b5 (.g (.g (.j (.z Z Z Z Z Z Z (.q Z Z (.nil (b5 (.U (.virtV 1 intI 14 Z Z Z ?_)))))))))))))
    obtain ⟨c66, ho2, h⟩ := b8 h
    refine AWP.loopS ho2 (fun (c64, iv65) => ⟨[(8, .c (.ptr 2 0 0)), (9, .c (.ptr 3 0 0)), (10, .c (.ptr 4 0 0)), (11, .c (.ptr 6 0 0)), (14, .c (.own 10 0 c64.length)), (15, .c (int iv65))], [.one (.cells 4 [(tF Facts Init Goal Operators)]), .dead, .one (.cells 1 [[.imm (.val nL)]]), .one (.cells 1 [[bool false]]), .one (.cells 1 [[bool false]]), .one (vec 3 f5 c59), .one (.cells 1 [[.own 5 0 c59.length]]), .dead, .dead, .dead, .one (vec 1 intI c64)]⟩) (fun c66 e st => e = .exit 2 ∧ Sub (y9 start Facts Init Goal Operators) st ⟨[(8, .c (.ptr 2 0 0)), (9, .c (.ptr 3 0 0)), (10, .c (.ptr 4 0 0)), (14, .c (.own 10 0 c66.length))], [.one (.cells 4 [(tF Facts Init Goal Operators)]), .dead, .one (.cells 1 [[.imm (.val nL)]]), .one (.cells 1 [[bool false]]), .one (.cells 1 [[bool false]]), .dead, .dead, .dead, .dead, .dead, .one (vec 1 intI c66)]⟩) ?_ ?_ ?_
    ·try dsimp only
     exact Sub.cut ⟨Z, Z, Z, Z, (o8 (by first | rfl | simp only [List.length_set])), Z, Y⟩ Z ⟨.one Z, .dead, .one Z, .one Z, .one Z, .vec, .one Z, .dead, .dead, .dead, .vec, Y⟩ Z
    ·intro s o h
     obtain ⟨c64, iv65⟩ := s
     unfold O0 at h
     try dsimp only at h ⊢
     refine AWP.g (.g ?_)
     obtain ⟨a43, ha43, h⟩ := b8 h
     refine AWP.j (.z Z Z Z Z Z Z (.e Z Z (S.idxO ha43 Z Z Z Z Z (W.fieldAddr Z Z Z Z (S.loadO ha43 Z Z Z Z Z (.geq Z Z Z (.nil (b5 (.ite Z h (fun hc67 h => ?_) (fun hc67 h => ?_))))))))))
     ·refine AWP.skip (b5 (.g (.U ?_)))
      obtain ⟨a55, ha55, a59, ha59, h⟩ := b2 h
      refine AWP.j (.e Z Z (.z Z Z Z Z Z Z (.e Z Z (S.idxO ha55 Z Z Z Z Z (W.fieldAddr Z Z Z Z (S.loadO ha55 Z Z Z Z Z (S.lit (f := intI) (l := [a55.step]) (ess := [[int a55.step]]) Z Z Z Z Z Z Z ⟨⟨.inl Z, Y⟩, Y⟩ Z Z Z (S.append (f := intI) ha59 Z Z Z Z Z Z (.own Z Z) Z Z Z Z (.q Z Z (.nil (e6 (b5 (.e (env' := [(8, .c (.ptr 2 0 0)), (9, .c (.ptr 3 0 0)), (10, .c (.ptr 4 0 0)), (11, .c (.ptr 6 0 0)), (14, .c (.own 10 0 a59.length)), (15, .c (int iv65))]) (σ' := [.one (.cells 4 [(tF Facts Init Goal Operators)]), .dead, .one (.cells 1 [[.imm (.val nL)]]), .one (.cells 1 [[bool false]]), .one (.cells 1 [[bool false]]), .one (vec 3 f5 c59), .one (.cells 1 [[.own 5 0 c59.length]]), .dead, .dead, .dead, .one (vec 1 intI a59), .one (vec 1 intI [a55.step])]) 10 12 Z Z Z ⟨Z, Z, Z, Z, Z, Z, Y⟩ Z ⟨⟨Z, Z⟩, trivial, ⟨Z, Z⟩, ⟨Z, Z⟩, ⟨Z, Z⟩, ⟨Blk.im_ok _ _ _, j9 Z⟩, ⟨Z, Z⟩, trivial, trivial, trivial, ⟨Blk.im_ok _ _ _, j9 Z⟩, ⟨Blk.im_ok _ _ _, j9 Z⟩, Y⟩ ?_)))))))))))))
      obtain ⟨a49, ha49, h⟩ := b8 h
      refine AWP.j (.z Z Z Z Z Z Z (.e Z Z (S.idxO ha49 Z Z Z Z Z (W.fieldAddr Z Z Z Z (S.loadO ha49 Z Z Z Z Z (.q Z Z (.nil ?_)))))))
      obtain rfl := oi h
      refine b5 ⟨_, Z, ?_⟩
      exact Sub.cut ⟨Z, Z, Z, Z, Z, Z, Y⟩ Z ⟨.one Z, .dead, .one Z, .one Z, .one Z, .vec, .one Z, .dead, .dead, .dead, .vec, Y⟩ Z
     ·refine AWP.exit (d6 ?_)
      obtain rfl := oi h
      refine d6 ⟨_, Z, Z, ?_⟩
      exact Sub.cut ⟨Z, Z, Z, Z, Y⟩ Z ⟨.one Z, .dead, .one Z, .one Z, .one Z, .dead, .dead, .dead, .dead, .dead, .vec, Y⟩ Z
    ·intro e s hq
     obtain ⟨rfl, hs⟩ := hq
     refine ⟨_, hs, ?_⟩
     refine f9 (b5 (.g (.j (.e Z Z (S.rev revL_ok Z Z Z Z Z Z (.nil (b5 (.g (.j (.e Z Z (W.store Z Z Z Z Z (W.store Z Z Z Z Z (W.store Z Z Z Z Z (.nil (b5 (.frzV (id := 10) (l := c66.reverse) (env2 := [(8, .c (.ptr 2 0 0)), (9, .c (.ptr 3 0 0)), (10, .c (.ptr 4 0 0))]) (σ2 := [.one (.cells 4 [(tF Facts Init Goal Operators)]), .dead, .one (.cells 1 [[row 1 intI c66.reverse]]), .one (.cells 1 [[bool true]]), .one (.cells 1 [[bool true]]), .dead, .dead, .dead, .dead, .dead, .dead]) Z Z (by exact ⟨⟨_, Z, .inl ⟨Z, Z⟩⟩, ⟨_, Z, .inl ⟨Z, Z⟩⟩, ⟨_, Z, .inl ⟨Z, Z⟩⟩, Y⟩) Z (by exact ⟨⟨Z, .inl ⟨Z, Z⟩, .inl ⟨Z, Z⟩, .inl ⟨Z, Z⟩, .inl ⟨Z, Z⟩, Y⟩, trivial, ⟨Z, .inr ⟨_, Z, List.length_reverse.symm, Z⟩, Y⟩, ⟨Z, .inl ⟨Z, Z⟩, Y⟩, ⟨Z, .inl ⟨Z, Z⟩, Y⟩, trivial, trivial, trivial, trivial, trivial, trivial, Y⟩) (.ret (d4 (f8 (d4 ?_))))))))))))))))))))
     obtain rfl := oi h
     refine d4 ⟨_, Z, Z, ?_⟩
     exact ⟨⟨[(8, .c (.ptr 2 0 0)), (9, .c (.ptr 3 0 0)), (10, .c (.ptr 4 0 0))], [.one (.cells 4 [(tF Facts Init Goal Operators)]), .dead, .one (.cells 1 [[row 1 intI c66.reverse]]), .one (.cells 1 [[bool true]]), .one (.cells 1 [[bool true]])]⟩, Sub.cut ⟨Z, Z, Z, Y⟩ Z ⟨.one Z, .dead, .one Z, .one Z, .one Z, Y⟩ Z, Done.ret Z ⟨Z, Z⟩⟩
   ·refine AWP.skip (b5 (.g ?_))
    obtain ⟨a66, ha66, a69, ha69, h⟩ := b2 h
    refine AWP.j (.e Z Z (.z Z Z Z Z Z Z (.z Z Z Z Z Z Z (S.idxO ha66 Z Z Z Z Z (W.fieldAddr Z Z Z Z (S.loadO ha66 Z Z Z Z Z (.callF (r2 := .c (.fn 69 [.ptr 10 0 0, .ptr 11 0 0])) (σ'' := [.one (.cells 4 [(tF Facts Init Goal Operators)]), .one (.cells 1 [[.fn 16 []]]), .one (.cells 1 [[.imm (.val nL)]]), .one (.cells 1 [[bool false]]), .one (.cells 1 [[bool false]]), .one (vec 3 f5 c59), .one (.cells 1 [[.own 5 0 c59.length]]), .one (mapB Value.string vI c60), .one (.cells 1 [[.map 7]]), .one (.cells 1 [[int c61]]), .one (.cells 4 [(tF Facts Init Goal Operators)]), .one (.cells 1 [[row 1 e7 a66.node]])]) Z Z Z (FnOk.lend [0] (af0 ha69) Z Z Z Z Z Z (by exact ⟨(.one Z), Y⟩) Z (by exact ⟨(.live Z (.one Z)), Y⟩) Z Z (by exact ⟨(.new 0 Z Z (.one Z)), (.old Z Z Z), (.old Z Z Z), (.old Z Z Z), (.old Z Z Z), (.old Z Z Z), (.old Z Z Z), (.old Z Z Z), (.old Z Z Z), (.old Z Z Z), (.new 1 Z Z (.one Z)), (.new 2 Z Z (.one Z)), Y⟩)) (.nil (b5 (.U ?_))))))))))
    obtain ⟨xr68, hr68, h⟩ := b8 h
    refine AWP.rangeB [(5, none), (8, none), (9, none), (10, none), (11, none), (12, none), (13, none)] Z Z Z (fun as68 bo68 hA68 hB68 => ⟨[.one (.cells 4 [(tF Facts Init Goal Operators)]), .one (.cells 1 [[.fn 16 []]]), .one (.cells 1 [[.imm (.val nL)]]), .one (.cells 1 [[bool false]]), .one (.cells 1 [[bool false]]), .one (vec 3 f5 c59), .one (.cells 1 [[.own 5 0 c59.length]]), .one (mapB Value.string vI c60), .one (.cells 1 [[.map 7]]), .one (.cells 1 [[int c61]]), .one (.cells 4 [(tF Facts Init Goal Operators)]), .one (.cells 1 [[row 1 e7 a66.node]]), .one (k7 92 [70, 71] as68 bo68 .ready none [(5, none), (8, none), (9, none), (10, none), (11, none), (12, none), (13, none)] [.ptr 1 0 0, .ptr 2 0 0, .ptr 3 0 0, .ptr 4 0 0, .ptr 6 0 0, .ptr 8 0 0, .ptr 9 0 0])], fun tt ss => (∃ v : (List (ByteArray × Int)) × (List f4), xr68 = .inl v ∧ tt = .tup [] ∧ ss = [.one (.cells 4 [(tF Facts Init Goal Operators)]), .one (.cells 1 [[.fn 16 []]]), .one (.cells 1 [[.imm (.val nL)]]), .one (.cells 1 [[bool false]]), .one (.cells 1 [[bool false]]), .dead, .one (.cells 1 [[.own 13 0 v.2.length]]), .one (mapB Value.string vI v.1), .one (.cells 1 [[.map 7]]), .one (.cells 1 [[int c61]]), .one (.cells 4 [(tF Facts Init Goal Operators)]), .one (.cells 1 [[row 1 e7 a66.node]]), .one (k7 92 [70, 71] as68 bo68 .ready none [(5, none), (8, none), (9, none), (10, none), (11, none), (12, none), (13, none)] [.ptr 1 0 0, .ptr 2 0 0, .ptr 3 0 0, .ptr 4 0 0, .ptr 6 0 0, .ptr 8 0 0, .ptr 9 0 0]), .one (vec 3 f5 v.2)]) ∨ (∃ v : (List (ByteArray × Int)) × (List f4), xr68 = .inr v ∧ tt = .tup [] ∧ ss = [.one (.cells 4 [(tF Facts Init Goal Operators)]), .one (.cells 1 [[.fn 16 []]]), .one (.cells 1 [[.imm (.val nL)]]), .one (.cells 1 [[bool false]]), .one (.cells 1 [[bool false]]), .dead, .one (.cells 1 [[.own 13 0 v.2.length]]), .one (mapB Value.string vI v.1), .one (.cells 1 [[.map 7]]), .one (.cells 1 [[int c61]]), .one (.cells 4 [(tF Facts Init Goal Operators)]), .one (.cells 1 [[row 1 e7 a66.node]]), .one (k7 92 [70, 71] as68 bo68 .done (some .ret) [(5, none), (8, none), (9, none), (10, none), (11, none), (12, none), (13, none)] [.ptr 1 0 0, .ptr 2 0 0, .ptr 3 0 0, .ptr 4 0 0, .ptr 6 0 0, .ptr 8 0 0, .ptr 9 0 0]), .one (vec 3 f5 v.2)]), Z, ?_, ?_⟩)
    ·clear h
     refine FnOk.enter (rs := []) func69 Z ntmps69 results69 Z trivial (by kernel_rfl) Z ?_
     refine AWP.weak ?_
     unfold u4 at hr68
     try dsimp only at hr68
     refine AWP.e (env' := [(0, .c (.yld 12)), (1, .c (.ptr 10 0 0)), (2, .c (.ptr 11 0 0))]) (σ' := [.one (.cells 4 [(tF Facts Init Goal Operators)]), .one (.cells 1 [[.fn 16 []]]), .one (.cells 1 [[.imm (.val nL)]]), .one (.cells 1 [[bool false]]), .one (.cells 1 [[bool false]]), .dead, .one (.cells 1 [[.own 13 0 c59.length]]), .one (mapB Value.string vI c60), .one (.cells 1 [[.map 7]]), .one (.cells 1 [[int c61]]), .one (.cells 4 [(tF Facts Init Goal Operators)]), .one (.cells 1 [[row 1 e7 a66.node]]), .one (k7 92 [70, 71] as68 bo68 .ready none [(5, none), (8, none), (9, none), (10, none), (11, none), (12, none), (13, none)] [.ptr 1 0 0, .ptr 2 0 0, .ptr 3 0 0, .ptr 4 0 0, .ptr 6 0 0, .ptr 8 0 0, .ptr 9 0 0]), .one (vec 3 f5 c59)]) 13 5 Z Z Z ⟨Z, Z, Z, Y⟩ Z ⟨⟨Z, Z⟩, ⟨Z, Z⟩, ⟨Z, Z⟩, ⟨Z, Z⟩, ⟨Z, Z⟩, trivial, ⟨Z, Z⟩, ⟨Z, Z⟩, ⟨Z, Z⟩, ⟨Z, Z⟩, ⟨Z, Z⟩, ⟨Z, Z⟩, ⟨Z, Z⟩, ⟨Blk.im_ok _ _ _, j9 Z⟩, Y⟩ (.g (.j (W.fieldAddr Z Z Z Z (.z Z Z Z Z Z Z (S.len Z Z (fun hl8 => .e Z Z (.nil (b5 (.U ?_)))))))))
     obtain ⟨oo, ho3, hr68⟩ := b8 hr68
     refine AWP.rngS ho3 (fun t75 (c73, c74) => ⟨[(0, .c (.yld 12)), (1, .c (.ptr 10 0 0)), (2, .c (.ptr 11 0 0)), (7, .c (row 4 d8 Operators)), (8, .c (int (Operators.length : Int))), (9, .c (int t75))], [.one (.cells 4 [(tF Facts Init Goal Operators)]), .one (.cells 1 [[.fn 16 []]]), .one (.cells 1 [[.imm (.val nL)]]), .one (.cells 1 [[bool false]]), .one (.cells 1 [[bool false]]), .dead, .one (.cells 1 [[.own 13 0 c74.length]]), .one (mapB Value.string vI c73), .one (.cells 1 [[.map 7]]), .one (.cells 1 [[int c61]]), .one (.cells 4 [(tF Facts Init Goal Operators)]), .one (.cells 1 [[row 1 e7 a66.node]]), .one (k7 92 [70, 71] as68 bo68 .ready none [(5, none), (8, none), (9, none), (10, none), (11, none), (12, none), (13, none)] [.ptr 1 0 0, .ptr 2 0 0, .ptr 3 0 0, .ptr 4 0 0, .ptr 6 0 0, .ptr 8 0 0, .ptr 9 0 0]), .one (vec 3 f5 c74)]⟩) (fun o e st => match o with | .inl (c73, c74) => e = .exit 0 ∧ Sub ([.one (.cells 4 [(tF Facts Init Goal Operators)]), .one (.cells 1 [[.fn 16 []]]), .one (.cells 1 [[.imm (.val nL)]]), .one (.cells 1 [[bool false]]), .one (.cells 1 [[bool false]]), .one (vec 3 f5 c59), .one (.cells 1 [[.own 5 0 c59.length]]), .one (mapB Value.string vI c60), .one (.cells 1 [[.map 7]]), .one (.cells 1 [[int c61]]), .one (.cells 4 [(tF Facts Init Goal Operators)]), .one (.cells 1 [[row 1 e7 a66.node]]), .one (k7 92 [70, 71] as68 bo68 .ready none [(5, none), (8, none), (9, none), (10, none), (11, none), (12, none), (13, none)] [.ptr 1 0 0, .ptr 2 0 0, .ptr 3 0 0, .ptr 4 0 0, .ptr 6 0 0, .ptr 8 0 0, .ptr 9 0 0])] : b6) st ⟨[], [.one (.cells 4 [(tF Facts Init Goal Operators)]), .one (.cells 1 [[.fn 16 []]]), .one (.cells 1 [[.imm (.val nL)]]), .one (.cells 1 [[bool false]]), .one (.cells 1 [[bool false]]), .dead, .one (.cells 1 [[.own 13 0 c74.length]]), .one (mapB Value.string vI c73), .one (.cells 1 [[.map 7]]), .one (.cells 1 [[int c61]]), .one (.cells 4 [(tF Facts Init Goal Operators)]), .one (.cells 1 [[row 1 e7 a66.node]]), .one (k7 92 [70, 71] as68 bo68 .ready none [(5, none), (8, none), (9, none), (10, none), (11, none), (12, none), (13, none)] [.ptr 1 0 0, .ptr 2 0 0, .ptr 3 0 0, .ptr 4 0 0, .ptr 6 0 0, .ptr 8 0 0, .ptr 9 0 0]), .one (vec 3 f5 c74)]⟩ | .inr x => e = .ret ∧ ∃ J, Sub ([.one (.cells 4 [(tF Facts Init Goal Operators)]), .one (.cells 1 [[.fn 16 []]]), .one (.cells 1 [[.imm (.val nL)]]), .one (.cells 1 [[bool false]]), .one (.cells 1 [[bool false]]), .one (vec 3 f5 c59), .one (.cells 1 [[.own 5 0 c59.length]]), .one (mapB Value.string vI c60), .one (.cells 1 [[.map 7]]), .one (.cells 1 [[int c61]]), .one (.cells 4 [(tF Facts Init Goal Operators)]), .one (.cells 1 [[row 1 e7 a66.node]]), .one (k7 92 [70, 71] as68 bo68 .ready none [(5, none), (8, none), (9, none), (10, none), (11, none), (12, none), (13, none)] [.ptr 1 0 0, .ptr 2 0 0, .ptr 3 0 0, .ptr 4 0 0, .ptr 6 0 0, .ptr 8 0 0, .ptr 9 0 0])] : b6) st J ∧ Done [] (fun tt ss => (∃ v : (List (ByteArray × Int)) × (List f4), x = .inl v ∧ tt = .tup [] ∧ ss = [.one (.cells 4 [(tF Facts Init Goal Operators)]), .one (.cells 1 [[.fn 16 []]]), .one (.cells 1 [[.imm (.val nL)]]), .one (.cells 1 [[bool false]]), .one (.cells 1 [[bool false]]), .dead, .one (.cells 1 [[.own 13 0 v.2.length]]), .one (mapB Value.string vI v.1), .one (.cells 1 [[.map 7]]), .one (.cells 1 [[int c61]]), .one (.cells 4 [(tF Facts Init Goal Operators)]), .one (.cells 1 [[row 1 e7 a66.node]]), .one (k7 92 [70, 71] as68 bo68 .ready none [(5, none), (8, none), (9, none), (10, none), (11, none), (12, none), (13, none)] [.ptr 1 0 0, .ptr 2 0 0, .ptr 3 0 0, .ptr 4 0 0, .ptr 6 0 0, .ptr 8 0 0, .ptr 9 0 0]), .one (vec 3 f5 v.2)]) ∨ (∃ v : (List (ByteArray × Int)) × (List f4), x = .inr v ∧ tt = .tup [] ∧ ss = [.one (.cells 4 [(tF Facts Init Goal Operators)]), .one (.cells 1 [[.fn 16 []]]), .one (.cells 1 [[.imm (.val nL)]]), .one (.cells 1 [[bool false]]), .one (.cells 1 [[bool false]]), .dead, .one (.cells 1 [[.own 13 0 v.2.length]]), .one (mapB Value.string vI v.1), .one (.cells 1 [[.map 7]]), .one (.cells 1 [[int c61]]), .one (.cells 4 [(tF Facts Init Goal Operators)]), .one (.cells 1 [[row 1 e7 a66.node]]), .one (k7 92 [70, 71] as68 bo68 .done (some .ret) [(5, none), (8, none), (9, none), (10, none), (11, none), (12, none), (13, none)] [.ptr 1 0 0, .ptr 2 0 0, .ptr 3 0 0, .ptr 4 0 0, .ptr 6 0 0, .ptr 8 0 0, .ptr 9 0 0]), .one (vec 3 f5 v.2)])) .ret J) ?_ ?_ ?_ ?_
     ·try dsimp only
      exact Sub.env ⟨Z, Z, Z, Z, Z, Z, Y⟩
     ·intro t75 s hlot75 hltt75 _
      obtain ⟨c73, c74⟩ := s
      try dsimp only
      refine AWP.g (.j (.F Z Z Z (.nil (b5 (.g (.ad Z hltt75 (.exit (d6 (d6 ⟨Z, ?_⟩)))))))))
      exact Sub.env trivial
     ·intro t75 s o hlot75 hltt75 h
      obtain ⟨c73, c74⟩ := s
      unfold z1 at h
      try dsimp only at h ⊢
      refine AWP.g (.j (.F Z Z Z (.nil (b5 (.g (.ae Z hltt75 (.skip (b5 (.g (.U (.g ?_)))))))))))
      obtain ⟨ai12, hai12, h⟩ := b8 h
      refine AWP.j (.e Z Z (S.idx hai12 Z Z Z Z (W.loadIAgg Z Z Z Z Z (W.alloc Z Z Z Z (.q Z Z (W.storeAgg Z Z Z Z Z Z Z (.nil (b5 (.g ?_)))))))))
      obtain ⟨ai17, hai17, h⟩ := b8 h
      rcases bft (ai17) with hb76 | hb76
      ·replace h := A9 hb76 h
       obtain ⟨ai24, hai24, h⟩ := b8 h
       refine AWP.j (.z Z Z Z Z Z Z (W.fieldAddr Z Z Z Z (.z Z Z Z Z Z Z (.E Z Z Z Z (ab5 hai17) Z (.e Z Z (.u Z Z Z hb76 (.e Z Z (.u Z Z Z hb76 (.e Z Z (.u Z Z Z hb76 (W.loadAgg Z Z Z Z Z Z Z (.u Z Z Z hb76 (.z Z Z Z Z Z Z (.u Z Z Z hb76 (.e Z Z (.u Z Z Z hb76 (S.fresh Z Z Z Z (belief_After_ok hai24) Z Z (.frzV (id := 15) (l := ai24) (env2 := [(0, .c (.yld 12)), (1, .c (.ptr 10 0 0)), (2, .c (.ptr 11 0 0)), (7, .c (row 4 d8 Operators)), (8, .c (int (Operators.length : Int))), (9, .c (int t75)), (18, .c (bool ai17)), (19, .c (.yld 12)), (20, .c (int t75)), (24, .c (row 1 e7 ai24))]) (σ2 := [.one (.cells 4 [(tF Facts Init Goal Operators)]), .one (.cells 1 [[.fn 16 []]]), .one (.cells 1 [[.imm (.val nL)]]), .one (.cells 1 [[bool false]]), .one (.cells 1 [[bool false]]), .dead, .one (.cells 1 [[.own 13 0 c74.length]]), .one (mapB Value.string vI c73), .one (.cells 1 [[.map 7]]), .one (.cells 1 [[int c61]]), .one (.cells 4 [(tF Facts Init Goal Operators)]), .one (.cells 1 [[row 1 e7 a66.node]]), .one (k7 92 [70, 71] as68 bo68 .ready none [(5, none), (8, none), (9, none), (10, none), (11, none), (12, none), (13, none)] [.ptr 1 0 0, .ptr 2 0 0, .ptr 3 0 0, .ptr 4 0 0, .ptr 6 0 0, .ptr 8 0 0, .ptr 9 0 0]), .one (vec 3 f5 c74), .one (.cells 4 [[row 1 intI ai12.pre, row 1 intI ai12.add, row 1 intI ai12.del, int ai12.cost]]), .dead]) Z Z (by exact ⟨⟨_, Z, .inl ⟨Z, Z⟩⟩, ⟨_, Z, .inl ⟨Z, Z⟩⟩, ⟨_, Z, .inl ⟨Z, Z⟩⟩, ⟨_, Z, .inl ⟨Z, Z⟩⟩, ⟨_, Z, .inl ⟨Z, Z⟩⟩, ⟨_, Z, .inl ⟨Z, Z⟩⟩, ⟨_, Z, .inl ⟨Z, Z⟩⟩, ⟨_, Z, .inl ⟨Z, Z⟩⟩, ⟨_, Z, .inl ⟨Z, Z⟩⟩, ⟨_, Z, .inr ⟨_, Z, Z, Z⟩⟩, Y⟩) Z (by exact ⟨⟨Z, .inl ⟨Z, Z⟩, .inl ⟨Z, Z⟩, .inl ⟨Z, Z⟩, .inl ⟨Z, Z⟩, Y⟩, ⟨Z, .inl ⟨Z, Z⟩, Y⟩, ⟨Z, .inl ⟨Z, Z⟩, Y⟩, ⟨Z, .inl ⟨Z, Z⟩, Y⟩, ⟨Z, .inl ⟨Z, Z⟩, Y⟩, trivial, ⟨Z, .inl ⟨Z, Z⟩, Y⟩, ⟨Z, Z⟩, ⟨Z, .inl ⟨Z, Z⟩, Y⟩, ⟨Z, .inl ⟨Z, Z⟩, Y⟩, ⟨Z, .inl ⟨Z, Z⟩, .inl ⟨Z, Z⟩, .inl ⟨Z, Z⟩, .inl ⟨Z, Z⟩, Y⟩, ⟨Z, .inl ⟨Z, Z⟩, Y⟩, ⟨Z, Z⟩, FrzB.vec, ⟨Z, .inl ⟨Z, Z⟩, .inl ⟨Z, Z⟩, .inl ⟨Z, Z⟩, .inl ⟨Z, Z⟩, Y⟩, trivial, Y⟩) ?_))))))))))))))))))
       refine AOps.u Z Z Z hb76 ?_; refine AOps.yieldB (E1 := [(17, .c (row 1 e7 ai24)), (16, .c (int t75)), (71, .c (row 1 e7 ai24)), (70, .c (int t75)), (5, .c (.ptr 1 0 0)), (8, .c (.ptr 2 0 0)), (9, .c (.ptr 3 0 0)), (10, .c (.ptr 4 0 0)), (11, .c (.ptr 6 0 0)), (12, .c (.ptr 8 0 0)), (13, .c (.ptr 9 0 0))]) (σ1 := [.one (.cells 4 [(tF Facts Init Goal Operators)]), .one (.cells 1 [[.fn 16 []]]), .one (.cells 1 [[.imm (.val nL)]]), .one (.cells 1 [[bool false]]), .one (.cells 1 [[bool false]]), .dead, .one (.cells 1 [[.own 13 0 c74.length]]), .one (mapB Value.string vI c73), .one (.cells 1 [[.map 7]]), .one (.cells 1 [[int c61]]), .one (.cells 4 [(tF Facts Init Goal Operators)]), .one (.cells 1 [[row 1 e7 a66.node]]), .one (k7 92 [70, 71] as68 bo68 .ready none [(5, none), (8, none), (9, none), (10, none), (11, none), (12, none), (13, none)] [.ptr 1 0 0, .ptr 2 0 0, .ptr 3 0 0, .ptr 4 0 0, .ptr 6 0 0, .ptr 8 0 0, .ptr 9 0 0]), .one (vec 3 f5 c74), .one (.cells 4 [[row 1 intI ai12.pre, row 1 intI ai12.add, row 1 intI ai12.del, int ai12.cost]]), .dead]) hA68 hB68 Z Z Z Z Z Z Z Z Z Z ?_ ?_
       ·refine AWP.g (.j (.q Z Z (.nil (b5 (.j (.q Z Z (.nil ?_)))))))
        exact ⟨Z, Z⟩
       refine AWP.sub (s' := ⟨[(5, .c (.ptr 1 0 0)), (8, .c (.ptr 2 0 0)), (9, .c (.ptr 3 0 0)), (10, .c (.ptr 4 0 0)), (11, .c (.ptr 6 0 0)), (12, .c (.ptr 8 0 0)), (13, .c (.ptr 9 0 0)), (16, .c (int t75)), (17, .c (row 1 e7 ai24))], [.one (.cells 4 [(tF Facts Init Goal Operators)]), .one (.cells 1 [[.fn 16 []]]), .one (.cells 1 [[.imm (.val nL)]]), .one (.cells 1 [[bool false]]), .one (.cells 1 [[bool false]]), .dead, .one (.cells 1 [[.own 13 0 c74.length]]), .one (mapB Value.string vI c73), .one (.cells 1 [[.map 7]]), .one (.cells 1 [[int c61]]), .one (.cells 4 [(tF Facts Init Goal Operators)]), .one (.cells 1 [[row 1 e7 a66.node]]), .one (k7 92 [70, 71] as68 bo68 .busy none [(5, none), (8, none), (9, none), (10, none), (11, none), (12, none), (13, none)] [.ptr 1 0 0, .ptr 2 0 0, .ptr 3 0 0, .ptr 4 0 0, .ptr 6 0 0, .ptr 8 0 0, .ptr 9 0 0]), .one (vec 3 f5 c74), .one (.cells 4 [[row 1 intI ai12.pre, row 1 intI ai12.add, row 1 intI ai12.del, int ai12.cost]]), .dead]⟩) (Sub.env ⟨Z, Z, Z, Z, Z, Z, Z, Z, Z, Y⟩) (.U (.g ?_))
       obtain ⟨ab74, hab74, h⟩ := b8 h
       refine AWP.j (.z Z Z Z Z Z Z (.e Z Z (.E Z Z Z Z (V1 hab74) Z (.q Z Z (.nil (b5 (.g (.g (.j (.z Z Z Z Z Z Z (.e Z Z (W.lookup (fk := Value.string) (fv := vI) (k := ab74) (z := 0) keyStr Z (fun _ => Z) Z Z Z Z ?_))))))))))))
       refine AOps.gtr Z Z Z (.nil (b5 (.ite Z h (fun hc77 h => ?_) (fun hc77 h => ?_))))
       ·refine AWP.exit (d6 (f9 (W9 Z Z (.u Z Z Z hb76 (.ab Z Z (.J Z hb76 Z Z (.nil (b5 (.condF Z (.skip (e6 (b5 (.j (.add Z Z Z (by omega) (.e Z Z (.nil ?_))))))))))))))))
        obtain rfl := oi h
        refine b5 ⟨_, Z, ?_⟩
        exact Sub.cut ⟨Z, Z, Z, Z, Z, Z, Y⟩ Z ⟨.one Z, .one Z, .one Z, .one Z, .one Z, .dead, .one Z, .one Z, .one Z, .one Z, .one Z, .one Z, .one Z, .vec, Y⟩ Z
       ·refine AWP.skip (b5 (.g (.g (.j (.z Z Z Z Z Z Z (S.lenO Z Z Z (fun hl80 => .aa Z Z Z (.nil (b5 (.ite Z h (fun hc78 h => ?_) (fun hc78 h => ?_)))))))))))
        ·refine AWP.g (.j (W.store Z Z Z Z Z (W.store Z Z Z Z Z (W.store Z Z Z Z Z (.nil (b5 (.ret (d4 (f8 (yPost_ret Z Z (.u Z Z Z hb76 (.ab Z Z (.J Z hb76 Z Z (.nil (b5 (.condT Z (.ret (f8 (d4 ?_)))))))))))))))))))
         obtain rfl := oi h
         refine d4 ⟨_, Z, Z, ?_⟩
         exact ⟨⟨[], [.one (.cells 4 [(tF Facts Init Goal Operators)]), .one (.cells 1 [[.fn 16 []]]), .one (.cells 1 [[.imm (.val nL)]]), .one (.cells 1 [[bool false]]), .one (.cells 1 [[bool false]]), .dead, .one (.cells 1 [[.own 13 0 c74.length]]), .one (mapB Value.string vI c73), .one (.cells 1 [[.map 7]]), .one (.cells 1 [[int c61]]), .one (.cells 4 [(tF Facts Init Goal Operators)]), .one (.cells 1 [[row 1 e7 a66.node]]), .one (k7 92 [70, 71] as68 bo68 .done (some .ret) [(5, none), (8, none), (9, none), (10, none), (11, none), (12, none), (13, none)] [.ptr 1 0 0, .ptr 2 0 0, .ptr 3 0 0, .ptr 4 0 0, .ptr 6 0 0, .ptr 8 0 0, .ptr 9 0 0]), .one (vec 3 f5 c74)]⟩, Sub.cut trivial Z ⟨.one Z, .one Z, .one Z, .one Z, .one Z, .dead, .one Z, .one Z, .one Z, .one Z, .one Z, .one Z, .one Z, .vec, Y⟩ Z, Done.ret Z (.inr ⟨_, Z, Z, Z⟩)⟩
        ·refine AWP.skip (b5 (.g (.j (.z Z Z Z Z Z Z (.e Z Z (W.mapUpdate (fk := Value.string) (fv := vI) (k := ab74) (a := 1) keyStr Z Z Z Z Z (.nil (b5 ?_))))))))
         obtain ⟨ab90, hab90, h⟩ := b8 h
         refine AWP.j (.z Z Z Z Z Z Z (.e Z Z (.z Z Z Z Z Z Z (.e Z Z (W.build Z Z Z Z (S.lit (f := f5) (l := [(⟨ai24, c61, t75⟩ : f4)]) (ess := [[row 1 e7 ai24, int c61, int t75]]) Z Z Z Z Z Z Z ⟨⟨.inl Z, .inl Z, .inl Z, Y⟩, Y⟩ Z Z Z (S.append (f := f5) hab90 Z Z Z Z Z Z (.own Z Z) Z Z Z Z (W.store Z Z Z Z Z (.nil (e6 (W9 Z Z (.u Z Z Z hb76 (.ab Z Z (.J Z hb76 Z Z (.nil (b5 (.e (env' := [(0, .c (.yld 12)), (1, .c (.ptr 10 0 0)), (2, .c (.ptr 11 0 0)), (7, .c (row 4 d8 Operators)), (8, .c (int (Operators.length : Int))), (9, .c (int t75)), (27, .c (bool false))]) (σ' := [.one (.cells 4 [(tF Facts Init Goal Operators)]), .one (.cells 1 [[.fn 16 []]]), .one (.cells 1 [[.imm (.val nL)]]), .one (.cells 1 [[bool false]]), .one (.cells 1 [[bool false]]), .dead, .one (.cells 1 [[.own 13 0 ab90.length]]), .one (mapB Value.string vI (mset c73 ab74 1)), .one (.cells 1 [[.map 7]]), .one (.cells 1 [[int c61]]), .one (.cells 4 [(tF Facts Init Goal Operators)]), .one (.cells 1 [[row 1 e7 a66.node]]), .one (k7 92 [70, 71] as68 bo68 .ready none [(5, none), (8, none), (9, none), (10, none), (11, none), (12, none), (13, none)] [.ptr 1 0 0, .ptr 2 0 0, .ptr 3 0 0, .ptr 4 0 0, .ptr 6 0 0, .ptr 8 0 0, .ptr 9 0 0]), .one (vec 3 f5 ab90), .one (.cells 4 [[row 1 intI ai12.pre, row 1 intI ai12.add, row 1 intI ai12.del, int ai12.cost]]), .dead, .one (vec 3 f5 [(⟨ai24, c61, t75⟩ : f4)])]) 13 17 Z Z Z ⟨Z, Z, Z, Z, Z, Z, Z, Y⟩ Z ⟨⟨Z, Z⟩, ⟨Z, Z⟩, ⟨Z, Z⟩, ⟨Z, Z⟩, ⟨Z, Z⟩, trivial, ⟨Z, Z⟩, ⟨Z, Z⟩, ⟨Z, Z⟩, ⟨Z, Z⟩, ⟨Z, Z⟩, ⟨Z, Z⟩, ⟨Z, Z⟩, ⟨Blk.im_ok _ _ _, j9 Z⟩, ⟨Z, Z⟩, trivial, ⟨Blk.im_ok _ _ _, j9 Z⟩, Y⟩ (.condF Z (.skip (e6 (b5 (.j (.add Z Z Z (by omega) (.e Z Z (.nil ?_)))))))))))))))))))))))))
         obtain rfl := oi h
         refine b5 ⟨_, Z, ?_⟩
         exact Sub.cut ⟨Z, Z, Z, Z, Z, Z, Y⟩ Z ⟨.one Z, .one Z, .one Z, .one Z, .one Z, .dead, .one Z, .one Z, .one Z, .one Z, .one Z, .one Z, .one Z, .vec, Y⟩ Z
      ·replace h := A7 hb76 h
       refine AWP.j (.z Z Z Z Z Z Z (W.fieldAddr Z Z Z Z (.z Z Z Z Z Z Z (.E Z Z Z Z (ab5 hai17) Z (.e Z Z (.v Z Z Z hb76 (.v Z Z Z hb76 (.v Z Z Z hb76 (.v Z Z Z hb76 (.v Z Z Z hb76 (.v Z Z Z hb76 (.v Z Z Z hb76 (.v Z Z Z hb76 (.O Z hb76 Z Z (.nil (b5 (.condF Z (.skip (e6 (b5 (.j (.add Z Z Z (by omega) (.e Z Z (.nil ?_))))))))))))))))))))))))
       obtain rfl := oi h
       refine b5 ⟨_, Z, ?_⟩
       exact Sub.cut ⟨Z, Z, Z, Z, Z, Z, Y⟩ Z ⟨.one Z, .one Z, .one Z, .one Z, .one Z, .dead, .one Z, .one Z, .one Z, .one Z, .one Z, .one Z, .one Z, .vec, Y⟩ Z
     ·intro e s hq
      rcases oo with ⟨c73, c74⟩ | x
      ·try dsimp only at hr68 hq
       obtain ⟨rfl, hs⟩ := hq
       refine ⟨_, hs, ?_⟩
       refine f9 ?_
       obtain rfl := oi hr68
       exact ⟨⟨[], [.one (.cells 4 [(tF Facts Init Goal Operators)]), .one (.cells 1 [[.fn 16 []]]), .one (.cells 1 [[.imm (.val nL)]]), .one (.cells 1 [[bool false]]), .one (.cells 1 [[bool false]]), .dead, .one (.cells 1 [[.own 13 0 c74.length]]), .one (mapB Value.string vI c73), .one (.cells 1 [[.map 7]]), .one (.cells 1 [[int c61]]), .one (.cells 4 [(tF Facts Init Goal Operators)]), .one (.cells 1 [[row 1 e7 a66.node]]), .one (k7 92 [70, 71] as68 bo68 .ready none [(5, none), (8, none), (9, none), (10, none), (11, none), (12, none), (13, none)] [.ptr 1 0 0, .ptr 2 0 0, .ptr 3 0 0, .ptr 4 0 0, .ptr 6 0 0, .ptr 8 0 0, .ptr 9 0 0]), .one (vec 3 f5 c74)]⟩, Sub.env trivial, Done.normal Z (.inl ⟨_, Z, Z, Z⟩)⟩
      ·try dsimp only at hr68 hq
       obtain ⟨rfl, hs⟩ := hq
       refine ⟨_, Sub.refl _ _, ?_⟩
       refine f8 ?_
       obtain rfl := oi hr68
       exact hs
    ·rintro tt ss (⟨⟨c69, c70⟩, rfl, rfl, rfl⟩ | ⟨⟨c71, c72⟩, rfl, rfl, rfl⟩)
     ·try dsimp only at h ⊢
      refine ae4 Z Z (e6 (e6 (b5 (.g (.g (.j (.z Z Z Z Z Z Z (.nil (b5 (.j (W.alloc Z Z Z Z (W.store Z Z Z Z Z (.nil (b5 (.j (.z Z Z Z Z Z Z (S.add Z Z Z (W.store Z Z Z Z Z (.nil ?_)))))))))))))))))))
      obtain rfl := oi h
      refine b5 ⟨_, Z, ?_⟩
      exact (Sub.move (env' := [(2, .c (.fn 42 [.ptr 0 0 0])), (3, .c (.fn 40 [])), (5, .c (.ptr 1 0 0)), (8, .c (.ptr 2 0 0)), (9, .c (.ptr 3 0 0)), (10, .c (.ptr 4 0 0)), (11, .c (.ptr 6 0 0)), (12, .c (.ptr 8 0 0)), (13, .c (.ptr 9 0 0))]) (σ' := [.one (.cells 4 [(tF Facts Init Goal Operators)]), .one (.cells 1 [[.fn 16 []]]), .one (.cells 1 [[.imm (.val nL)]]), .one (.cells 1 [[bool false]]), .one (.cells 1 [[bool false]]), .dead, .one (.cells 1 [[.own 13 0 c70.length]]), .one (mapB Value.string vI c69), .one (.cells 1 [[.map 7]]), .one (.cells 1 [[int (w64 (c61 + 1))]]), .one (.cells 4 [(tF Facts Init Goal Operators)]), .one (.cells 1 [[row 1 e7 a66.node]]), .dead, .one (vec 3 f5 c70)]) 9 14 Z Z Z ⟨Z, Z, Z, Z, Z, Z, Z, Z, Z, Y⟩ Z ⟨⟨Z, Z⟩, ⟨Z, Z⟩, ⟨Z, Z⟩, ⟨Z, Z⟩, ⟨Z, Z⟩, trivial, ⟨Z, Z⟩, ⟨Z, Z⟩, ⟨Z, Z⟩, ⟨Z, Z⟩, ⟨Z, Z⟩, ⟨Z, Z⟩, trivial, ⟨Blk.im_ok _ _ _, j9 Z⟩, Y⟩).trans ((Sub.move (env' := [(2, .c (.fn 42 [.ptr 0 0 0])), (3, .c (.fn 40 [])), (5, .c (.ptr 1 0 0)), (8, .c (.ptr 2 0 0)), (9, .c (.ptr 3 0 0)), (10, .c (.ptr 4 0 0)), (11, .c (.ptr 6 0 0)), (12, .c (.ptr 8 0 0)), (13, .c (.ptr 9 0 0))]) (σ' := [.one (.cells 4 [(tF Facts Init Goal Operators)]), .one (.cells 1 [[.fn 16 []]]), .one (.cells 1 [[.imm (.val nL)]]), .one (.cells 1 [[bool false]]), .one (.cells 1 [[bool false]]), .one (vec 3 f5 c70), .one (.cells 1 [[.own 5 0 c70.length]]), .one (mapB Value.string vI c69), .one (.cells 1 [[.map 7]]), .one (.cells 1 [[int (w64 (c61 + 1))]]), .one (.cells 4 [(tF Facts Init Goal Operators)]), .one (.cells 1 [[row 1 e7 a66.node]]), .dead]) 5 13 Z Z Z ⟨Z, Z, Z, Z, Z, Z, Z, Z, Z, Y⟩ Z ⟨⟨Z, Z⟩, ⟨Z, Z⟩, ⟨Z, Z⟩, ⟨Z, Z⟩, ⟨Z, Z⟩, ⟨Blk.im_ok _ _ _, j9 Z⟩, ⟨Z, Z⟩, ⟨Z, Z⟩, ⟨Z, Z⟩, ⟨Z, Z⟩, ⟨Z, Z⟩, ⟨Z, Z⟩, trivial, Y⟩).trans (Sub.cut ⟨Z, Z, Z, Z, Z, Z, Z, Z, Z, Y⟩ Z ⟨.one Z, .one Z, .one Z, .one Z, .one Z, .vec, .one Z, .one Z, .one Z, .one Z, Y⟩ Z))
     ·try dsimp only at h ⊢
      refine rPost_jump Z Z (.nilB (b := 2) [row 1 intI []] Z (by exact ⟨.inr ⟨Z, _, Z⟩, Y⟩) Z Z (.ret (f8 (f8 (d4 ?_)))))
      obtain rfl := oi h
      refine d4 ⟨_, Z, Z, ?_⟩
      exact ⟨⟨[(8, .c (.ptr 2 0 0)), (9, .c (.ptr 3 0 0)), (10, .c (.ptr 4 0 0))], [.one (.cells 4 [(tF Facts Init Goal Operators)]), .dead, .one (.cells 1 [[row 1 intI []]]), .one (.cells 1 [[bool false]]), .one (.cells 1 [[bool false]])]⟩, Sub.cut ⟨Z, Z, Z, Y⟩ Z ⟨.one Z, .dead, .one Z, .one Z, .one Z, Y⟩ Z, Done.ret Z ⟨Z, Z⟩⟩
  ·refine AWP.exit (d6 ?_)
   obtain rfl := oi h
   refine d6 ⟨_, Z, Z, ?_⟩
   exact Sub.cut ⟨Z, Z, Z, Y⟩ Z ⟨.one Z, .dead, .one Z, .one Z, .one Z, Y⟩ Z
 ·intro e s hq
  rcases oo with u | x
  ·try dsimp only at h hq
   obtain ⟨rfl, hs⟩ := hq
   refine ⟨_, hs, ?_⟩
   refine f9 (b5 (.g (.j (W.store Z Z Z Z Z (W.store Z Z Z Z Z (W.store Z Z Z Z Z (.nil (b5 (.nilB (b := 2) [row 1 intI []] Z (by exact ⟨.inr ⟨Z, _, Z⟩, Y⟩) Z Z (.ret ?_))))))))))
   obtain rfl := oi h
   exact ⟨⟨[(8, .c (.ptr 2 0 0)), (9, .c (.ptr 3 0 0)), (10, .c (.ptr 4 0 0))], [.one (.cells 4 [(tF Facts Init Goal Operators)]), .dead, .one (.cells 1 [[row 1 intI []]]), .one (.cells 1 [[bool false]]), .one (.cells 1 [[bool true]])]⟩, Sub.env ⟨Z, Z, Z, Y⟩, Done.ret Z ⟨Z, Z⟩⟩
  ·try dsimp only at h hq
   obtain ⟨rfl, hs⟩ := hq
   refine ⟨_, Sub.refl _ _, ?_⟩
   refine f8 (d4 ?_)
   obtain rfl := oi h
   exact hs
theorem ab8 {l : List (List Int)} {Facts : Int} {Init : List Int} {Goal : List Int} {Operators : List g7} {r : Bool} (h : B1 l Facts Init Goal Operators = some r) : FnOk prog 15 [.c (.own 0 0 l.length), .c (.fn 16 []), .c (.fn 42 [.ptr 1 0 0])] (ab9 l Facts Init Goal Operators) (fun tt ss => tt = .c (bool r) ∧ ss = [.dead, .one (.cells 4 [(tF Facts Init Goal Operators)])]) := by
 refine FnOk.enter (rs := [.t 6]) func15 Z ntmps15 results15 Z ⟨trivial, Y⟩ (by kernel_rfl) Z ?_
 refine AWP.weak ?_
 unfold B1 at h
 refine AWP.e (env' := [(0, .c (.own 2 0 l.length)), (1, .c (.fn 16 [])), (2, .c (.fn 42 [.ptr 1 0 0]))]) (σ' := [.dead, .one (.cells 4 [(tF Facts Init Goal Operators)]), .one (vec 1 e7 l)]) 2 0 Z Z Z ⟨Z, Z, Z, Y⟩ Z ⟨trivial, ⟨Z, Z⟩, ⟨Blk.im_ok _ _ _, j9 Z⟩, Y⟩ (.g (.j (.q Z Z (.nil (b5 (.g ?_))))))
 obtain ⟨a14, ha14, h⟩ := b8 h
 refine AWP.j (.e Z Z (.e Z Z (.e Z Z (.frzV (id := 2) (l := l) (env2 := [(11, .c (row 1 e7 l)), (12, .c (.fn 16 [])), (13, .c (.fn 42 [.ptr 1 0 0]))]) (σ2 := [.dead, .one (.cells 4 [(tF Facts Init Goal Operators)]), .dead]) Z Z (by exact ⟨⟨_, Z, .inr ⟨_, Z, Z, Z⟩⟩, ⟨_, Z, .inl ⟨Z, Z⟩⟩, ⟨_, Z, .inl ⟨Z, Z⟩⟩, Y⟩) Z (by exact ⟨trivial, ⟨Z, .inl ⟨Z, Z⟩, .inl ⟨Z, Z⟩, .inl ⟨Z, Z⟩, .inl ⟨Z, Z⟩, Y⟩, trivial, Y⟩) (.callF (r2 := .tup [.c (row 1 intI a14.1), .c (bool a14.2.1), .c (bool a14.2.2)]) (σ'' := [.dead, .one (.cells 4 [(tF Facts Init Goal Operators)]), .dead, .dead, .one (.cells 1 [[row 1 intI a14.1]]), .one (.cells 1 [[bool a14.2.1]]), .one (.cells 1 [[bool a14.2.2]])]) Z Z Z (FnOk.lend [1] (Y2 ha14) Z Z Z Z Z Z (by exact ⟨(.one Z), Y⟩) Z (by exact ⟨(.live Z (.one Z)), Y⟩) Z Z (by exact ⟨.dead, (.new 0 Z Z (.one Z)), .dead, .dead, (.new 2 Z Z (.one Z)), (.new 3 Z Z (.one Z)), (.new 4 Z Z (.one Z)), Y⟩)) (.e Z Z (.ah Z Z Z (.ah Z Z Z (.ah Z Z Z (.q Z Z (.q Z Z (.q Z Z (.nil (b5 (.g (.j (.e Z Z (.q Z Z (.nil (b5 (.ret ?_)))))))))))))))))))))
 obtain rfl := oi h
 exact ⟨⟨[(6, .c (bool a14.2.2))], [.dead, .one (.cells 4 [(tF Facts Init Goal Operators)])]⟩, Sub.cut ⟨Z, Y⟩ Z ⟨.dead, .one Z, Y⟩ Z, Done.ret Z ⟨Z, Z⟩⟩
theorem w9 {nv : d3} {t : d5} {plan : List Int} {l : List d3} {l5 : List (List Int)} {l6 : List (ByteArray × Int)} {r : (List (ByteArray × Int)) × (List d3) × (List (List Int))} (h : k6 nv t plan l l5 l6 = some r) : FnOk prog 18 [.c (.ptr 0 0 0), .agg (nN nv)] (K2 nv t plan l l5 l6) (fun tt ss => tt = .tup [] ∧ ss = [.one (.cells 8 [[int t.facts, row 1 intI t.init, row 1 intI t.goal, row 4 d8 t.operators, row 1 intI plan, .own 4 0 r.2.1.length, .own 5 0 r.2.2.length, .map 3]]), .dead, .dead, .one (mapB Value.string vI r.1), .one (vec 5 d7 r.2.1), mat (5, []) 1 intI r.2.2]) := by
 refine FnOk.enter (rs := []) func18 Z ntmps18 results18 Z trivial (by kernel_rfl) Z ?_
 refine AWP.weak ?_
 unfold k6 at h
 refine AWP.e (env' := [(0, .c (.ptr 0 0 0)), (1, .agg (nN nv))]) (σ' := [.one (.cells 8 [[int t.facts, row 1 intI t.init, row 1 intI t.goal, row 4 d8 t.operators, row 1 intI plan, .own 4 0 l.length, .own 2 0 l5.length, .map 3]]), .dead, mat (2, []) 1 intI l5, .one (mapB Value.string vI l6), .one (vec 5 d7 l)]) 4 1 Z Z Z ⟨Z, Z, Y⟩ Z ⟨⟨Z, Z⟩, trivial, .mat Z Z Z, ⟨Z, Z⟩, ⟨Blk.im_ok _ _ _, j9 Z⟩, Y⟩ (.moveM (env' := [(0, .c (.ptr 0 0 0)), (1, .agg (nN nv))]) (σ' := [.one (.cells 8 [[int t.facts, row 1 intI t.init, row 1 intI t.goal, row 4 d8 t.operators, row 1 intI plan, .own 4 0 l.length, .own 5 0 l5.length, .map 3]]), .dead, .dead, .one (mapB Value.string vI l6), .one (vec 5 d7 l), mat (5, []) 1 intI l5]) 5 2 Z Z Z ⟨Z, Z, Y⟩ Z ⟨(.one Z Z), .dead, .dead, (.one Z Z), (.vec Z), (.mat Z Z Z), Y⟩ (.g (.j (W.box Z Z Z Z Z Z (.nil (b5 (.g ?_)))))))
 obtain ⟨a13, ha13, h⟩ := b8 h
 refine AWP.j (W.fieldAddr Z Z Z Z (.z Z Z Z Z Z Z (W.fieldAddr Z Z Z Z (.z Z Z Z Z Z Z (S.lit (f := intI) (l := [nv.fat]) (ess := [[int nv.fat]]) Z Z Z Z Z Z Z ⟨⟨.inl Z, Y⟩, Y⟩ Z Z Z (.frzV (id := 7) (l := [nv.fat]) (env2 := [(0, .c (.ptr 0 0 0)), (3, .c (.ptr 6 0 0)), (8, .c (row 1 intI nv.fs)), (11, .c (row 1 intI [nv.fat]))]) (σ2 := [.one (.cells 8 [[int t.facts, row 1 intI t.init, row 1 intI t.goal, row 4 d8 t.operators, row 1 intI plan, .own 4 0 l.length, .own 5 0 l5.length, .map 3]]), .dead, .dead, .one (mapB Value.string vI l6), .one (vec 5 d7 l), mat (5, []) 1 intI l5, .one (.cells 5 [(nN nv)]), .dead]) Z Z (by exact ⟨⟨_, Z, .inl ⟨Z, Z⟩⟩, ⟨_, Z, .inl ⟨Z, Z⟩⟩, ⟨_, Z, .inl ⟨Z, Z⟩⟩, ⟨_, Z, .inr ⟨_, Z, Z, Z⟩⟩, Y⟩) Z (by exact ⟨⟨Z, .inl ⟨Z, Z⟩, .inl ⟨Z, Z⟩, .inl ⟨Z, Z⟩, .inl ⟨Z, Z⟩, .inl ⟨Z, Z⟩, .inl ⟨Z, Z⟩, .inl ⟨Z, Z⟩, .inl ⟨Z, Z⟩, Y⟩, trivial, trivial, ⟨Z, Z⟩, FrzB.vec, (FrzB.mat Z), ⟨Z, .inl ⟨Z, Z⟩, .inl ⟨Z, Z⟩, .inl ⟨Z, Z⟩, .inl ⟨Z, Z⟩, .inl ⟨Z, Z⟩, Y⟩, trivial, Y⟩) (S.lit (f := e7) (l := [nv.fs, [nv.fat]]) (ess := [[row 1 intI nv.fs], [row 1 intI [nv.fat]]]) Z Z Z Z Z Z Z ⟨⟨.inl Z, Y⟩, ⟨.inl Z, Y⟩, Y⟩ Z Z Z (.callL Z Z (.cons (.c (.own Z Z)) .nil) Z (V1 ha13) Z (.q Z Z (.nil (b5 (.g (.g (.j (.e Z Z (.ai Z Z Z (W.fieldAddr Z Z Z Z (.z Z Z Z Z Z Z (.e Z Z (W.lookupOk (fk := Value.string) (fv := vI) (k := a13) (z := 0) keyStr Z (fun _ => Z) Z Z Z Z ?_))))))))))))))))))))
 refine AOps.e Z Z (.ah Z Z Z (.ah Z Z Z (.q Z Z (.q Z Z (.nil (b5 (.seqJ (⟨[(0, .c (.ptr 0 0 0)), (3, .c (.ptr 6 0 0)), (4, .c (.imm (.val (.string a13)))), (29, .c (bool ((Option.isSome (mget l6 a13)) && (decide (Option.getD (mget l6 a13) 0 ≤ nv.change)))))], [.one (.cells 8 [[int t.facts, row 1 intI t.init, row 1 intI t.goal, row 4 d8 t.operators, row 1 intI plan, .own 4 0 l.length, .own 5 0 l5.length, .map 3]]), .dead, .dead, .one (mapB Value.string vI l6), .one (vec 5 d7 l), mat (5, []) 1 intI l5, .one (.cells 5 [(nN nv)]), .dead, .one (vec 1 e7 ([nv.fs, [nv.fat]]))]⟩) ?_ ?_)))))))
 ·rcases bft (Option.isSome (mget l6 a13)) with hb1 | hb1
  ·refine AWP.j (.e Z Z (.e Z Z (.u Z Z Z hb1 (.e Z Z (.u Z Z Z hb1 (W.fieldAddr Z Z Z Z (.u Z Z Z hb1 (.z Z Z Z Z Z Z (.u Z Z Z hb1 (.leq Z Z Z (.J Z hb1 Z Z (.nil (b5 ?_)))))))))))))
   simp only [and_t hb1, or_t hb1, Bool.false_or, Bool.true_or, Bool.false_and, Bool.true_and]
   exact Sub.env ⟨Z, Z, Z, Z, Y⟩
  ·refine AWP.j (.e Z Z (.e Z Z (.v Z Z Z hb1 (.v Z Z Z hb1 (.v Z Z Z hb1 (.v Z Z Z hb1 (.O Z hb1 Z Z (.nil (b5 ?_)))))))))
   simp only [and_f hb1, or_f hb1, Bool.false_or, Bool.true_or, Bool.false_and, Bool.true_and]
   exact Sub.env ⟨Z, Z, Z, Z, Y⟩
 ·refine AWP.ag Z h (fun hc60 h => ?_) (fun hc60 h => ?_)
  ·refine AWP.ret (d4 ?_)
   obtain rfl := oi h
   exact ⟨⟨[], [.one (.cells 8 [[int t.facts, row 1 intI t.init, row 1 intI t.goal, row 4 d8 t.operators, row 1 intI plan, .own 4 0 l.length, .own 5 0 l5.length, .map 3]]), .dead, .dead, .one (mapB Value.string vI l6), .one (vec 5 d7 l), mat (5, []) 1 intI l5]⟩, Sub.cut trivial Z ⟨.one Z, .dead, .dead, .one Z, .vec, .mat Z, Y⟩ Z, Done.ret Z ⟨Z, Z⟩⟩
  ·refine AWP.skip (b5 (.g (.drawEI [7] mixed Z Z Z ?_)))
   refine e8.consN Z Z (fun E => AOps.e Z Z .N) Z (.consN Z Z (fun E => AOps.ai Z Z Z .N) Z (.consN Z Z (fun E => W.fieldAddr Z Z Z Z .N) Z (.consN Z Z (fun E => AOps.z Z Z Z Z Z Z .N) Z (.consN Z Z (fun E => AOps.e Z Z .N) Z (.consN Z Z (fun E => W.fieldAddr Z Z Z Z .N) Z (.consN Z Z (fun E => AOps.z Z Z Z Z Z Z .N) Z ?_))))))
   apply e8.consE (v := .undef); exact Z; exact Z; intro E
   refine W.mapUpdate (fk := Value.string) (fv := vI) (k := a13) (a := nv.change) keyStr Z Z Z Z Z .N
   exact Z
   exact Z
   refine e8.done Z ?_ ?_
   ·refine b9.cons Z Z ?_ ?_
    refine b7.go Z Z (fun E => AOps.e Z Z .N) ?_
    refine b7.skip Z (b7.nil)
    refine b9.cons Z Z ?_ ?_
    refine b7.go Z Z (fun E => AOps.ai Z Z Z .N) ?_
    refine b7.skip Z (b7.nil)
    refine b9.cons Z Z ?_ ?_
    refine b7.go Z Z (fun E => W.fieldAddr Z Z Z Z .N) ?_
    refine b7.skip Z (b7.nil)
    refine b9.cons Z Z ?_ ?_
    refine b7.go Z Z (fun E => AOps.z Z Z Z Z Z Z .N) ?_
    refine b7.skip Z (b7.nil)
    refine b9.cons Z Z ?_ ?_
    refine b7.go Z Z (fun E => AOps.e Z Z .N) ?_
    refine b7.skip Z (b7.nil)
    refine b9.cons Z Z ?_ ?_
    refine b7.go Z Z (fun E => W.fieldAddr Z Z Z Z .N) ?_
    refine b7.skip Z (b7.nil)
    refine b9.cons Z Z ?_ ?_
    refine b7.go Z Z (fun E => AOps.z Z Z Z Z Z Z .N) ?_
    refine b7.skip Z (b7.nil)
    refine b9.skip Z (b9.nil)
   dsimp only [i4]
   refine b5 (.g ?_)
   obtain ⟨a44, ha44, h⟩ := b8 h
   refine AWP.drawEI [6, 7, 10] mixed Z Z Z ?_
   refine e8.consN Z Z (fun E => AOps.e Z Z .N) Z (.consN Z Z (fun E => AOps.e Z Z .N) Z (.consN Z Z (fun E => AOps.ai Z Z Z .N) Z (.consN Z Z (fun E => W.fieldAddr Z Z Z Z .N) Z (.consN Z Z (fun E => AOps.z Z Z Z Z Z Z .N) Z (.consN Z Z (fun E => W.loadAgg Z Z Z Z Z Z Z .N) Z ?_)))))
   apply e8.consE; exact Z; exact Z; intro E
   refine S.lit (f := d7) (l := [nv]) (ess := [(nN nv)]) Z Z Z Z Z Z Z ⟨⟨.inl Z, .inl Z, .inl Z, .inl Z, .inl Z, Y⟩, Y⟩ Z Z Z .N
   exact Z
   exact Z
   apply e8.consE; exact Z; exact Z; intro E
   refine S.append (f := d7) ha44 Z Z Z Z Z Z (.own Z Z) Z Z Z Z .N
   exact Z
   exact Z
   refine e8.consN Z Z (fun E => AOps.ai Z Z Z .N) Z (.consN Z Z (fun E => W.fieldAddr Z Z Z Z .N) Z ?_)
   apply e8.consE (v := .undef); exact Z; exact Z; intro E
   refine W.store Z Z Z Z Z .N
   exact Z
   exact Z
   refine e8.done Z ?_ ?_
   ·refine b9.cons Z Z ?_ ?_
    refine b7.go Z Z (fun E => AOps.e Z Z .N) ?_
    refine b7.go Z Z (fun E => AOps.e Z Z .N) ?_
    refine b7.go Z Z (fun E => AOps.e Z Z .N) ?_
    refine b7.skip Z (b7.nil)
    refine b9.cons Z Z ?_ ?_
    refine b7.go Z Z (fun E => AOps.e Z Z .N) ?_
    refine b7.go Z Z (fun E => AOps.e Z Z .N) ?_
    refine b7.skip Z (b7.skip Z (b7.nil))
    refine b9.cons Z Z ?_ ?_
    refine b7.go Z Z (fun E => AOps.ai Z Z Z .N) ?_
    refine b7.go Z Z (fun E => AOps.ai Z Z Z .N) ?_
    refine b7.skip Z (b7.skip Z (b7.nil))
    refine b9.cons Z Z ?_ ?_
    refine b7.go Z Z (fun E => W.fieldAddr Z Z Z Z .N) ?_
    refine b7.go Z Z (fun E => W.fieldAddr Z Z Z Z .N) ?_
    refine b7.skip Z (b7.skip Z (b7.nil))
    refine b9.cons Z Z ?_ ?_
    refine b7.go Z Z (fun E => AOps.z Z Z Z Z Z Z .N) ?_
    refine b7.go Z Z (fun E => AOps.z Z Z Z Z Z Z .N) ?_
    refine b7.skip Z (b7.skip Z (b7.nil))
    refine b9.cons Z Z ?_ ?_
    refine b7.go Z Z (fun E => W.loadAgg Z Z Z Z Z Z Z .N) ?_
    refine b7.skip Z (b7.skip Z (b7.skip Z (b7.nil)))
    refine b9.skip Z (b9.skip Z ?_)
    refine b9.cons Z Z ?_ ?_
    refine b7.skip Z (b7.skip Z ?_)
    refine b7.go Z Z (fun E => AOps.ai Z Z Z .N) ?_
    refine b7.skip Z (b7.nil)
    refine b9.cons Z Z ?_ ?_
    refine b7.skip Z (b7.skip Z ?_)
    refine b7.go Z Z (fun E => W.fieldAddr Z Z Z Z .N) ?_
    refine b7.skip Z (b7.nil)
    refine b9.skip Z (b9.nil)
   dsimp only [i4]
   refine b5 (.g (.U (.e (env' := [(0, .c (.ptr 0 0 0)), (3, .c (.ptr 6 0 0))]) (σ' := [.one (.cells 8 [[int t.facts, row 1 intI t.init, row 1 intI t.goal, row 4 d8 t.operators, row 1 intI plan, .own 4 0 a44.length, .own 5 0 l5.length, .map 3]]), .dead, .dead, .one (mapB Value.string vI (mset l6 a13 nv.change)), .one (vec 5 d7 a44), mat (5, []) 1 intI l5, .one (.cells 5 [(nN nv)]), .dead, .one (vec 1 e7 ([nv.fs, [nv.fat]])), .one (vec 5 d7 [nv])]) 4 10 Z Z Z ⟨Z, Z, Y⟩ Z ⟨⟨Z, Z⟩, trivial, trivial, ⟨Z, Z⟩, ⟨Blk.im_ok _ _ _, j9 Z⟩, .mat Z Z Z, ⟨Z, Z⟩, trivial, ⟨Blk.im_ok _ _ _, j9 Z⟩, ⟨Blk.im_ok _ _ _, j9 Z⟩, Y⟩ ?_)))
   obtain ⟨c62, ho1, h⟩ := b8 h
   refine AWP.loopS ho1 (fun c61 => ⟨[(0, .c (.ptr 0 0 0)), (3, .c (.ptr 6 0 0))], [.one (.cells 8 [[int t.facts, row 1 intI t.init, row 1 intI t.goal, row 4 d8 t.operators, row 1 intI plan, .own 4 0 a44.length, .own 5 0 c61.length, .map 3]]), .dead, .dead, .one (mapB Value.string vI (mset l6 a13 nv.change)), .one (vec 5 d7 a44), mat (5, []) 1 intI c61, .one (.cells 5 [(nN nv)])]⟩) (fun c62 e st => e = .exit 0 ∧ Sub (K2 nv t plan l l5 l6) st ⟨[(0, .c (.ptr 0 0 0)), (3, .c (.ptr 6 0 0))], [.one (.cells 8 [[int t.facts, row 1 intI t.init, row 1 intI t.goal, row 4 d8 t.operators, row 1 intI plan, .own 4 0 a44.length, .own 5 0 c62.length, .map 3]]), .dead, .dead, .one (mapB Value.string vI (mset l6 a13 nv.change)), .one (vec 5 d7 a44), mat (5, []) 1 intI c62, .one (.cells 5 [(nN nv)])]⟩) ?_ ?_ ?_
   ·try dsimp only
    exact Sub.cut ⟨Z, Z, Y⟩ Z ⟨.one Z, .dead, .dead, .one Z, .vec, .mat Z, .one Z, Y⟩ Z
   ·intro c61 o h
    unfold s4 at h
    try dsimp only at h ⊢
    refine AWP.g (.g (.drawI mixed Z ?_))
    refine f7.consF Z (fun E => AOps.e Z Z .N) Z (.consF Z (fun E => AOps.ai Z Z Z .N) Z (.consF Z (fun E => W.fieldAddr Z Z Z Z .N) Z (.consF Z (fun E => AOps.z Z Z Z Z Z Z .N) Z (.consF Z (fun E => S.lenM Z Z Z (fun hl51 => .nil ⟨Z, Z⟩)) Z (.consF Z (fun E => W.fieldAddr Z Z Z Z .N) Z (.consF Z (fun E => AOps.z Z Z Z Z Z Z .N) Z (.consF Z (fun E => AOps.leq Z Z Z .N) Z ?_)))))))
    refine f7.done ?_
    dsimp only [i4]
    refine b5 (.ite Z h (fun hc63 h => ?_) (fun hc63 h => ?_))
    ·refine AWP.skip (b5 (.U ?_))
     obtain ⟨a61, ha61, h⟩ := b8 h
     refine AWP.j (.e Z Z (.e Z Z (.ai Z Z Z (W.fieldAddr Z Z Z Z (.z Z Z Z Z Z Z (W.lit1 Z Z Z Z Z Z Z Z Z (S.appendM (k := 1) (f := intI) ha61 Z Z Z Z Z Z Z Z Z Z Z Z (.ai Z Z Z (W.fieldAddr Z Z Z Z (W.store Z Z Z Z Z (.nil (e6 ?_))))))))))))
     obtain rfl := oi h
     refine b5 ⟨_, Z, ?_⟩
     exact (Sub.moveM (env' := [(0, .c (.ptr 0 0 0)), (3, .c (.ptr 6 0 0))]) (σ' := [.one (.cells 8 [[int t.facts, row 1 intI t.init, row 1 intI t.goal, row 4 d8 t.operators, row 1 intI plan, .own 4 0 a44.length, .own 5 0 a61.length, .map 3]]), .dead, .dead, .one (mapB Value.string vI (mset l6 a13 nv.change)), .one (vec 5 d7 a44), mat (5, []) 1 intI a61, .one (.cells 5 [(nN nv)]), .one (.cells 1 [[.imm (.val nL)]])]) 5 8 Z Z Z ⟨Z, Z, Y⟩ Z ⟨(.one Z Z), .dead, .dead, (.one Z Z), (.vec Z), (.mat Z Z Z), (.one Z Z), (.one Z Z), Y⟩).trans (Sub.cut ⟨Z, Z, Y⟩ Z ⟨.one Z, .dead, .dead, .one Z, .vec, .mat Z, .one Z, Y⟩ Z)
    ·refine AWP.exit (d6 ?_)
     obtain rfl := oi h
     refine d6 ⟨_, Z, Z, ?_⟩
     exact Sub.env ⟨Z, Z, Y⟩
   ·intro e s hq
    obtain ⟨rfl, hs⟩ := hq
    refine ⟨_, hs, ?_⟩
    refine f9 (b5 ?_)
    obtain ⟨a76, ha76, a85, ha85, a86, ha86, h⟩ := b3 h
    refine AWP.drawEI [20, 21, 23] mixed Z Z Z ?_
    refine e8.consN Z Z (fun E => AOps.e Z Z .N) Z (.consN Z Z (fun E => AOps.ai Z Z Z .N) Z (.consN Z Z (fun E => W.fieldAddr Z Z Z Z .N) Z (.consN Z Z (fun E => AOps.z Z Z Z Z Z Z .N) Z (.consN Z Z (fun E => W.fieldAddr Z Z Z Z .N) Z (.consN Z Z (fun E => AOps.z Z Z Z Z Z Z .N) Z (.consN Z Z (fun E => AOps.e Z Z .N) Z (.consN Z Z (fun E => AOps.ai Z Z Z .N) Z (.consN Z Z (fun E => W.fieldAddr Z Z Z Z .N) Z (.consN Z Z (fun E => AOps.z Z Z Z Z Z Z .N) Z (.consN Z Z (fun E => W.fieldAddr Z Z Z Z .N) Z (.consN Z Z (fun E => AOps.z Z Z Z Z Z Z .N) Z (.consN Z Z (fun E => S.idxH ha76 Z Z Z (by simp) Z Z .N) Z (.consN Z Z (fun E => S.loadM ha76 Z Z Z Z .N) Z (.consN Z Z (fun E => AOps.e Z Z .N) Z (.consN Z Z (fun E => AOps.ai Z Z Z .N) Z (.consN Z Z (fun E => W.fieldAddr Z Z Z Z .N) Z (.consN Z Z (fun E => AOps.z Z Z Z Z Z Z .N) Z (.consN Z Z (fun E => S.lenO Z Z Z (fun hl82 => .nil ⟨Z, Z⟩)) Z (.consN Z Z (fun E => S.sub Z Z Z .N) Z ?_)))))))))))))))))))
    apply e8.consE; exact Z; exact Z; intro E
    refine S.lit (f := intI) (l := [w64 ((a44.length : Int) - 1)]) (ess := [[int (w64 ((a44.length : Int) - 1))]]) Z Z Z Z Z Z Z ⟨⟨.inl Z, Y⟩, Y⟩ Z Z Z .N
    exact Z
    exact Z
    apply e8.consE; exact Z; exact Z; intro E
    refine S.appendR (f := intI) ha85 (s3 ha76).2 Z Z Z Z Z Z (.own Z Z) Z Z Z Z .N
    exact Z
    exact Z
    refine e8.consN Z Z (fun E => S.idxH ha86 Z Z Z (by simp) Z Z .N) Z ?_
    apply e8.consE (v := .undef); exact Z; exact Z; intro E
    refine S.storeHD (s3 ha86).2 Z Z Z Z .N
    exact Z
    exact Z
    refine e8.done Z ?_ ?_
    ·refine b9.cons Z Z ?_ ?_
     refine b7.go Z Z (fun E => AOps.e Z Z .N) ?_
     refine b7.go Z Z (fun E => AOps.e Z Z .N) ?_
     refine b7.go Z Z (fun E => AOps.e Z Z .N) ?_
     refine b7.skip Z (b7.nil)
     refine b9.cons Z Z ?_ ?_
     refine b7.go Z Z (fun E => AOps.ai Z Z Z .N) ?_
     refine b7.go Z Z (fun E => AOps.ai Z Z Z .N) ?_
     refine b7.go Z Z (fun E => AOps.ai Z Z Z .N) ?_
     refine b7.skip Z (b7.nil)
     refine b9.cons Z Z ?_ ?_
     refine b7.go Z Z (fun E => W.fieldAddr Z Z Z Z .N) ?_
     refine b7.go Z Z (fun E => W.fieldAddr Z Z Z Z .N) ?_
     refine b7.go Z Z (fun E => W.fieldAddr Z Z Z Z .N) ?_
     refine b7.skip Z (b7.nil)
     refine b9.cons Z Z ?_ ?_
     refine b7.go Z Z (fun E => AOps.z Z Z Z Z Z Z .N) ?_
     refine b7.go Z Z (fun E => AOps.z Z Z Z Z Z Z .N) ?_
     refine b7.go Z Z (fun E => AOps.z Z Z Z Z Z Z .N) ?_
     refine b7.skip Z (b7.nil)
     refine b9.cons Z Z ?_ ?_
     refine b7.go Z Z (fun E => W.fieldAddr Z Z Z Z .N) ?_
     refine b7.go Z Z (fun E => W.fieldAddr Z Z Z Z .N) ?_
     refine b7.go Z Z (fun E => W.fieldAddr Z Z Z Z .N) ?_
     refine b7.skip Z (b7.nil)
     refine b9.cons Z Z ?_ ?_
     refine b7.go Z Z (fun E => AOps.z Z Z Z Z Z Z .N) ?_
     refine b7.go Z Z (fun E => AOps.z Z Z Z Z Z Z .N) ?_
     refine b7.go Z Z (fun E => AOps.z Z Z Z Z Z Z .N) ?_
     refine b7.skip Z (b7.nil)
     refine b9.cons Z Z ?_ ?_
     refine b7.go Z Z (fun E => AOps.e Z Z .N) ?_
     refine b7.go Z Z (fun E => AOps.e Z Z .N) ?_
     refine b7.skip Z (b7.skip Z (b7.nil))
     refine b9.cons Z Z ?_ ?_
     refine b7.go Z Z (fun E => AOps.ai Z Z Z .N) ?_
     refine b7.go Z Z (fun E => AOps.ai Z Z Z .N) ?_
     refine b7.skip Z (b7.skip Z (b7.nil))
     refine b9.cons Z Z ?_ ?_
     refine b7.go Z Z (fun E => W.fieldAddr Z Z Z Z .N) ?_
     refine b7.go Z Z (fun E => W.fieldAddr Z Z Z Z .N) ?_
     refine b7.skip Z (b7.skip Z (b7.nil))
     refine b9.cons Z Z ?_ ?_
     refine b7.go Z Z (fun E => AOps.z Z Z Z Z Z Z .N) ?_
     refine b7.go Z Z (fun E => AOps.z Z Z Z Z Z Z .N) ?_
     refine b7.skip Z (b7.skip Z (b7.nil))
     refine b9.cons Z Z ?_ ?_
     refine b7.go Z Z (fun E => W.fieldAddr Z Z Z Z .N) ?_
     refine b7.go Z Z (fun E => W.fieldAddr Z Z Z Z .N) ?_
     refine b7.skip Z (b7.skip Z (b7.nil))
     refine b9.cons Z Z ?_ ?_
     refine b7.go Z Z (fun E => AOps.z Z Z Z Z Z Z .N) ?_
     refine b7.go Z Z (fun E => AOps.z Z Z Z Z Z Z .N) ?_
     refine b7.skip Z (b7.skip Z (b7.nil))
     refine b9.cons Z Z ?_ ?_
     refine b7.go Z Z (fun E => S.idxH ha76 Z Z Z (by simp) Z Z .N) ?_
     refine b7.go Z Z (fun E => S.idxH ha76 Z Z Z (by simp) Z Z .N) ?_
     refine b7.skip Z (b7.skip Z (b7.nil))
     refine b9.cons Z Z ?_ ?_
     refine b7.go Z Z (fun E => S.loadM ha76 Z Z Z Z .N) ?_
     refine b7.go Z Z (fun E => S.loadM ha76 Z Z Z Z .N) ?_
     refine b7.skip Z (b7.skip Z (b7.nil))
     refine b9.cons Z Z ?_ ?_
     refine b7.go Z Z (fun E => AOps.e Z Z .N) ?_
     refine b7.skip Z (b7.skip Z (b7.skip Z (b7.nil)))
     refine b9.cons Z Z ?_ ?_
     refine b7.go Z Z (fun E => AOps.ai Z Z Z .N) ?_
     refine b7.skip Z (b7.skip Z (b7.skip Z (b7.nil)))
     refine b9.cons Z Z ?_ ?_
     refine b7.go Z Z (fun E => W.fieldAddr Z Z Z Z .N) ?_
     refine b7.skip Z (b7.skip Z (b7.skip Z (b7.nil)))
     refine b9.cons Z Z ?_ ?_
     refine b7.go Z Z (fun E => AOps.z Z Z Z Z Z Z .N) ?_
     refine b7.skip Z (b7.skip Z (b7.skip Z (b7.nil)))
     refine b9.cons Z Z ?_ ?_
     apply b7.go; exact Z; exact Z; intro E; refine S.lenO Z Z Z (fun hl82 => ?_); exact AOps.nil ⟨Z, Z⟩
     refine b7.skip Z (b7.skip Z (b7.skip Z (b7.nil)))
     refine b9.cons Z Z ?_ ?_
     refine b7.go Z Z (fun E => S.sub Z Z Z .N) ?_
     refine b7.skip Z (b7.skip Z (b7.skip Z (b7.nil)))
     refine b9.skip Z (b9.skip Z ?_)
     refine b9.cons Z Z ?_ ?_
     refine b7.skip Z (b7.skip Z ?_)
     refine b7.go Z Z (fun E => S.idxH ha86 Z Z Z (by simp) Z Z .N) ?_
     refine b7.skip Z (b7.nil)
     refine b9.skip Z (b9.nil)
    dsimp only [i4]
    obtain rfl := oi h
    exact ⟨⟨[], [.one (.cells 8 [[int t.facts, row 1 intI t.init, row 1 intI t.goal, row 4 d8 t.operators, row 1 intI plan, .own 4 0 a44.length, .own 5 0 ((c62.set nv.change.toNat a85).length), .map 3]]), .dead, .dead, .one (mapB Value.string vI (mset l6 a13 nv.change)), .one (vec 5 d7 a44), mat (5, []) 1 intI (c62.set nv.change.toNat a85)]⟩, (Sub.moveR (k := 1) (f := intI) (M := c62) (env' := []) (σ' := [.one (.cells 8 [[int t.facts, row 1 intI t.init, row 1 intI t.goal, row 4 d8 t.operators, row 1 intI plan, .own 4 0 a44.length, .own 5 0 c62.length, .map 3]]), .dead, .dead, .one (mapB Value.string vI (mset l6 a13 nv.change)), .one (vec 5 d7 a44), mat (5, []) 1 intI (c62.set nv.change.toNat a85), .one (.cells 5 [(nN nv)]), .one (vec 1 intI [w64 ((a44.length : Int) - 1)])]) (r := 5) (s := 8) (p := nv.change.toNat) (matSD_at Z) (s3 ha86).2 Z Z Z Z Z (.inl Z) (OthL.all ⟨.one Z Z, .dead, .dead, .one Z Z, .vec, .self, .one Z Z, .vec, Y⟩) trivial Z Z).trans (Sub.cut trivial Z ⟨(.eq Z (by first | rfl | (simp only [List.length_set]; done))), .dead, .dead, .one Z, .vec, .mat Z, Y⟩ Z), Done.normal Z ⟨Z, Z⟩⟩
theorem U7 {iv : Int} {t : d5} {plan : List Int} {l : List d3} {l5 : List (List Int)} {l6 : List (ByteArray × Int)} {r : (List Int)} (h : u6 iv t plan l l5 l6 = some r) : FnOk prog 20 [.c (.ptr 0 0 0), .c (int iv)] (I5 iv t plan l l5 l6) (fun tt ss => tt = .c (row 1 intI r) ∧ ss = [.one (.cells 8 [[int t.facts, row 1 intI t.init, row 1 intI t.goal, row 4 d8 t.operators, row 1 intI plan, .own 1 0 l.length, .own 2 0 l5.length, .map 3]]), .one (vec 5 d7 l), mat (2, []) 1 intI l5, .one (mapB Value.string vI l6)]) := by
 refine FnOk.enter (rs := [.t 4]) func20 Z ntmps20 results20 Z ⟨trivial, Y⟩ (by kernel_rfl) Z ?_
 refine AWP.weak ?_
 unfold u6 at h
 refine AWP.g (.j (.q Z Z (.nil (b5 (.g (.j (.q Z Z (.nil (b5 (.g (.U (.virtV 1 intI 5 Z Z Z ?_))))))))))))
 obtain ⟨c60, ho1, h⟩ := b8 h
 refine AWP.loopS ho1 (fun (c58, iv59) => ⟨[(0, .c (.ptr 0 0 0)), (1, .c (int iv59)), (5, .c (.own 4 0 c58.length))], [.one (.cells 8 [[int t.facts, row 1 intI t.init, row 1 intI t.goal, row 4 d8 t.operators, row 1 intI plan, .own 1 0 l.length, .own 2 0 l5.length, .map 3]]), .one (vec 5 d7 l), mat (2, []) 1 intI l5, .one (mapB Value.string vI l6), .one (vec 1 intI c58)]⟩) (fun c60 e st => e = .exit 0 ∧ Sub (I5 iv t plan l l5 l6) st ⟨[(5, .c (.own 4 0 c60.length))], [.one (.cells 8 [[int t.facts, row 1 intI t.init, row 1 intI t.goal, row 4 d8 t.operators, row 1 intI plan, .own 1 0 l.length, .own 2 0 l5.length, .map 3]]), .one (vec 5 d7 l), mat (2, []) 1 intI l5, .one (mapB Value.string vI l6), .one (vec 1 intI c60)]⟩) ?_ ?_ ?_
 ·try dsimp only
  exact Sub.env ⟨Z, Z, (o8 (by first | rfl | simp only [List.length_set])), Y⟩
 ·intro s o h
  obtain ⟨c58, iv59⟩ := s
  unfold m9 at h
  try dsimp only at h ⊢
  refine AWP.g (.g (.j (.e Z Z (.geq Z Z Z (.nil (b5 (.ite Z h (fun hc61 h => ?_) (fun hc61 h => ?_))))))))
  ·refine AWP.skip (b5 ?_)
   obtain ⟨c62, hx63, h⟩ := b8 h
   refine AWP.seqJ (⟨[(0, .c (.ptr 0 0 0)), (1, .c (int iv59)), (5, .c (.own 6 0 c62.length))], [.one (.cells 8 [[int t.facts, row 1 intI t.init, row 1 intI t.goal, row 4 d8 t.operators, row 1 intI plan, .own 1 0 l.length, .own 2 0 l5.length, .map 3]]), .one (vec 5 d7 l), mat (2, []) 1 intI l5, .one (mapB Value.string vI l6), .dead, .dead, .one (vec 1 intI c62)]⟩) ?_ ?_
   ·refine AWP.U (.g ?_)
    obtain ⟨a22, ha22, hx63⟩ := b8 hx63
    refine AWP.j (.e Z Z (.ai Z Z Z (W.fieldAddr Z Z Z Z (.z Z Z Z Z Z Z (.e Z Z (S.idxO ha22 Z Z Z Z Z (W.fieldAddr Z Z Z Z (S.loadO ha22 Z Z Z Z Z (.q Z Z (.nil (b5 (.g (.j (.e Z Z (.geq Z Z Z (.nil (b5 (.ite Z hx63 (fun hc64 hx63 => ?_) (fun hc64 hx63 => ?_)))))))))))))))))))
    ·obtain ⟨a30, ha30, hx63⟩ := b8 hx63
     refine AWP.j (.e Z Z (.e Z Z (S.lit (f := intI) (l := [a22.op]) (ess := [[int a22.op]]) Z Z Z Z Z Z Z ⟨⟨.inl Z, Y⟩, Y⟩ Z Z Z (S.append (f := intI) ha30 Z Z Z Z Z Z (.own Z Z) Z Z Z Z (.q Z Z (.nil (e6 ?_)))))))
     obtain rfl := oi hx63
     refine b5 (Sub.cut ⟨Z, Z, Z, Y⟩ Z ⟨.one Z, .vec, .mat Z, .one Z, .dead, .dead, .vec, Y⟩ Z)
    ·refine AWP.skip (e6 ?_)
     obtain rfl := oi hx63
     refine b5 ((Sub.move (env' := [(0, .c (.ptr 0 0 0)), (1, .c (int iv59)), (5, .c (.own 6 0 c58.length))]) (σ' := [.one (.cells 8 [[int t.facts, row 1 intI t.init, row 1 intI t.goal, row 4 d8 t.operators, row 1 intI plan, .own 1 0 l.length, .own 2 0 l5.length, .map 3]]), .one (vec 5 d7 l), mat (2, []) 1 intI l5, .one (mapB Value.string vI l6), .dead, .dead, .one (vec 1 intI c58)]) 6 4 Z Z Z ⟨Z, Z, Z, Y⟩ Z ⟨⟨Z, Z⟩, ⟨Blk.im_ok _ _ _, j9 Z⟩, .mat Z Z Z, ⟨Z, Z⟩, trivial, trivial, ⟨Blk.im_ok _ _ _, j9 Z⟩, Y⟩).trans (Sub.env ⟨Z, Z, Z, Y⟩))
   ·obtain ⟨a14, ha14, h⟩ := b8 h
    refine AWP.j (.e Z Z (.ai Z Z Z (W.fieldAddr Z Z Z Z (.z Z Z Z Z Z Z (.e Z Z (S.idxO ha14 Z Z Z Z Z (W.fieldAddr Z Z Z Z (S.loadO ha14 Z Z Z Z Z (.q Z Z (.nil ?_))))))))))
    obtain rfl := oi h
    refine b5 ⟨_, Z, ?_⟩
    exact (Sub.move (env' := [(0, .c (.ptr 0 0 0)), (1, .c (int a14.ffrom)), (5, .c (.own 4 0 c62.length))]) (σ' := [.one (.cells 8 [[int t.facts, row 1 intI t.init, row 1 intI t.goal, row 4 d8 t.operators, row 1 intI plan, .own 1 0 l.length, .own 2 0 l5.length, .map 3]]), .one (vec 5 d7 l), mat (2, []) 1 intI l5, .one (mapB Value.string vI l6), .one (vec 1 intI c62), .dead]) 4 6 Z Z Z ⟨Z, Z, Z, Y⟩ Z ⟨⟨Z, Z⟩, ⟨Blk.im_ok _ _ _, j9 Z⟩, .mat Z Z Z, ⟨Z, Z⟩, ⟨Blk.im_ok _ _ _, j9 Z⟩, trivial, Y⟩).trans (Sub.cut ⟨Z, Z, Z, Y⟩ Z ⟨.one Z, .vec, .mat Z, .one Z, .vec, Y⟩ Z)
  ·refine AWP.exit (d6 ?_)
   obtain rfl := oi h
   refine d6 ⟨_, Z, Z, ?_⟩
   exact Sub.env ⟨Z, Y⟩
 ·intro e s hq
  obtain ⟨rfl, hs⟩ := hq
  refine ⟨_, hs, ?_⟩
  refine f9 (b5 (.g (.j (.e Z Z (S.rev revL_ok Z Z Z Z Z Z (.nil (b5 (.g (.j (.e Z Z (.q Z Z (.nil (b5 (.frzV (id := 4) (l := c60.reverse) (env2 := [(4, .c (row 1 intI c60.reverse))]) (σ2 := [.one (.cells 8 [[int t.facts, row 1 intI t.init, row 1 intI t.goal, row 4 d8 t.operators, row 1 intI plan, .own 1 0 l.length, .own 2 0 l5.length, .map 3]]), .one (vec 5 d7 l), mat (2, []) 1 intI l5, .one (mapB Value.string vI l6), .dead]) Z Z (by exact ⟨⟨_, Z, .inr ⟨_, Z, List.length_reverse.symm, Z⟩⟩, Y⟩) Z (by exact ⟨⟨Z, .inl ⟨Z, Z⟩, .inl ⟨Z, Z⟩, .inl ⟨Z, Z⟩, .inl ⟨Z, Z⟩, .inl ⟨Z, Z⟩, .inl ⟨Z, Z⟩, .inl ⟨Z, Z⟩, .inl ⟨Z, Z⟩, Y⟩, FrzB.vec, (FrzB.mat Z), ⟨Z, Z⟩, trivial, Y⟩) (.ret ?_)))))))))))))))
  obtain rfl := oi h
  exact ⟨⟨[(4, .c (row 1 intI c60.reverse))], [.one (.cells 8 [[int t.facts, row 1 intI t.init, row 1 intI t.goal, row 4 d8 t.operators, row 1 intI plan, .own 1 0 l.length, .own 2 0 l5.length, .map 3]]), .one (vec 5 d7 l), mat (2, []) 1 intI l5, .one (mapB Value.string vI l6)]⟩, Sub.cut ⟨Z, Y⟩ Z ⟨.one Z, .vec, .mat Z, .one Z, Y⟩ Z, Done.ret Z ⟨Z, Z⟩⟩
theorem aa7 {t : d5} {sv : List Int} {r : Unit} (h : z6 t sv = some r) : FnOk prog 47 [.agg (tT t), .c (row 1 intI sv)] (aa8 t sv) (fun tt ss => tt = .c (.fn 73 [.ptr 0 0 0, .ptr 1 0 0]) ∧ ss = [.one (.cells 4 [(tT t)]), .one (.cells 1 [[row 1 intI sv]])]) := by
 refine FnOk.enter (rs := [.t 4]) func47 Z ntmps47 results47 Z ⟨trivial, Y⟩ (by kernel_rfl) Z ?_
 refine AWP.weak ?_
 unfold z6 at h
 refine AWP.g (.j (W.box Z Z Z Z Z Z (W.box Z Z Z Z Z Z (.q Z Z (.nil (b5 (.g (.j (.makeFunc Z Z (.q Z Z (.nil (b5 (.ret ?_)))))))))))))
 obtain rfl := oi h
 exact ⟨⟨[(4, .c (.fn 73 [.ptr 0 0 0, .ptr 1 0 0]))], [.one (.cells 4 [(tT t)]), .one (.cells 1 [[row 1 intI sv]])]⟩, Sub.env ⟨Z, Y⟩, Done.ret Z ⟨Z, Z⟩⟩
theorem T7 {iv : Int} {t : d5} {plan : List Int} {l : List d3} {l5 : List (List Int)} {l6 : List (ByteArray × Int)} {r : (List (ByteArray × Int)) × (List d3) × (List (List Int))} (h : s7 iv t plan l l5 l6 = some r) : FnOk prog 21 [.c (.ptr 0 0 0), .c (int iv)] (U4 iv t plan l l5 l6) (fun tt ss => tt = .tup [] ∧ ss = [.one (.cells 8 [[int t.facts, row 1 intI t.init, row 1 intI t.goal, row 4 d8 t.operators, row 1 intI plan, .own 14 0 r.2.1.length, .own 15 0 r.2.2.length, .map 3]]), .dead, .dead, .one (mapB Value.string vI r.1), .dead, .dead, .dead, .dead, .dead, .dead, .dead, .dead, .dead, .dead, .one (vec 5 d7 r.2.1), mat (15, []) 1 intI r.2.2]) := by
 refine FnOk.enter (rs := []) func21 Z ntmps21 results21 Z trivial (by kernel_rfl) Z ?_
 refine AWP.weak ?_
 unfold s7 at h
 refine AWP.g (.j (W.box Z Z Z Z Z Z (W.box Z Z Z Z Z Z (.nil (b5 (.g ?_))))))
 obtain ⟨a13, ha13, h⟩ := b8 h
 refine AWP.drawEI [7, 8] mixed Z Z Z ?_
 refine e8.consN Z Z (fun E => AOps.z Z Z Z Z Z Z .N) Z (.consN Z Z (fun E => AOps.ai Z Z Z .N) Z (.consN Z Z (fun E => W.fieldAddr Z Z Z Z .N) Z (.consN Z Z (fun E => AOps.z Z Z Z Z Z Z .N) Z (.consN Z Z (fun E => AOps.z Z Z Z Z Z Z .N) Z (.consN Z Z (fun E => S.idxO ha13 Z Z Z Z Z .N) Z (.consN Z Z (fun E => S.loadOAgg ha13 Z Z Z Z Z Z Z .N) Z ?_))))))
 apply e8.consE; exact Z; exact Z; intro E
 refine W.alloc Z Z Z Z .N
 exact Z
 exact Z
 apply e8.consE (v := .undef); exact Z; exact Z; intro E
 refine W.storeAgg Z Z Z Z Z Z Z .N
 exact Z
 exact Z
 refine e8.done Z ?_ ?_
 ·refine b9.cons Z Z ?_ ?_
  refine b7.go Z Z (fun E => AOps.z Z Z Z Z Z Z .N) ?_
  refine b7.go Z Z (fun E => AOps.z Z Z Z Z Z Z .N) ?_
  refine b7.skip Z (b7.nil)
  refine b9.cons Z Z ?_ ?_
  refine b7.go Z Z (fun E => AOps.ai Z Z Z .N) ?_
  refine b7.go Z Z (fun E => AOps.ai Z Z Z .N) ?_
  refine b7.skip Z (b7.nil)
  refine b9.cons Z Z ?_ ?_
  refine b7.go Z Z (fun E => W.fieldAddr Z Z Z Z .N) ?_
  refine b7.go Z Z (fun E => W.fieldAddr Z Z Z Z .N) ?_
  refine b7.skip Z (b7.nil)
  refine b9.cons Z Z ?_ ?_
  refine b7.go Z Z (fun E => AOps.z Z Z Z Z Z Z .N) ?_
  refine b7.go Z Z (fun E => AOps.z Z Z Z Z Z Z .N) ?_
  refine b7.skip Z (b7.nil)
  refine b9.cons Z Z ?_ ?_
  refine b7.go Z Z (fun E => AOps.z Z Z Z Z Z Z .N) ?_
  refine b7.go Z Z (fun E => AOps.z Z Z Z Z Z Z .N) ?_
  refine b7.skip Z (b7.nil)
  refine b9.cons Z Z ?_ ?_
  refine b7.go Z Z (fun E => S.idxO ha13 Z Z Z Z Z .N) ?_
  refine b7.go Z Z (fun E => S.idxO ha13 Z Z Z Z Z .N) ?_
  refine b7.skip Z (b7.nil)
  refine b9.cons Z Z ?_ ?_
  refine b7.go Z Z (fun E => S.loadOAgg ha13 Z Z Z Z Z Z Z .N) ?_
  refine b7.go Z Z (fun E => S.loadOAgg ha13 Z Z Z Z Z Z Z .N) ?_
  refine b7.skip Z (b7.nil)
  refine b9.skip Z (b9.skip Z (b9.nil))
 dsimp only [i4]
 refine b5 ?_
 obtain ⟨⟨c60, c61, c62⟩, hx63, h⟩ := b8 h
 refine AWP.seqJ (⟨[(2, .c (.ptr 4 0 0)), (3, .c (.ptr 5 0 0)), (4, .c (.ptr 6 0 0))], [.one (.cells 8 [[int t.facts, row 1 intI t.init, row 1 intI t.goal, row 4 d8 t.operators, row 1 intI plan, .own 9 0 c61.length, .own 10 0 c62.length, .map 3]]), .dead, .dead, .one (mapB Value.string vI c60), .one (.cells 1 [[.ptr 0 0 0]]), .one (.cells 1 [[int iv]]), .one (.cells 5 [(nN a13)]), .dead, .dead, .one (vec 5 d7 c61), mat (10, []) 1 intI c62]⟩) ?_ ?_
 ·refine AWP.g (.drawI mixed Z ?_)
  refine f7.consF Z (fun E => W.fieldAddr Z Z Z Z .N) Z (.consF Z (fun E => AOps.z Z Z Z Z Z Z .N) Z (.consF Z (fun E => AOps.z Z Z Z Z Z Z .N) Z (.consF Z (fun E => AOps.ai Z Z Z .N) Z (.consF Z (fun E => W.fieldAddr Z Z Z Z .N) Z (.consF Z (fun E => AOps.z Z Z Z Z Z Z .N) Z (.consF Z (fun E => S.len Z Z (fun hl21 => .nil ⟨Z, Z⟩)) Z (.consF Z (fun E => AOps.F Z Z Z .N) Z ?_)))))))
  refine f7.done ?_
  dsimp only [i4]
  refine b5 (.ite Z hx63 (fun hc64 hx63 => ?_) (fun hc64 hx63 => ?_))
  ·refine AWP.g ?_
   obtain ⟨a29, ha29, hx63⟩ := b8 hx63
   refine AWP.drawI mixed Z ?_
   refine f7.consF Z (fun E => AOps.z Z Z Z Z Z Z .N) Z (.consF Z (fun E => AOps.ai Z Z Z .N) Z (.consF Z (fun E => W.fieldAddr Z Z Z Z .N) Z (.consF Z (fun E => AOps.z Z Z Z Z Z Z .N) Z (.consF Z (fun E => W.fieldAddr Z Z Z Z .N) Z (.consF Z (fun E => AOps.z Z Z Z Z Z Z .N) Z (.consF Z (fun E => S.idx ha29 Z Z Z Z .N) Z (.consF Z (fun E => AOps.ac Z Z Z Z .N) Z (.consF Z (fun E => AOps.q Z Z .N) Z ?_))))))))
   refine f7.done ?_
   dsimp only [i4]
   refine b5 ?_
   obtain ⟨⟨c65, c66, c67⟩, hx68, hx63⟩ := b8 hx63
   refine AWP.seqJ (⟨[(2, .c (.ptr 4 0 0)), (3, .c (.ptr 5 0 0)), (4, .c (.ptr 6 0 0))], [.one (.cells 8 [[int t.facts, row 1 intI t.init, row 1 intI t.goal, row 4 d8 t.operators, row 1 intI plan, .own 7 0 c66.length, .own 8 0 c67.length, .map 3]]), .dead, .dead, .one (mapB Value.string vI c65), .one (.cells 1 [[.ptr 0 0 0]]), .one (.cells 1 [[int iv]]), .one (.cells 5 [(nN a13)]), .one (vec 5 d7 c66), mat (8, []) 1 intI c67]⟩) ?_ ?_
   ·refine AWP.g ?_
    obtain ⟨a38, ha38, hx68⟩ := b8 hx68
    refine AWP.drawI mixed Z ?_
    refine f7.consF Z (fun E => AOps.z Z Z Z Z Z Z .N) Z (.consF Z (fun E => AOps.ai Z Z Z .N) Z (.consF Z (fun E => W.fieldAddr Z Z Z Z .N) Z (.consF Z (fun E => W.loadAgg Z Z Z Z Z Z Z .N) Z (.consF Z (fun E => W.fieldAddr Z Z Z Z .N) Z (.consF Z (fun E => AOps.z Z Z Z Z Z Z .N) Z (.consF Z (fun E => AOps.e Z Z .N) Z (.consF Z (fun E => AOps.E Z Z Z Z (U8 ha38) Z .N) Z ?_)))))))
    refine f7.done ?_
    dsimp only [i4]
    refine b5 (.ag Z hx68 (fun hc69 hx68 => ?_) (fun hc69 hx68 => ?_))
    ·obtain ⟨a47, ha47, a56, ha56, hx68⟩ := b2 hx68
     refine AWP.drawEI [17] mixed Z Z Z ?_
     refine e8.consN Z Z (fun E => AOps.z Z Z Z Z Z Z .N) Z (.consN Z Z (fun E => AOps.z Z Z Z Z Z Z .N) Z (.consN Z Z (fun E => AOps.ai Z Z Z .N) Z (.consN Z Z (fun E => W.fieldAddr Z Z Z Z .N) Z (.consN Z Z (fun E => W.loadAgg Z Z Z Z Z Z Z .N) Z (.consN Z Z (fun E => W.fieldAddr Z Z Z Z .N) Z (.consN Z Z (fun E => AOps.z Z Z Z Z Z Z .N) Z (.consN Z Z (fun E => AOps.e Z Z .N) Z (.consN Z Z (fun E => AOps.E Z Z Z Z (s5.data (N7 ha47)) Z .N) Z (.consN Z Z (fun E => W.fieldAddr Z Z Z Z .N) Z (.consN Z Z (fun E => AOps.z Z Z Z Z Z Z .N) Z (.consN Z Z (fun E => S.add Z Z Z .N) Z (.consN Z Z (fun E => AOps.z Z Z Z Z Z Z .N) Z (.consN Z Z (fun E => AOps.e Z Z .N) Z (.consN Z Z (fun E => W.fieldAddr Z Z Z Z .N) Z (.consN Z Z (fun E => AOps.z Z Z Z Z Z Z .N) Z (.consN Z Z (fun E => W.build Z Z Z Z .N) Z ?_))))))))))))))))
     apply e8.consE; exact Z; exact Z; intro E
     refine AOps.callF (r2 := .tup []) (σ'' := [.one (.cells 8 [[int t.facts, row 1 intI t.init, row 1 intI t.goal, row 4 d8 t.operators, row 1 intI plan, .own 7 0 a56.2.1.length, .own 8 0 a56.2.2.length, .map 3]]), .dead, .dead, .one (mapB Value.string vI a56.1), .one (.cells 1 [[.ptr 0 0 0]]), .one (.cells 1 [[int iv]]), .one (.cells 5 [(nN a13)]), .one (vec 5 d7 a56.2.1), mat (8, []) 1 intI a56.2.2]) Z Z Z (FnOk.lend [0, 1, 2, 3] (w9 ha56) Z Z Z Z Z Z (by exact ⟨(.one Z), .vec, (.mat Z), (.one Z), Y⟩) Z (by exact ⟨(.live Z (.one Z)), (.live Z .vec), (.live Z .mat), (.live Z (.one Z)), Y⟩) Z Z (by exact ⟨(.new 0 Z Z (.one Z)), .dead, .dead, (.new 3 Z Z (.one Z)), (.old Z Z Z), (.old Z Z Z), (.old Z Z Z), (.new 4 Z Z .vec), (.new 5 Z Z .mat), Y⟩)) .N
     exact Z
     exact Z
     refine e8.done Z ?_ ?_
     ·refine b9.cons Z Z ?_ ?_
      refine b7.go Z Z (fun E => AOps.z Z Z Z Z Z Z .N) ?_
      refine b7.skip Z (b7.nil)
      refine b9.cons Z Z ?_ ?_
      refine b7.go Z Z (fun E => AOps.z Z Z Z Z Z Z .N) ?_
      refine b7.skip Z (b7.nil)
      refine b9.cons Z Z ?_ ?_
      refine b7.go Z Z (fun E => AOps.ai Z Z Z .N) ?_
      refine b7.skip Z (b7.nil)
      refine b9.cons Z Z ?_ ?_
      refine b7.go Z Z (fun E => W.fieldAddr Z Z Z Z .N) ?_
      refine b7.skip Z (b7.nil)
      refine b9.cons Z Z ?_ ?_
      refine b7.go Z Z (fun E => W.loadAgg Z Z Z Z Z Z Z .N) ?_
      refine b7.skip Z (b7.nil)
      refine b9.cons Z Z ?_ ?_
      refine b7.go Z Z (fun E => W.fieldAddr Z Z Z Z .N) ?_
      refine b7.skip Z (b7.nil)
      refine b9.cons Z Z ?_ ?_
      refine b7.go Z Z (fun E => AOps.z Z Z Z Z Z Z .N) ?_
      refine b7.skip Z (b7.nil)
      refine b9.cons Z Z ?_ ?_
      refine b7.go Z Z (fun E => AOps.e Z Z .N) ?_
      refine b7.skip Z (b7.nil)
      refine b9.cons Z Z ?_ ?_
      refine b7.go Z Z (fun E => AOps.E Z Z Z Z (s5.data (N7 ha47)) Z .N) ?_
      refine b7.skip Z (b7.nil)
      refine b9.cons Z Z ?_ ?_
      refine b7.go Z Z (fun E => W.fieldAddr Z Z Z Z .N) ?_
      refine b7.skip Z (b7.nil)
      refine b9.cons Z Z ?_ ?_
      refine b7.go Z Z (fun E => AOps.z Z Z Z Z Z Z .N) ?_
      refine b7.skip Z (b7.nil)
      refine b9.cons Z Z ?_ ?_
      refine b7.go Z Z (fun E => S.add Z Z Z .N) ?_
      refine b7.skip Z (b7.nil)
      refine b9.cons Z Z ?_ ?_
      refine b7.go Z Z (fun E => AOps.z Z Z Z Z Z Z .N) ?_
      refine b7.skip Z (b7.nil)
      refine b9.cons Z Z ?_ ?_
      refine b7.go Z Z (fun E => AOps.e Z Z .N) ?_
      refine b7.skip Z (b7.nil)
      refine b9.cons Z Z ?_ ?_
      refine b7.go Z Z (fun E => W.fieldAddr Z Z Z Z .N) ?_
      refine b7.skip Z (b7.nil)
      refine b9.cons Z Z ?_ ?_
      refine b7.go Z Z (fun E => AOps.z Z Z Z Z Z Z .N) ?_
      refine b7.skip Z (b7.nil)
      refine b9.cons Z Z ?_ ?_
      refine b7.go Z Z (fun E => W.build Z Z Z Z .N) ?_
      refine b7.skip Z (b7.nil)
      refine b9.skip Z (b9.nil)
     dsimp only [i4]
     obtain ⟨ej0, ej1, ej2⟩ := o3 hx68
     subst ej0 ej1 ej2
     refine b5 (Sub.env ⟨Z, Z, Z, Y⟩)
    ·refine AWP.skip ?_
     obtain ⟨ej0, ej1, ej2⟩ := o3 hx68
     subst ej0 ej1 ej2
     refine b5 ((Sub.move (env' := [(2, .c (.ptr 4 0 0)), (3, .c (.ptr 5 0 0)), (4, .c (.ptr 6 0 0))]) (σ' := [.one (.cells 8 [[int t.facts, row 1 intI t.init, row 1 intI t.goal, row 4 d8 t.operators, row 1 intI plan, .own 7 0 l.length, .own 2 0 l5.length, .map 3]]), .dead, mat (2, []) 1 intI l5, .one (mapB Value.string vI l6), .one (.cells 1 [[.ptr 0 0 0]]), .one (.cells 1 [[int iv]]), .one (.cells 5 [(nN a13)]), .one (vec 5 d7 l)]) 7 1 Z Z Z ⟨Z, Z, Z, Y⟩ Z ⟨⟨Z, Z⟩, trivial, .mat Z Z Z, ⟨Z, Z⟩, ⟨Z, Z⟩, ⟨Z, Z⟩, ⟨Z, Z⟩, ⟨Blk.im_ok _ _ _, j9 Z⟩, Y⟩).trans ((Sub.moveM (env' := [(2, .c (.ptr 4 0 0)), (3, .c (.ptr 5 0 0)), (4, .c (.ptr 6 0 0))]) (σ' := [.one (.cells 8 [[int t.facts, row 1 intI t.init, row 1 intI t.goal, row 4 d8 t.operators, row 1 intI plan, .own 7 0 l.length, .own 8 0 l5.length, .map 3]]), .dead, .dead, .one (mapB Value.string vI l6), .one (.cells 1 [[.ptr 0 0 0]]), .one (.cells 1 [[int iv]]), .one (.cells 5 [(nN a13)]), .one (vec 5 d7 l), mat (8, []) 1 intI l5]) 8 2 Z Z Z ⟨Z, Z, Z, Y⟩ Z ⟨(.one Z Z), .dead, .dead, (.one Z Z), (.one Z Z), (.one Z Z), (.one Z Z), (.vec Z), (.mat Z Z Z), Y⟩).trans (Sub.env ⟨Z, Z, Z, Y⟩)))
   ·try dsimp only at hx63
    obtain ⟨a68, ha68, hx63⟩ := b8 hx63
    refine AWP.j (.z Z Z Z Z Z Z (W.fieldAddr Z Z Z Z (.z Z Z Z Z Z Z (W.fieldAddr Z Z Z Z (.z Z Z Z Z Z Z (S.add Z Z Z (.z Z Z Z Z Z Z (W.fieldAddr Z Z Z Z (.z Z Z Z Z Z Z (S.add Z Z Z (W.build Z Z Z Z (.callF (r2 := .tup []) (σ'' := [.one (.cells 8 [[int t.facts, row 1 intI t.init, row 1 intI t.goal, row 4 d8 t.operators, row 1 intI plan, .own 9 0 a68.2.1.length, .own 10 0 a68.2.2.length, .map 3]]), .dead, .dead, .one (mapB Value.string vI a68.1), .one (.cells 1 [[.ptr 0 0 0]]), .one (.cells 1 [[int iv]]), .one (.cells 5 [(nN a13)]), .dead, .dead, .one (vec 5 d7 a68.2.1), mat (10, []) 1 intI a68.2.2]) Z Z Z (FnOk.lend [0, 7, 8, 3] (w9 ha68) Z Z Z Z Z Z (by exact ⟨(.one Z), .vec, (.mat Z), (.one Z), Y⟩) Z (by exact ⟨(.live Z (.one Z)), (.live Z .vec), (.live Z .mat), (.live Z (.one Z)), Y⟩) Z Z (by exact ⟨(.new 0 Z Z (.one Z)), .dead, .dead, (.new 3 Z Z (.one Z)), (.old Z Z Z), (.old Z Z Z), (.old Z Z Z), .dead, .dead, (.new 4 Z Z .vec), (.new 5 Z Z .mat), Y⟩)) (.nil ?_)))))))))))))
    obtain ⟨ej0, ej1, ej2⟩ := o3 hx63
    subst ej0 ej1 ej2
    refine b5 (Sub.env ⟨Z, Z, Z, Y⟩)
  ·refine AWP.skip ?_
   obtain ⟨ej0, ej1, ej2⟩ := o3 hx63
   subst ej0 ej1 ej2
   refine b5 ((Sub.move (env' := [(2, .c (.ptr 4 0 0)), (3, .c (.ptr 5 0 0)), (4, .c (.ptr 6 0 0))]) (σ' := [.one (.cells 8 [[int t.facts, row 1 intI t.init, row 1 intI t.goal, row 4 d8 t.operators, row 1 intI plan, .own 9 0 l.length, .own 2 0 l5.length, .map 3]]), .dead, mat (2, []) 1 intI l5, .one (mapB Value.string vI l6), .one (.cells 1 [[.ptr 0 0 0]]), .one (.cells 1 [[int iv]]), .one (.cells 5 [(nN a13)]), .dead, .dead, .one (vec 5 d7 l)]) 9 1 Z Z Z ⟨Z, Z, Z, Y⟩ Z ⟨⟨Z, Z⟩, trivial, .mat Z Z Z, ⟨Z, Z⟩, ⟨Z, Z⟩, ⟨Z, Z⟩, ⟨Z, Z⟩, trivial, trivial, ⟨Blk.im_ok _ _ _, j9 Z⟩, Y⟩).trans ((Sub.moveM (env' := [(2, .c (.ptr 4 0 0)), (3, .c (.ptr 5 0 0)), (4, .c (.ptr 6 0 0))]) (σ' := [.one (.cells 8 [[int t.facts, row 1 intI t.init, row 1 intI t.goal, row 4 d8 t.operators, row 1 intI plan, .own 9 0 l.length, .own 10 0 l5.length, .map 3]]), .dead, .dead, .one (mapB Value.string vI l6), .one (.cells 1 [[.ptr 0 0 0]]), .one (.cells 1 [[int iv]]), .one (.cells 5 [(nN a13)]), .dead, .dead, .one (vec 5 d7 l), mat (10, []) 1 intI l5]) 10 2 Z Z Z ⟨Z, Z, Z, Y⟩ Z ⟨(.one Z Z), .dead, .dead, (.one Z Z), (.one Z Z), (.one Z Z), (.one Z Z), .dead, .dead, (.vec Z), (.mat Z Z Z), Y⟩).trans (Sub.env ⟨Z, Z, Z, Y⟩)))
 ·try dsimp only at h
  refine AWP.g ?_
  obtain ⟨a75, ha75, h⟩ := b8 h
  refine AWP.drawEI [6] mixed Z Z Z ?_
  refine e8.consN Z Z (fun E => AOps.z Z Z Z Z Z Z .N) Z (.consN Z Z (fun E => AOps.ai Z Z Z .N) Z (.consN Z Z (fun E => W.fieldAddr Z Z Z Z .N) Z (.consN Z Z (fun E => W.loadAgg Z Z Z Z Z Z Z .N) Z (.consN Z Z (fun E => W.fieldAddr Z Z Z Z .N) Z (.consN Z Z (fun E => AOps.z Z Z Z Z Z Z .N) Z ?_)))))
  apply e8.consE; exact Z; exact Z; intro E
  refine AOps.callF (r2 := .c (.fn 73 [.ptr 11 0 0, .ptr 12 0 0])) (σ'' := [.one (.cells 8 [[int t.facts, row 1 intI t.init, row 1 intI t.goal, row 4 d8 t.operators, row 1 intI plan, .own 9 0 c61.length, .own 10 0 c62.length, .map 3]]), .dead, .dead, .one (mapB Value.string vI c60), .one (.cells 1 [[.ptr 0 0 0]]), .one (.cells 1 [[int iv]]), .one (.cells 5 [(nN a13)]), .dead, .dead, .one (vec 5 d7 c61), mat (10, []) 1 intI c62, .one (.cells 4 [(tT t)]), .one (.cells 1 [[row 1 intI a13.fs]])]) Z Z Z (FnOk.lend [] (aa7 ha75) Z Z Z Z Z Z (by exact trivial) Z (by exact trivial) Z Z (by exact ⟨(.old Z Z Z), .dead, .dead, (.old Z Z Z), (.old Z Z Z), (.old Z Z Z), (.old Z Z Z), .dead, .dead, (.old Z Z Z), (.old Z Z Z), (.new 0 Z Z (.one Z)), (.new 1 Z Z (.one Z)), Y⟩)) .N
  exact Z
  exact Z
  refine e8.done Z ?_ ?_
  ·refine b9.cons Z Z ?_ ?_
   refine b7.go Z Z (fun E => AOps.z Z Z Z Z Z Z .N) ?_
   refine b7.skip Z (b7.nil)
   refine b9.cons Z Z ?_ ?_
   refine b7.go Z Z (fun E => AOps.ai Z Z Z .N) ?_
   refine b7.skip Z (b7.nil)
   refine b9.cons Z Z ?_ ?_
   refine b7.go Z Z (fun E => W.fieldAddr Z Z Z Z .N) ?_
   refine b7.skip Z (b7.nil)
   refine b9.cons Z Z ?_ ?_
   refine b7.go Z Z (fun E => W.loadAgg Z Z Z Z Z Z Z .N) ?_
   refine b7.skip Z (b7.nil)
   refine b9.cons Z Z ?_ ?_
   refine b7.go Z Z (fun E => W.fieldAddr Z Z Z Z .N) ?_
   refine b7.skip Z (b7.nil)
   refine b9.cons Z Z ?_ ?_
   refine b7.go Z Z (fun E => AOps.z Z Z Z Z Z Z .N) ?_
   refine b7.skip Z (b7.nil)
   refine b9.skip Z (b9.nil)
  dsimp only [i4]
  refine b5 (.U ?_)
  obtain ⟨xr70, hr70, h⟩ := b8 h
  refine AWP.rangeB [(2, none), (3, none), (4, none)] Z Z Z (fun as70 bo70 hA70 hB70 => ⟨[.one (.cells 8 [[int t.facts, row 1 intI t.init, row 1 intI t.goal, row 4 d8 t.operators, row 1 intI plan, .own 9 0 c61.length, .own 10 0 c62.length, .map 3]]), .dead, .dead, .one (mapB Value.string vI c60), .one (.cells 1 [[.ptr 0 0 0]]), .one (.cells 1 [[int iv]]), .one (.cells 5 [(nN a13)]), .dead, .dead, .one (vec 5 d7 c61), mat (10, []) 1 intI c62, .one (.cells 4 [(tT t)]), .one (.cells 1 [[row 1 intI a13.fs]]), .one (k7 89 [76, 77] as70 bo70 .ready none [(2, none), (3, none), (4, none)] [.ptr 4 0 0, .ptr 5 0 0, .ptr 6 0 0])], fun tt ss => tt = .tup [] ∧ ss = [.one (.cells 8 [[int t.facts, row 1 intI t.init, row 1 intI t.goal, row 4 d8 t.operators, row 1 intI plan, .own 14 0 xr70.2.1.length, .own 15 0 xr70.2.2.length, .map 3]]), .dead, .dead, .one (mapB Value.string vI xr70.1), .one (.cells 1 [[.ptr 0 0 0]]), .one (.cells 1 [[int iv]]), .one (.cells 5 [(nN a13)]), .dead, .dead, .dead, .dead, .one (.cells 4 [(tT t)]), .one (.cells 1 [[row 1 intI a13.fs]]), .one (k7 89 [76, 77] as70 bo70 .ready none [(2, none), (3, none), (4, none)] [.ptr 4 0 0, .ptr 5 0 0, .ptr 6 0 0]), .one (vec 5 d7 xr70.2.1), mat (15, []) 1 intI xr70.2.2], Z, ?_, ?_⟩)
  ·refine FnOk.enter (rs := []) func73 Z ntmps73 results73 Z trivial (by kernel_rfl) Z ?_
   refine AWP.weak ?_
   unfold o7 at hr70
   try dsimp only at hr70
   refine AWP.e (env' := [(0, .c (.yld 13)), (1, .c (.ptr 11 0 0)), (2, .c (.ptr 12 0 0))]) (σ' := [.one (.cells 8 [[int t.facts, row 1 intI t.init, row 1 intI t.goal, row 4 d8 t.operators, row 1 intI plan, .own 14 0 c61.length, .own 10 0 c62.length, .map 3]]), .dead, .dead, .one (mapB Value.string vI c60), .one (.cells 1 [[.ptr 0 0 0]]), .one (.cells 1 [[int iv]]), .one (.cells 5 [(nN a13)]), .dead, .dead, .dead, mat (10, []) 1 intI c62, .one (.cells 4 [(tT t)]), .one (.cells 1 [[row 1 intI a13.fs]]), .one (k7 89 [76, 77] as70 bo70 .ready none [(2, none), (3, none), (4, none)] [.ptr 4 0 0, .ptr 5 0 0, .ptr 6 0 0]), .one (vec 5 d7 c61)]) 14 9 Z Z Z ⟨Z, Z, Z, Y⟩ Z ⟨⟨Z, Z⟩, trivial, trivial, ⟨Z, Z⟩, ⟨Z, Z⟩, ⟨Z, Z⟩, ⟨Z, Z⟩, trivial, trivial, trivial, .mat Z Z Z, ⟨Z, Z⟩, ⟨Z, Z⟩, ⟨Z, Z⟩, ⟨Blk.im_ok _ _ _, j9 Z⟩, Y⟩ (.moveM (env' := [(0, .c (.yld 13)), (1, .c (.ptr 11 0 0)), (2, .c (.ptr 12 0 0))]) (σ' := [.one (.cells 8 [[int t.facts, row 1 intI t.init, row 1 intI t.goal, row 4 d8 t.operators, row 1 intI plan, .own 14 0 c61.length, .own 15 0 c62.length, .map 3]]), .dead, .dead, .one (mapB Value.string vI c60), .one (.cells 1 [[.ptr 0 0 0]]), .one (.cells 1 [[int iv]]), .one (.cells 5 [(nN a13)]), .dead, .dead, .dead, .dead, .one (.cells 4 [(tT t)]), .one (.cells 1 [[row 1 intI a13.fs]]), .one (k7 89 [76, 77] as70 bo70 .ready none [(2, none), (3, none), (4, none)] [.ptr 4 0 0, .ptr 5 0 0, .ptr 6 0 0]), .one (vec 5 d7 c61), mat (15, []) 1 intI c62]) 15 10 Z Z Z ⟨Z, Z, Z, Y⟩ Z ⟨(.one Z Z), .dead, .dead, (.one Z Z), (.one Z Z), (.one Z Z), (.one Z Z), .dead, .dead, .dead, .dead, (.one Z Z), (.one Z Z), (.one Z Z), (.vec Z), (.mat Z Z Z), Y⟩ (.g (.j (W.fieldAddr Z Z Z Z (.z Z Z Z Z Z Z (S.len Z Z (fun hl7 => .e Z Z (.nil (b5 (.U ?_))))))))))
   obtain ⟨⟨c74, c75, c76⟩, ho1, hr70⟩ := b8 hr70
   try dsimp only at hr70
   refine AWP.forS ho1 (fun t77 (c74, c75, c76) => ⟨[(0, .c (.yld 13)), (1, .c (.ptr 11 0 0)), (2, .c (.ptr 12 0 0)), (7, .c (int (t.operators.length : Int))), (8, .c (int t77))], [.one (.cells 8 [[int t.facts, row 1 intI t.init, row 1 intI t.goal, row 4 d8 t.operators, row 1 intI plan, .own 14 0 c75.length, .own 15 0 c76.length, .map 3]]), .dead, .dead, .one (mapB Value.string vI c74), .one (.cells 1 [[.ptr 0 0 0]]), .one (.cells 1 [[int iv]]), .one (.cells 5 [(nN a13)]), .dead, .dead, .dead, .dead, .one (.cells 4 [(tT t)]), .one (.cells 1 [[row 1 intI a13.fs]]), .one (k7 89 [76, 77] as70 bo70 .ready none [(2, none), (3, none), (4, none)] [.ptr 4 0 0, .ptr 5 0 0, .ptr 6 0 0]), .one (vec 5 d7 c75), mat (15, []) 1 intI c76]⟩) (fun (c74, c75, c76) e st => e = .exit 0 ∧ Sub ([.one (.cells 8 [[int t.facts, row 1 intI t.init, row 1 intI t.goal, row 4 d8 t.operators, row 1 intI plan, .own 9 0 c61.length, .own 10 0 c62.length, .map 3]]), .dead, .dead, .one (mapB Value.string vI c60), .one (.cells 1 [[.ptr 0 0 0]]), .one (.cells 1 [[int iv]]), .one (.cells 5 [(nN a13)]), .dead, .dead, .one (vec 5 d7 c61), mat (10, []) 1 intI c62, .one (.cells 4 [(tT t)]), .one (.cells 1 [[row 1 intI a13.fs]]), .one (k7 89 [76, 77] as70 bo70 .ready none [(2, none), (3, none), (4, none)] [.ptr 4 0 0, .ptr 5 0 0, .ptr 6 0 0])] : b6) st ⟨[], [.one (.cells 8 [[int t.facts, row 1 intI t.init, row 1 intI t.goal, row 4 d8 t.operators, row 1 intI plan, .own 14 0 c75.length, .own 15 0 c76.length, .map 3]]), .dead, .dead, .one (mapB Value.string vI c74), .one (.cells 1 [[.ptr 0 0 0]]), .one (.cells 1 [[int iv]]), .one (.cells 5 [(nN a13)]), .dead, .dead, .dead, .dead, .one (.cells 4 [(tT t)]), .one (.cells 1 [[row 1 intI a13.fs]]), .one (k7 89 [76, 77] as70 bo70 .ready none [(2, none), (3, none), (4, none)] [.ptr 4 0 0, .ptr 5 0 0, .ptr 6 0 0]), .one (vec 5 d7 c75), mat (15, []) 1 intI c76]⟩) ?_ ?_ ?_ ?_
   ·try dsimp only
    exact Sub.env ⟨Z, Z, Z, Z, Z, Y⟩
   ·intro t77 s hlot77 hltt77 _
    obtain ⟨c74, c75, c76⟩ := s
    try dsimp only
    refine AWP.g (.j (.F Z Z Z (.nil (b5 (.g (.ad Z hltt77 (.exit (d6 (d6 ⟨Z, ?_⟩)))))))))
    exact Sub.env trivial
   ·intro t77 s o hlot77 hltt77 h
    obtain ⟨c74, c75, c76⟩ := s
    unfold u9 at h
    try dsimp only at h ⊢
    refine AWP.g (.j (.F Z Z Z (.nil (b5 (.g (.ae Z hltt77 (.skip (b5 (.g (.U (.g (.j (.e Z Z (.q Z Z (.nil (b5 (.g ?_)))))))))))))))))
    obtain ⟨ai14, hai14, h⟩ := b8 h
    rcases bft (ai14) with hb78 | hb78
    ·replace h := A9 hb78 h
     obtain ⟨ai21, hai21, h⟩ := b8 h
     refine AWP.j (W.loadAgg Z Z Z Z Z Z Z (.z Z Z Z Z Z Z (.e Z Z (.E Z Z Z Z (U8 hai14) Z (.e Z Z (.u Z Z Z hb78 (.e Z Z (.u Z Z Z hb78 (.e Z Z (.u Z Z Z hb78 (W.loadAgg Z Z Z Z Z Z Z (.u Z Z Z hb78 (.z Z Z Z Z Z Z (.u Z Z Z hb78 (.e Z Z (.u Z Z Z hb78 (S.fresh Z Z Z Z (N7 hai21) Z Z (.frzV (id := 16) (l := ai21) (env2 := [(0, .c (.yld 13)), (1, .c (.ptr 11 0 0)), (2, .c (.ptr 12 0 0)), (7, .c (int (t.operators.length : Int))), (8, .c (int t77)), (15, .c (bool ai14)), (16, .c (.yld 13)), (17, .c (int t77)), (21, .c (row 1 intI ai21))]) (σ2 := [.one (.cells 8 [[int t.facts, row 1 intI t.init, row 1 intI t.goal, row 4 d8 t.operators, row 1 intI plan, .own 14 0 c75.length, .own 15 0 c76.length, .map 3]]), .dead, .dead, .one (mapB Value.string vI c74), .one (.cells 1 [[.ptr 0 0 0]]), .one (.cells 1 [[int iv]]), .one (.cells 5 [(nN a13)]), .dead, .dead, .dead, .dead, .one (.cells 4 [(tT t)]), .one (.cells 1 [[row 1 intI a13.fs]]), .one (k7 89 [76, 77] as70 bo70 .ready none [(2, none), (3, none), (4, none)] [.ptr 4 0 0, .ptr 5 0 0, .ptr 6 0 0]), .one (vec 5 d7 c75), mat (15, []) 1 intI c76, .dead]) Z Z (by exact ⟨⟨_, Z, .inl ⟨Z, Z⟩⟩, ⟨_, Z, .inl ⟨Z, Z⟩⟩, ⟨_, Z, .inl ⟨Z, Z⟩⟩, ⟨_, Z, .inl ⟨Z, Z⟩⟩, ⟨_, Z, .inl ⟨Z, Z⟩⟩, ⟨_, Z, .inl ⟨Z, Z⟩⟩, ⟨_, Z, .inl ⟨Z, Z⟩⟩, ⟨_, Z, .inl ⟨Z, Z⟩⟩, ⟨_, Z, .inr ⟨_, Z, Z, Z⟩⟩, Y⟩) Z (by exact ⟨⟨Z, .inl ⟨Z, Z⟩, .inl ⟨Z, Z⟩, .inl ⟨Z, Z⟩, .inl ⟨Z, Z⟩, .inl ⟨Z, Z⟩, .inl ⟨Z, Z⟩, .inl ⟨Z, Z⟩, .inl ⟨Z, Z⟩, Y⟩, trivial, trivial, ⟨Z, Z⟩, ⟨Z, .inl ⟨Z, Z⟩, Y⟩, ⟨Z, .inl ⟨Z, Z⟩, Y⟩, ⟨Z, .inl ⟨Z, Z⟩, .inl ⟨Z, Z⟩, .inl ⟨Z, Z⟩, .inl ⟨Z, Z⟩, .inl ⟨Z, Z⟩, Y⟩, trivial, trivial, trivial, trivial, ⟨Z, .inl ⟨Z, Z⟩, .inl ⟨Z, Z⟩, .inl ⟨Z, Z⟩, .inl ⟨Z, Z⟩, Y⟩, ⟨Z, .inl ⟨Z, Z⟩, Y⟩, ⟨Z, Z⟩, FrzB.vec, (FrzB.mat Z), trivial, Y⟩) ?_))))))))))))))))))
     refine AOps.u Z Z Z hb78 ?_; refine AOps.yieldB (E1 := [(7, .c (row 1 intI ai21)), (6, .c (int t77)), (77, .c (row 1 intI ai21)), (76, .c (int t77)), (2, .c (.ptr 4 0 0)), (3, .c (.ptr 5 0 0)), (4, .c (.ptr 6 0 0))]) (σ1 := [.one (.cells 8 [[int t.facts, row 1 intI t.init, row 1 intI t.goal, row 4 d8 t.operators, row 1 intI plan, .own 14 0 c75.length, .own 15 0 c76.length, .map 3]]), .dead, .dead, .one (mapB Value.string vI c74), .one (.cells 1 [[.ptr 0 0 0]]), .one (.cells 1 [[int iv]]), .one (.cells 5 [(nN a13)]), .dead, .dead, .dead, .dead, .one (.cells 4 [(tT t)]), .one (.cells 1 [[row 1 intI a13.fs]]), .one (k7 89 [76, 77] as70 bo70 .ready none [(2, none), (3, none), (4, none)] [.ptr 4 0 0, .ptr 5 0 0, .ptr 6 0 0]), .one (vec 5 d7 c75), mat (15, []) 1 intI c76, .dead]) hA70 hB70 Z Z Z Z Z Z Z Z Z Z ?_ ?_
     ·refine AWP.g (.j (.q Z Z (.nil (b5 (.j (.q Z Z (.nil ?_)))))))
      exact ⟨Z, Z⟩
     refine AWP.sub (s' := ⟨[(2, .c (.ptr 4 0 0)), (3, .c (.ptr 5 0 0)), (4, .c (.ptr 6 0 0)), (6, .c (int t77)), (7, .c (row 1 intI ai21))], [.one (.cells 8 [[int t.facts, row 1 intI t.init, row 1 intI t.goal, row 4 d8 t.operators, row 1 intI plan, .own 14 0 c75.length, .own 15 0 c76.length, .map 3]]), .dead, .dead, .one (mapB Value.string vI c74), .one (.cells 1 [[.ptr 0 0 0]]), .one (.cells 1 [[int iv]]), .one (.cells 5 [(nN a13)]), .dead, .dead, .dead, .dead, .one (.cells 4 [(tT t)]), .one (.cells 1 [[row 1 intI a13.fs]]), .one (k7 89 [76, 77] as70 bo70 .busy none [(2, none), (3, none), (4, none)] [.ptr 4 0 0, .ptr 5 0 0, .ptr 6 0 0]), .one (vec 5 d7 c75), mat (15, []) 1 intI c76, .dead]⟩) (Sub.env ⟨Z, Z, Z, Z, Z, Y⟩) (.U ?_)
     obtain ⟨ab88, hab88, h⟩ := b8 h
     refine AWP.j (.z Z Z Z Z Z Z (.e Z Z (W.fieldAddr Z Z Z Z (.z Z Z Z Z Z Z (.z Z Z Z Z Z Z (.e Z Z (W.fieldAddr Z Z Z Z (.z Z Z Z Z Z Z (S.add Z Z Z (W.build Z Z Z Z (.callF (r2 := .tup []) (σ'' := [.one (.cells 8 [[int t.facts, row 1 intI t.init, row 1 intI t.goal, row 4 d8 t.operators, row 1 intI plan, .own 17 0 ab88.2.1.length, .own 18 0 ab88.2.2.length, .map 3]]), .dead, .dead, .one (mapB Value.string vI ab88.1), .one (.cells 1 [[.ptr 0 0 0]]), .one (.cells 1 [[int iv]]), .one (.cells 5 [(nN a13)]), .dead, .dead, .dead, .dead, .one (.cells 4 [(tT t)]), .one (.cells 1 [[row 1 intI a13.fs]]), .one (k7 89 [76, 77] as70 bo70 .busy none [(2, none), (3, none), (4, none)] [.ptr 4 0 0, .ptr 5 0 0, .ptr 6 0 0]), .dead, .dead, .dead, .one (vec 5 d7 ab88.2.1), mat (18, []) 1 intI ab88.2.2]) Z Z Z (FnOk.lend [0, 14, 15, 3] (w9 hab88) Z Z Z Z Z Z (by exact ⟨(.one Z), .vec, (.mat Z), (.one Z), Y⟩) Z (by exact ⟨(.live Z (.one Z)), (.live Z .vec), (.live Z .mat), (.live Z (.one Z)), Y⟩) Z Z (by exact ⟨(.new 0 Z Z (.one Z)), .dead, .dead, (.new 3 Z Z (.one Z)), (.old Z Z Z), (.old Z Z Z), (.old Z Z Z), .dead, .dead, .dead, .dead, (.old Z Z Z), (.old Z Z Z), (.old Z Z Z), .dead, .dead, .dead, (.new 4 Z Z .vec), (.new 5 Z Z .mat), Y⟩)) (.nil (e6 (W9 Z Z (.u Z Z Z hb78 (.ab Z Z (.J Z hb78 Z Z (.nil (b5 (.condF Z (.skip (e6 (b5 (.j (.add Z Z Z (by omega) (.e Z Z (.nil ?_)))))))))))))))))))))))))))
     obtain rfl := oi h
     refine b5 ((Sub.move (env' := [(0, .c (.yld 13)), (1, .c (.ptr 11 0 0)), (2, .c (.ptr 12 0 0)), (7, .c (int (t.operators.length : Int))), (8, .c (int (t77 + 1)))]) (σ' := [.one (.cells 8 [[int t.facts, row 1 intI t.init, row 1 intI t.goal, row 4 d8 t.operators, row 1 intI plan, .own 14 0 ab88.2.1.length, .own 18 0 ab88.2.2.length, .map 3]]), .dead, .dead, .one (mapB Value.string vI ab88.1), .one (.cells 1 [[.ptr 0 0 0]]), .one (.cells 1 [[int iv]]), .one (.cells 5 [(nN a13)]), .dead, .dead, .dead, .dead, .one (.cells 4 [(tT t)]), .one (.cells 1 [[row 1 intI a13.fs]]), .one (k7 89 [76, 77] as70 bo70 .ready none [(2, none), (3, none), (4, none)] [.ptr 4 0 0, .ptr 5 0 0, .ptr 6 0 0]), .one (vec 5 d7 ab88.2.1), .dead, .dead, .dead, mat (18, []) 1 intI ab88.2.2]) 14 17 Z Z Z ⟨Z, Z, Z, Z, Z, Y⟩ Z ⟨⟨Z, Z⟩, trivial, trivial, ⟨Z, Z⟩, ⟨Z, Z⟩, ⟨Z, Z⟩, ⟨Z, Z⟩, trivial, trivial, trivial, trivial, ⟨Z, Z⟩, ⟨Z, Z⟩, ⟨Z, Z⟩, ⟨Blk.im_ok _ _ _, j9 Z⟩, trivial, trivial, trivial, .mat Z Z Z, Y⟩).trans ((Sub.moveM (env' := [(0, .c (.yld 13)), (1, .c (.ptr 11 0 0)), (2, .c (.ptr 12 0 0)), (7, .c (int (t.operators.length : Int))), (8, .c (int (t77 + 1)))]) (σ' := [.one (.cells 8 [[int t.facts, row 1 intI t.init, row 1 intI t.goal, row 4 d8 t.operators, row 1 intI plan, .own 14 0 ab88.2.1.length, .own 15 0 ab88.2.2.length, .map 3]]), .dead, .dead, .one (mapB Value.string vI ab88.1), .one (.cells 1 [[.ptr 0 0 0]]), .one (.cells 1 [[int iv]]), .one (.cells 5 [(nN a13)]), .dead, .dead, .dead, .dead, .one (.cells 4 [(tT t)]), .one (.cells 1 [[row 1 intI a13.fs]]), .one (k7 89 [76, 77] as70 bo70 .ready none [(2, none), (3, none), (4, none)] [.ptr 4 0 0, .ptr 5 0 0, .ptr 6 0 0]), .one (vec 5 d7 ab88.2.1), mat (15, []) 1 intI ab88.2.2, .dead, .dead]) 15 18 Z Z Z ⟨Z, Z, Z, Z, Z, Y⟩ Z ⟨(.one Z Z), .dead, .dead, (.one Z Z), (.one Z Z), (.one Z Z), (.one Z Z), .dead, .dead, .dead, .dead, (.one Z Z), (.one Z Z), (.one Z Z), (.vec Z), (.mat Z Z Z), .dead, .dead, Y⟩).trans (Sub.cut ⟨Z, Z, Z, Z, Z, Y⟩ Z ⟨.one Z, .dead, .dead, .one Z, .one Z, .one Z, .one Z, .dead, .dead, .dead, .dead, .one Z, .one Z, .one Z, .vec, .mat Z, Y⟩ Z)))
    ·replace h := A7 hb78 h
     refine AWP.j (W.loadAgg Z Z Z Z Z Z Z (.z Z Z Z Z Z Z (.e Z Z (.E Z Z Z Z (U8 hai14) Z (.e Z Z (.v Z Z Z hb78 (.v Z Z Z hb78 (.v Z Z Z hb78 (.v Z Z Z hb78 (.v Z Z Z hb78 (.v Z Z Z hb78 (.v Z Z Z hb78 (.v Z Z Z hb78 (.O Z hb78 Z Z (.nil (b5 (.condF Z (.skip (e6 (b5 (.j (.add Z Z Z (by omega) (.e Z Z (.nil ?_))))))))))))))))))))))))
     obtain rfl := oi h
     refine b5 (Sub.env ⟨Z, Z, Z, Z, Z, Y⟩)
   ·intro e s hq
    obtain ⟨rfl, hs⟩ := hq
    refine ⟨_, hs, ?_⟩
    refine f9 ?_
    obtain rfl := oi hr70
    exact ⟨⟨[], [.one (.cells 8 [[int t.facts, row 1 intI t.init, row 1 intI t.goal, row 4 d8 t.operators, row 1 intI plan, .own 14 0 c75.length, .own 15 0 c76.length, .map 3]]), .dead, .dead, .one (mapB Value.string vI c74), .one (.cells 1 [[.ptr 0 0 0]]), .one (.cells 1 [[int iv]]), .one (.cells 5 [(nN a13)]), .dead, .dead, .dead, .dead, .one (.cells 4 [(tT t)]), .one (.cells 1 [[row 1 intI a13.fs]]), .one (k7 89 [76, 77] as70 bo70 .ready none [(2, none), (3, none), (4, none)] [.ptr 4 0 0, .ptr 5 0 0, .ptr 6 0 0]), .one (vec 5 d7 c75), mat (15, []) 1 intI c76]⟩, Sub.env trivial, Done.normal Z ⟨Z, Z⟩⟩
  ·rintro tt ss ⟨rfl, rfl⟩
   obtain ⟨c71, c72, c73⟩ := xr70
   try dsimp only at h ⊢
   refine ae4 Z Z (e6 ?_)
   obtain rfl := oi h
   exact ⟨⟨[], [.one (.cells 8 [[int t.facts, row 1 intI t.init, row 1 intI t.goal, row 4 d8 t.operators, row 1 intI plan, .own 14 0 c72.length, .own 15 0 c73.length, .map 3]]), .dead, .dead, .one (mapB Value.string vI c71), .dead, .dead, .dead, .dead, .dead, .dead, .dead, .dead, .dead, .dead, .one (vec 5 d7 c72), mat (15, []) 1 intI c73]⟩, Sub.cut trivial Z ⟨.one Z, .dead, .dead, .one Z, .dead, .dead, .dead, .dead, .dead, .dead, .dead, .dead, .dead, .dead, .vec, .mat Z, Y⟩ Z, Done.normal Z ⟨Z, Z⟩⟩
end Ab
end
