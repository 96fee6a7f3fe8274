/-
  Texts that the proof stands on.
-/
import Derived.Test.YtpccoiobnjnciaaKRwConNec3
set_option linter.all false
section
namespace Ab
open Go Go.Proofs
open Try
set_option maxHeartbeats 4000000
set_option linter.all false
attribute [local irreducible] AWP AOps thn inB Done e8 n5 Sub
abbrev tT (v : d9) : List C := [int v.facts, row 1 intI v.init, row 1 intI v.goal, row 4 i3 v.operators]
abbrev wW (a b : Int) (i : Id) (n : Nat) : List C := [.imm (.val (.int .u32 a)), .imm (.val (.int .u32 b)), .own i 0 n]
abbrev vU : Int → Value := Value.int .u32
abbrev vI : Int → Value := Value.int .i64
abbrev nL : Value := .slice none 0 0
instance : MethF prog 65 "Start" 42 true := ⟨by kernel_rfl⟩
instance : MethF prog 65 "Steps" 62 true := ⟨by kernel_rfl⟩
instance : MethF prog 129 "Len" 139 false := ⟨by kernel_rfl⟩
instance : MethF prog 129 "Less" 140 false := ⟨by kernel_rfl⟩
instance : MethF prog 129 "Pop" 142 true := ⟨by kernel_rfl⟩
instance : MethF prog 129 "Push" 143 true := ⟨by kernel_rfl⟩
instance : MethF prog 129 "Swap" 141 false := ⟨by kernel_rfl⟩
theorem q8 {l : List Int} {nv : Int} {r : Bool} (h : B4 l nv = some r) : e8 prog 65 [.c (row 1 intI l), .c (int nv)] (.c (bool r)) := by
 unfold e8
 refine FnOk.enter (rs := [.t 4]) func65 Z ntmps65 results65 Z ⟨trivial, Y⟩ (by kernel_rfl) Z ?_
 unfold B4 at h
 refine AWP.q (.u (.v Z Z (.nil (b6 (.q (.q (.u (.j Z Z (S.len Z Z (fun hl8 => .j Z Z (.nil (b6 (.aa ?_)))))))))))))
 obtain ⟨oo, ho1, h⟩ := bind_some h
 refine AWP.rngS ho1 (fun t3 _ => ⟨[(0, .c (row 1 intI l)), (1, .c (int nv)), (7, .c (row 1 intI l)), (8, .c (int (l.length : Int))), (9, .c (int t3))], []⟩) (fun o e st => match o with | .inl _ => e = .exit 0 ∧ Sub [] st ⟨[], []⟩ | .inr x => e = .ret ∧ Done [.t 4] (fun t _ => t = .c (bool x)) .ret st) ?_ ?_ ?_ ?_
 ·try dsimp only
  exact Sub.env ⟨Z, Z, Z, Z, Z, Y⟩
 ·intro t3 s hlot3 hltt3 _
  try dsimp only
  refine AWP.q (.u (.J Z Z Z (.nil (b6 (.q (.ag Z hltt3 (.exit (e7 (e7 ⟨Z, ?_⟩)))))))))
  exact Sub.env trivial
 ·intro t3 s o hlot3 hltt3 h
  unfold O5 at h
  try dsimp only at h ⊢
  refine AWP.q (.u (.J Z Z Z (.nil (b6 (.q (.ah Z hltt3 (.skip (b6 (.q (.aa (.q ?_)))))))))))
  obtain ⟨a12, ha12, h⟩ := bind_some h
  refine AWP.u (.j Z Z (S.idx ha12 Z Z Z Z (.ai Z Z Z Z (.v Z Z (.v Z Z (.nil (b6 ?_)))))))
  obtain ⟨t4, hx5, h⟩ := bind_some h
  refine AWP.seqJ (⟨[(0, .c (row 1 intI l)), (1, .c (int nv)), (7, .c (row 1 intI l)), (8, .c (int (l.length : Int))), (9, .c (int t3)), (33, .c (bool t4))], []⟩) ?_ ?_
  ·rcases bft (decide (a12 < 0)) with hb6 | hb6
   ·replace hx5 := L8 hb6 hx5
    refine AWP.u (.j Z Z (.J Z Z Z (.j Z Z (.B Z Z Z hb6 (.B Z Z Z hb6 (.B Z Z Z hb6 (.U Z hb6 Z Z (.j Z Z (.B Z Z Z Z (.B Z Z Z Z (.B Z Z Z Z (.af Z Z Z (.af Z Z Z (.af Z Z Z (.af Z Z Z (.af Z Z Z (.af Z Z Z (.af Z Z Z (.B Z Z Z Z (.U Z Z Z Z (.nil ?_)))))))))))))))))))))
    obtain rfl := oi hx5
    refine b6 (Sub.env ⟨Z, Z, Z, Z, Z, Z, Y⟩)
   ·replace hx5 := L5 hb6 hx5
    rcases bft (decide (nv ≤ a12)) with hb7 | hb7
    ·replace hx5 := L8 hb7 hx5
     refine AWP.u (.j Z Z (.J Z Z Z (.j Z Z (.z Z Z Z hb6 (.j Z Z (.z Z Z Z hb6 (.j Z Z (.z Z Z Z hb6 (.geq Z Z Z (.O Z hb6 Z Z (.j Z Z (.B Z Z Z hb7 (.B Z Z Z hb7 (.B Z Z Z hb7 (.af Z Z Z (.af Z Z Z (.af Z Z Z (.af Z Z Z (.af Z Z Z (.af Z Z Z (.af Z Z Z (.B Z Z Z hb7 (.U Z hb7 Z Z (.nil ?_))))))))))))))))))))))))
     obtain rfl := oi hx5
     refine b6 (Sub.env ⟨Z, Z, Z, Z, Z, Z, Y⟩)
    ·replace hx5 := L5 hb7 hx5
     rcases bft (decide (0 < t3)) with hb8 | hb8
     ·replace hx5 := L8 hb8 hx5
      obtain ⟨a29, ha29, hx5⟩ := bind_some hx5
      refine AWP.u (.j Z Z (.J Z Z Z (.j Z Z (.z Z Z Z hb6 (.j Z Z (.z Z Z Z hb6 (.j Z Z (.z Z Z Z hb6 (.geq Z Z Z (.O Z hb6 Z Z (.j Z Z (.z Z Z Z hb7 (.j Z Z (.z Z Z Z hb7 (.gtr Z Z Z (.z Z Z Z hb7 (.j Z Z (.z Z Z Z hb8 (.j Z Z (.z Z Z Z hb8 (.j Z Z (.z Z Z Z hb8 (.j Z Z (.z Z Z Z hb8 (.sub' Z Z Z (by omega) (.z Z Z Z hb8 (S.idx ha29 Z Z Z Z (.z Z Z Z hb8 (.ai Z Z Z Z (.z Z Z Z hb8 (.leq Z Z Z (.z Z Z Z hb7 (.U Z hb8 Z Z (.O Z hb7 Z Z (.nil ?_)))))))))))))))))))))))))))))))))))
      obtain rfl := oi hx5
      refine b6 (Sub.env ⟨Z, Z, Z, Z, Z, Z, Y⟩)
     ·replace hx5 := L5 hb8 hx5
      refine AWP.u (.j Z Z (.J Z Z Z (.j Z Z (.z Z Z Z hb6 (.j Z Z (.z Z Z Z hb6 (.j Z Z (.z Z Z Z hb6 (.geq Z Z Z (.O Z hb6 Z Z (.j Z Z (.z Z Z Z hb7 (.j Z Z (.z Z Z Z hb7 (.gtr Z Z Z (.z Z Z Z hb7 (.j Z Z (.B Z Z Z hb8 (.B Z Z Z hb8 (.B Z Z Z hb8 (.B Z Z Z hb8 (.B Z Z Z hb8 (.B Z Z Z hb8 (.B Z Z Z hb8 (.z Z Z Z hb7 (.O Z hb8 Z Z (.O Z hb7 Z Z (.nil ?_))))))))))))))))))))))))))))
      obtain rfl := oi hx5
      refine b6 (Sub.env ⟨Z, Z, Z, Z, Z, Z, Y⟩)
  ·refine AWP.ad Z h (fun hc9 h => ?_) (fun hc9 h => ?_)
   ·refine AWP.q (.u (.v Z Z (.nil (b6 (.ret (k9 (e6 ?_)))))))
    obtain rfl := oi h
    refine e6 ⟨_, Z, Z, ?_⟩
    exact Done.ret Z Z
   ·refine AWP.skip (e9 (b6 (.u (.add Z Z Z (by omega) (.j Z Z (.nil ?_))))))
    obtain rfl := oi h
    refine b6 ⟨_, Z, ?_⟩
    exact Sub.env ⟨Z, Z, Z, Z, Z, Y⟩
 ·intro e s hq
  rcases oo with u | x
  ·try dsimp only at h hq
   obtain ⟨rfl, hs⟩ := hq
   refine ⟨_, hs, ?_⟩
   refine j7 (b6 (.q (.u (.v Z Z (.nil (b6 (.ret ?_)))))))
   obtain rfl := oi h
   exact Done.ret Z Z
  ·try dsimp only at h hq
   obtain ⟨rfl, hs⟩ := hq
   refine ⟨_, Sub.refl _ _, ?_⟩
   refine k9 (e6 ?_)
   obtain rfl := oi h
   exact hs
theorem A4 {xv : Int} {r : Bool} (h : B9 xv = some r) : e8 prog 92 [.c (int xv)] (.c (bool r)) := by
 unfold e8
 refine FnOk.enter (rs := [.t 2]) func92 Z ntmps92 results92 Z ⟨trivial, Y⟩ (by kernel_rfl) Z ?_
 unfold B9 at h
 refine AWP.q (.u (.v Z Z (.nil (b6 (.q (.u (.j Z Z (.j Z Z (.neq Z Z Z (.v Z Z (.nil (b6 (.ret ?_)))))))))))))
 obtain rfl := oi h
 exact Done.ret Z Z
theorem cmp_Less_int_ok {xv : Int} {yv : Int} {r : Bool} (h : Q0 xv yv = some r) : e8 prog 105 [.c (int xv), .c (int yv)] (.c (bool r)) := by
 unfold e8
 refine FnOk.enter (rs := [.t 4]) func105 Z ntmps105 results105 Z ⟨trivial, Y⟩ (by kernel_rfl) Z ?_
 unfold Q0 at h
 refine AWP.q (.u (.v Z Z (.nil (b6 ?_))))
 obtain ⟨t3, hx4, h⟩ := bind_some h
 refine AWP.seqJ (⟨[(4, .c (bool t3))], []⟩) ?_ ?_
 ·obtain ⟨a6, ha6, hx4⟩ := bind_some hx4
  rcases bft (a6) with hb5 | hb5
  ·replace hx4 := K9 hb5 hx4
   obtain ⟨a9, ha9, hx4⟩ := bind_some hx4
   rcases bft (!a9) with hb6 | hb6
   ·replace hx4 := K9 hb6 hx4
    refine AWP.u (.j Z Z (.F Z Z Z Z (A4 ha6) Z (.j Z Z (.z Z Z Z hb5 (.j Z Z (.z Z Z Z hb5 (.F Z Z Z Z (A4 ha9) Z (.z Z Z Z hb5 (.ae Z Z (.U Z hb5 Z Z (.j Z Z (.B Z Z Z hb6 (.B Z Z Z hb6 (.B Z Z Z hb6 (.U Z hb6 Z Z (.v Z Z (.nil ?_)))))))))))))))))
    obtain rfl := oi hx4
    refine b6 (Sub.env ⟨Z, Y⟩)
   ·replace hx4 := L3 hb6 hx4
    refine AWP.u (.j Z Z (.F Z Z Z Z (A4 ha6) Z (.j Z Z (.z Z Z Z hb5 (.j Z Z (.z Z Z Z hb5 (.F Z Z Z Z (A4 ha9) Z (.z Z Z Z hb5 (.ae Z Z (.U Z hb5 Z Z (.j Z Z (.z Z Z Z hb6 (.j Z Z (.z Z Z Z hb6 (.j Z Z (.z Z Z Z hb6 (.J Z Z Z (.O Z hb6 Z Z (.v Z Z (.nil ?_))))))))))))))))))))
    obtain rfl := oi hx4
    refine b6 (Sub.env ⟨Z, Y⟩)
  ·replace hx4 := L3 hb5 hx4
   refine AWP.u (.j Z Z (.F Z Z Z Z (A4 ha6) Z (.j Z Z (.B Z Z Z hb5 (.B Z Z Z hb5 (.B Z Z Z hb5 (.O Z hb5 Z Z (.j Z Z (.z Z Z Z Z (.j Z Z (.z Z Z Z Z (.j Z Z (.z Z Z Z Z (.J Z Z Z (.O Z Z Z Z (.v Z Z (.nil ?_)))))))))))))))))
   obtain rfl := oi hx4
   refine b6 (Sub.env ⟨Z, Y⟩)
 ·refine AWP.ret ?_
  obtain rfl := oi h
  exact Done.ret Z Z
theorem O1 {xv : Int} {r : Bool} (h : G9 xv = some r) : e8 prog 106 [.c (int xv)] (.c (bool r)) := by
 unfold e8
 refine FnOk.enter (rs := [.t 2]) func106 Z ntmps106 results106 Z ⟨trivial, Y⟩ (by kernel_rfl) Z ?_
 unfold G9 at h
 refine AWP.q (.u (.v Z Z (.nil (b6 (.q (.u (.j Z Z (.j Z Z (.neq Z Z Z (.v Z Z (.nil (b6 (.ret ?_)))))))))))))
 obtain rfl := oi h
 exact Done.ret Z Z
theorem X8 {xv : List Int} {target : Int} {r : Int × Bool} (h : o8 xv target = some r) : e8 prog 97 [.c (row 1 intI xv), .c (int target)] (.tup [.c (int r.1), .c (bool r.2)]) := by
 unfold e8
 refine FnOk.enter (rs := [.t 4, .t 5]) func97 Z ntmps97 results97 Z ⟨trivial, trivial, Y⟩ (by kernel_rfl) Z ?_
 unfold o8 at h
 refine AWP.q (.u (.v Z Z (.v Z Z (.nil (b6 (.q (.u (.j Z Z (S.len Z Z (fun hl11 => .v Z Z (.nil (b6 (.q (.u (.j Z Z (.v Z Z (.v Z Z (.nil (b6 (.q (.aa ?_)))))))))))))))))))))
 obtain ⟨iv5, ho1, h⟩ := bind_some h
 refine AWP.loopS ho1 (fun (iv3, j4) => ⟨[(0, .c (row 1 intI xv)), (1, .c (int target)), (6, .c (int (xv.length : Int))), (7, .c (int iv3)), (8, .c (int j4))], []⟩) (fun iv5 e st => e = .exit 0 ∧ Sub [] st ⟨[(0, .c (row 1 intI xv)), (1, .c (int target)), (6, .c (int (xv.length : Int))), (7, .c (int iv5))], []⟩) ?_ ?_ ?_
 ·try dsimp only
  exact Sub.env ⟨Z, Z, Z, Z, Z, Y⟩
 ·intro s o h
  obtain ⟨iv3, j4⟩ := s
  unfold v6 at h
  try dsimp only at h ⊢
  refine AWP.q (.q (.u (.j Z Z (.j Z Z (.J Z Z Z (.nil (b6 (.ite Z h (fun hc6 h => ?_) (fun hc6 h => ?_)))))))))
  ·refine AWP.skip (b6 (.aa (.q (.u (.j Z Z (.j Z Z (S.add Z Z Z (.convInt Z Z (.shr Z Z Z (by first | decide | omega) Z (.convInt Z Z (.v Z Z (.nil (b6 (.q ?_))))))))))))))
   obtain ⟨a24, ha24, a27, ha27, h⟩ := b2 h
   refine AWP.u (.j Z Z (.j Z Z (S.idx ha24 Z Z Z Z (.ai Z Z Z Z (.j Z Z (.F Z Z Z Z (cmp_Less_int_ok ha27) Z (.nil (b6 (.ad Z h (fun hc7 h => ?_) (fun hc7 h => ?_))))))))))
   ·refine AWP.u (.j Z Z (S.add Z Z Z (.v Z Z (.nil (e9 ?_)))))
    obtain rfl := oi h
    refine b6 ⟨_, Z, ?_⟩
    exact Sub.env ⟨Z, Z, Z, Z, Z, Y⟩
   ·refine AWP.u (.j Z Z (.v Z Z (.nil (e9 ?_))))
    obtain rfl := oi h
    refine b6 ⟨_, Z, ?_⟩
    exact Sub.env ⟨Z, Z, Z, Z, Z, Y⟩
  ·refine AWP.exit (e7 ?_)
   obtain rfl := oi h
   refine e7 ⟨_, Z, Z, ?_⟩
   exact Sub.env ⟨Z, Z, Z, Z, Y⟩
 ·intro e s hq
  obtain ⟨rfl, hs⟩ := hq
  refine ⟨_, hs, ?_⟩
  refine j7 (b6 ?_)
  obtain ⟨t8, hx9, h⟩ := bind_some h
  refine AWP.seqJ (⟨[(4, .c (int iv5)), (5, .c (bool t8))], []⟩) ?_ ?_
  ·rcases bft (decide (iv5 < (xv.length : Int))) with hb10 | hb10
   ·replace hx9 := L8 hb10 hx9
    obtain ⟨a38, ha38, hx9⟩ := bind_some hx9
    rcases bft (decide (a38 = target)) with hb11 | hb11
    ·replace hx9 := L8 hb11 hx9
     refine AWP.u (.j Z Z (.j Z Z (.j Z Z (.J Z Z Z (.j Z Z (.z Z Z Z hb10 (.j Z Z (.z Z Z Z hb10 (.j Z Z (.z Z Z Z hb10 (S.idx ha38 Z Z Z Z (.z Z Z Z hb10 (.ai Z Z Z Z (.z Z Z Z hb10 (.j Z Z (.z Z Z Z hb10 (.ab Z Z Z (.z Z Z Z hb10 (.j Z Z (.B Z Z Z hb11 (.B Z Z Z hb11 (.B Z Z Z hb11 (.B Z Z Z hb11 (.B Z Z Z hb11 (.B Z Z Z hb11 (.af Z Z Z (.af Z Z Z (.B Z Z Z hb11 (.z Z Z Z hb10 (.U Z hb11 Z Z (.U Z hb10 Z Z (.v Z Z (.v Z Z (.nil ?_))))))))))))))))))))))))))))))))))
     obtain rfl := oi hx9
     refine b6 (Sub.env ⟨Z, Z, Y⟩)
    ·replace hx9 := L5 hb11 hx9
     obtain ⟨a45, ha45, a47, ha47, hx9⟩ := b2 hx9
     rcases bft (a47) with hb12 | hb12
     ·replace hx9 := K9 hb12 hx9
      obtain ⟨a50, ha50, hx9⟩ := bind_some hx9
      refine AWP.u (.j Z Z (.j Z Z (.j Z Z (.J Z Z Z (.j Z Z (.z Z Z Z hb10 (.j Z Z (.z Z Z Z hb10 (.j Z Z (.z Z Z Z hb10 (S.idx ha38 Z Z Z Z (.z Z Z Z hb10 (.ai Z Z Z Z (.z Z Z Z hb10 (.j Z Z (.z Z Z Z hb10 (.ab Z Z Z (.z Z Z Z hb10 (.j Z Z (.z Z Z Z hb11 (.j Z Z (.z Z Z Z hb11 (.j Z Z (.z Z Z Z hb11 (S.idx ha45 Z Z Z Z (.z Z Z Z hb11 (.ai Z Z Z Z (.z Z Z Z hb11 (.F Z Z Z Z (O1 ha47) Z (.z Z Z Z hb11 (.j Z Z (.z Z Z Z hb12 (.j Z Z (.z Z Z Z hb12 (.F Z Z Z Z (O1 ha50) Z (.z Z Z Z hb11 (.U Z hb12 Z Z (.z Z Z Z hb10 (.O Z hb11 Z Z (.U Z hb10 Z Z (.v Z Z (.v Z Z (.nil ?_)))))))))))))))))))))))))))))))))))))))))))
      obtain rfl := oi hx9
      refine b6 (Sub.env ⟨Z, Z, Y⟩)
     ·replace hx9 := L3 hb12 hx9
      refine AWP.u (.j Z Z (.j Z Z (.j Z Z (.J Z Z Z (.j Z Z (.z Z Z Z hb10 (.j Z Z (.z Z Z Z hb10 (.j Z Z (.z Z Z Z hb10 (S.idx ha38 Z Z Z Z (.z Z Z Z hb10 (.ai Z Z Z Z (.z Z Z Z hb10 (.j Z Z (.z Z Z Z hb10 (.ab Z Z Z (.z Z Z Z hb10 (.j Z Z (.z Z Z Z hb11 (.j Z Z (.z Z Z Z hb11 (.j Z Z (.z Z Z Z hb11 (S.idx ha45 Z Z Z Z (.z Z Z Z hb11 (.ai Z Z Z Z (.z Z Z Z hb11 (.F Z Z Z Z (O1 ha47) Z (.z Z Z Z hb11 (.j Z Z (.B Z Z Z hb12 (.B Z Z Z hb12 (.z Z Z Z hb11 (.O Z hb12 Z Z (.z Z Z Z hb10 (.O Z hb11 Z Z (.U Z hb10 Z Z (.v Z Z (.v Z Z (.nil ?_)))))))))))))))))))))))))))))))))))))))))
      obtain rfl := oi hx9
      refine b6 (Sub.env ⟨Z, Z, Y⟩)
   ·replace hx9 := L5 hb10 hx9
    refine AWP.u (.j Z Z (.j Z Z (.j Z Z (.J Z Z Z (.j Z Z (.B Z Z Z hb10 (.B Z Z Z hb10 (.B Z Z Z hb10 (.B Z Z Z hb10 (.B Z Z Z hb10 (.B Z Z Z hb10 (.B Z Z Z hb10 (.af Z Z Z (.af Z Z Z (.af Z Z Z (.af Z Z Z (.af Z Z Z (.af Z Z Z (.af Z Z Z (.af Z Z Z (.af Z Z Z (.B Z Z Z hb10 (.O Z hb10 Z Z (.v Z Z (.v Z Z (.nil ?_))))))))))))))))))))))))))
    obtain rfl := oi hx9
    refine b6 (Sub.env ⟨Z, Z, Y⟩)
  ·refine AWP.ret ?_
   obtain rfl := oi h
   exact Done.ret Z Z
theorem al1 {xv : Int} {c2 : List Int} {r : Bool} (h : Q7 xv c2 = some r) : e8 prog 96 [.c (int xv), .c (.imm (.ipt [.sl 1 (List.map intI c2)]))] (.c (bool r)) := by
 unfold e8
 refine FnOk.enter (rs := [.t 3]) func96 Z ntmps96 results96 Z ⟨trivial, Y⟩ (by kernel_rfl) Z ?_
 unfold Q7 at h
 refine AWP.q (.u (.v Z Z (.nil (b6 (.q ?_)))))
 obtain ⟨a9, ha9, h⟩ := bind_some h
 refine AWP.u (.ai Z Z Z Z (.j Z Z (.F Z Z Z Z (X8 ha9) Z (.j Z Z (.ac Z Z Z (.ac Z Z Z (.v Z Z (.v Z Z (.nil (b6 (.q (.u (.j Z Z (.v Z Z (.nil (b6 (.ret ?_)))))))))))))))))
 obtain rfl := oi h
 exact Done.ret Z Z
theorem aa9 {sv : List Int} {fv : Int → Option Bool} {r : Int} {fvfv : FuncId} {cvfv : List C} (hcvfv : C.okL 0 cvfv = true) (hfv : ∀ {y1 : Int} {z : Bool}, fv y1 = some z → e8 prog fvfv ([.c (int y1)] ++ cvfv.map T.c) (.c (bool z))) (h : B0 sv fv = some r) : e8 prog 104 [.c (row 1 intI sv), .c (.fn fvfv cvfv)] (.c (int r)) := by
 unfold e8
 refine FnOk.enter (rs := [.t 4]) func104 Z ntmps104 results104 Z ⟨trivial, Y⟩ (by kernel_rfl) Z ?_
 unfold B0 at h
 refine AWP.q (.u (.v Z Z (.nil (b6 (.q (.q (.u (.j Z Z (S.len Z Z (fun hl7 => .j Z Z (.nil (b6 (.aa ?_)))))))))))))
 obtain ⟨oo, ho1, h⟩ := bind_some h
 refine AWP.rngS ho1 (fun t3 _ => ⟨[(0, .c (row 1 intI sv)), (1, .c (.fn fvfv cvfv)), (7, .c (int (sv.length : Int))), (8, .c (int t3))], []⟩) (fun o e st => match o with | .inl _ => e = .exit 0 ∧ Sub [] st ⟨[], []⟩ | .inr x => e = .ret ∧ Done [.t 4] (fun t _ => t = .c (int x)) .ret st) ?_ ?_ ?_ ?_
 ·try dsimp only
  exact Sub.env ⟨Z, Z, Z, Z, Y⟩
 ·intro t3 s hlot3 hltt3 _
  try dsimp only
  refine AWP.q (.u (.J Z Z Z (.nil (b6 (.q (.ag Z hltt3 (.exit (e7 (e7 ⟨Z, ?_⟩)))))))))
  exact Sub.env trivial
 ·intro t3 s o hlot3 hltt3 h
  unfold y8 at h
  try dsimp only at h ⊢
  refine AWP.q (.u (.J Z Z Z (.nil (b6 (.q (.ah Z hltt3 (.skip (b6 (.q (.aa (.q (.u (.j Z Z (.v Z Z (.nil (b6 (.q ?_)))))))))))))))))
  obtain ⟨a14, ha14, a16, ha16, h⟩ := b2 h
  refine AWP.u (.j Z Z (.j Z Z (.j Z Z (S.idx ha14 Z Z Z Z (.ai Z Z Z Z (.F Z Z (okL_app Z hcvfv) Z (hfv ha16) Z (.nil (b6 (.ad Z h (fun hc4 h => ?_) (fun hc4 h => ?_))))))))))
  ·refine AWP.q (.u (.j Z Z (.v Z Z (.nil (b6 (.ret (k9 (e6 ?_))))))))
   obtain rfl := oi h
   refine e6 ⟨_, Z, Z, ?_⟩
   exact Done.ret Z Z
  ·refine AWP.skip (e9 (b6 (.u (.add Z Z Z (by omega) (.j Z Z (.nil ?_))))))
   obtain rfl := oi h
   refine b6 ⟨_, Z, ?_⟩
   exact Sub.env ⟨Z, Z, Z, Z, Y⟩
 ·intro e s hq
  rcases oo with u | x
  ·try dsimp only at h hq
   obtain ⟨rfl, hs⟩ := hq
   refine ⟨_, hs, ?_⟩
   refine j7 (b6 (.q (.u (.v Z Z (.nil (b6 (.ret ?_)))))))
   obtain rfl := oi h
   exact Done.ret Z Z
  ·try dsimp only at h hq
   obtain ⟨rfl, hs⟩ := hq
   refine ⟨_, Sub.refl _ _, ?_⟩
   refine k9 (e6 ?_)
   obtain rfl := oi h
   exact hs
theorem X3 {sv : List Int} {fv : Int → Option Bool} {r : Bool} {fvfv : FuncId} {cvfv : List C} (hcvfv : C.okL 0 cvfv = true) (hfv : ∀ {y1 : Int} {z : Bool}, fv y1 = some z → e8 prog fvfv ([.c (int y1)] ++ cvfv.map T.c) (.c (bool z))) (h : u3 sv fv = some r) : e8 prog 95 [.c (row 1 intI sv), .c (.fn fvfv cvfv)] (.c (bool r)) := by
 unfold e8
 refine FnOk.enter (rs := [.t 4]) func95 Z ntmps95 results95 Z ⟨trivial, Y⟩ (by kernel_rfl) Z ?_
 unfold u3 at h
 refine AWP.q (.u (.v Z Z (.nil (b6 (.q ?_)))))
 obtain ⟨a7, ha7, h⟩ := bind_some h
 refine AWP.u (.j Z Z (.j Z Z (.F Z Z (by simp [T.okL, T.ok, C.ok, C.okL, hcvfv]) Z (aa9 hcvfv hfv ha7) Z (.geq Z Z Z (.v Z Z (.nil (b6 (.ret ?_))))))))
 obtain rfl := oi h
 exact Done.ret Z Z
theorem strips_Meets_ok {av : List Int} {bv : List Int} {r : Bool} (h : Q4 av bv = some r) : e8 prog 79 [.c (row 1 intI av), .c (row 1 intI bv)] (.c (bool r)) := by
 unfold e8
 refine FnOk.enter (rs := [.t 4]) func79 Z ntmps79 results79 Z ⟨trivial, Y⟩ (by kernel_rfl) Z ?_
 unfold Q4 at h
 refine AWP.q (.u (W.box Z Z Z Z Z Z (.v Z Z (.nil (b6 (.q ?_))))))
 obtain ⟨a7, ha7, h⟩ := bind_some h
 refine AWP.u (.j Z Z (.makeFunc Z Z (.callL Z Z (.cons (.c .imm) (.cons (.c (.fn (.cons (.ptr (es := [.sl 1 (List.map intI bv)]) Z Z (.cons .imm .nil)) .nil))) .nil)) Z (X3 Z (fun hy => al1 hy) ha7) Z ?_)))
 refine AOps.v Z Z (.nil (b6 (.ret ?_)))
 obtain rfl := oi h
 exact Done.ret Z Z
theorem ak7 {ov : f5} {facts : Int} {r : Int} (h : I3 ov facts = some r) : e8 prog 66 [.agg [row 1 intI ov.pre, row 1 intI ov.add, row 1 intI ov.del, int ov.cost], .c (int facts)] (.c (int r)) := by
 unfold e8
 refine FnOk.enter (rs := [.t 4]) func66 Z ntmps66 results66 Z ⟨trivial, Y⟩ (by kernel_rfl) Z ?_
 unfold I3 at h
 refine AWP.q (.u (W.box Z Z Z Z Z Z (.v Z Z (.nil (b6 (.q (.aa ?_)))))))
 obtain ⟨t3, hx4, h⟩ := bind_some h
 refine AWP.seqJ (⟨[(2, .c (.ptr 0 0 0)), (5, .c (bool t3))], [.one (.cells 4 [[row 1 intI ov.pre, row 1 intI ov.add, row 1 intI ov.del, int ov.cost]])]⟩) ?_ ?_
 ·obtain ⟨a9, ha9, hx4⟩ := bind_some hx4
  rcases bft (!a9) with hb5 | hb5
  ·replace hx4 := K9 hb5 hx4
   refine AWP.u (W.fieldAddr Z Z Z Z (.E Z Z Z Z Z Z (.j Z Z (.F Z Z Z Z (q8 ha9) Z (.ae Z Z (.j Z Z (.B Z Z Z hb5 (.B Z Z Z hb5 (.B Z Z Z hb5 (.B Z Z Z hb5 (.B Z Z Z hb5 (.U Z hb5 Z Z (.j Z Z (.B Z Z Z Z (.B Z Z Z Z (.B Z Z Z Z (.B Z Z Z Z (.B Z Z Z Z (.U Z Z Z Z (.j Z Z (.B Z Z Z Z (.B Z Z Z Z (.B Z Z Z Z (.B Z Z Z Z (.B Z Z Z Z (.U Z Z Z Z (.v Z Z (.nil ?_))))))))))))))))))))))))))))
   obtain rfl := oi hx4
   refine b6 (Sub.env ⟨Z, Z, Y⟩)
  ·replace hx4 := L3 hb5 hx4
   obtain ⟨a15, ha15, hx4⟩ := bind_some hx4
   rcases bft (!a15) with hb6 | hb6
   ·replace hx4 := K9 hb6 hx4
    refine AWP.u (W.fieldAddr Z Z Z Z (.E Z Z Z Z Z Z (.j Z Z (.F Z Z Z Z (q8 ha9) Z (.ae Z Z (.j Z Z (.z Z Z Z hb5 (W.fieldAddr Z Z Z Z (.z Z Z Z hb5 (.E Z Z Z Z Z Z (.z Z Z Z hb5 (.j Z Z (.z Z Z Z hb5 (.F Z Z Z Z (q8 ha15) Z (.z Z Z Z hb5 (.ae Z Z (.O Z hb5 Z Z (.j Z Z (.B Z Z Z hb6 (.B Z Z Z hb6 (.B Z Z Z hb6 (.B Z Z Z hb6 (.B Z Z Z hb6 (.U Z hb6 Z Z (.j Z Z (.B Z Z Z Z (.B Z Z Z Z (.B Z Z Z Z (.B Z Z Z Z (.B Z Z Z Z (.U Z Z Z Z (.v Z Z (.nil ?_)))))))))))))))))))))))))))))))))
    obtain rfl := oi hx4
    refine b6 (Sub.env ⟨Z, Z, Y⟩)
   ·replace hx4 := L3 hb6 hx4
    obtain ⟨a22, ha22, hx4⟩ := bind_some hx4
    rcases bft (!a22) with hb7 | hb7
    ·replace hx4 := K9 hb7 hx4
     refine AWP.u (W.fieldAddr Z Z Z Z (.E Z Z Z Z Z Z (.j Z Z (.F Z Z Z Z (q8 ha9) Z (.ae Z Z (.j Z Z (.z Z Z Z hb5 (W.fieldAddr Z Z Z Z (.z Z Z Z hb5 (.E Z Z Z Z Z Z (.z Z Z Z hb5 (.j Z Z (.z Z Z Z hb5 (.F Z Z Z Z (q8 ha15) Z (.z Z Z Z hb5 (.ae Z Z (.O Z hb5 Z Z (.j Z Z (.z Z Z Z hb6 (W.fieldAddr Z Z Z Z (.z Z Z Z hb6 (.E Z Z Z Z Z Z (.z Z Z Z hb6 (.j Z Z (.z Z Z Z hb6 (.F Z Z Z Z (q8 ha22) Z (.z Z Z Z hb6 (.ae Z Z (.O Z hb6 Z Z (.j Z Z (.B Z Z Z hb7 (.B Z Z Z hb7 (.B Z Z Z hb7 (.B Z Z Z hb7 (.B Z Z Z hb7 (.U Z hb7 Z Z (.v Z Z (.nil ?_))))))))))))))))))))))))))))))))))))))
     obtain rfl := oi hx4
     refine b6 (Sub.env ⟨Z, Z, Y⟩)
    ·replace hx4 := L3 hb7 hx4
     obtain ⟨a30, ha30, hx4⟩ := bind_some hx4
     refine AWP.u (W.fieldAddr Z Z Z Z (.E Z Z Z Z Z Z (.j Z Z (.F Z Z Z Z (q8 ha9) Z (.ae Z Z (.j Z Z (.z Z Z Z hb5 (W.fieldAddr Z Z Z Z (.z Z Z Z hb5 (.E Z Z Z Z Z Z (.z Z Z Z hb5 (.j Z Z (.z Z Z Z hb5 (.F Z Z Z Z (q8 ha15) Z (.z Z Z Z hb5 (.ae Z Z (.O Z hb5 Z Z (.j Z Z (.z Z Z Z hb6 (W.fieldAddr Z Z Z Z (.z Z Z Z hb6 (.E Z Z Z Z Z Z (.z Z Z Z hb6 (.j Z Z (.z Z Z Z hb6 (.F Z Z Z Z (q8 ha22) Z (.z Z Z Z hb6 (.ae Z Z (.O Z hb6 Z Z (.j Z Z (.z Z Z Z hb7 (W.fieldAddr Z Z Z Z (.z Z Z Z hb7 (.E Z Z Z Z Z Z (.z Z Z Z hb7 (W.fieldAddr Z Z Z Z (.z Z Z Z hb7 (.E Z Z Z Z Z Z (.z Z Z Z hb7 (.F Z Z Z Z (strips_Meets_ok ha30) Z (.O Z hb7 Z Z (.v Z Z (.nil ?_)))))))))))))))))))))))))))))))))))))))))))
     obtain rfl := oi hx4
     refine b6 (Sub.env ⟨Z, Z, Y⟩)
 ·refine AWP.ad Z h (fun hc8 h => ?_) (fun hc8 h => ?_)
  ·refine AWP.q (.u (.v Z Z (.nil (b6 (.ret (k9 (e6 ?_)))))))
   obtain rfl := oi h
   exact Done.ret Z Z
  ·refine AWP.seqJ (⟨[(32, .c (bool ((decide (ov.cost < 0)) || (decide (100 < ov.cost)))))], [.one (.cells 4 [[row 1 intI ov.pre, row 1 intI ov.add, row 1 intI ov.del, int ov.cost]])]⟩) ?_ ?_
   ·rcases bft (decide (ov.cost < 0)) with hb1 | hb1
    ·refine AWP.u (W.fieldAddr Z Z Z Z (.E Z Z Z Z Z Z (.J Z Z Z (.j Z Z (.B Z Z Z hb1 (.B Z Z Z hb1 (.B Z Z Z hb1 (.U Z hb1 Z Z (.v Z Z (.nil (b6 ?_)))))))))))
     simp only [s5 hb1, or_t hb1, Bool.false_or, Bool.true_or, Bool.false_and, Bool.true_and]
     exact Sub.env ⟨Z, Y⟩
    ·refine AWP.u (W.fieldAddr Z Z Z Z (.E Z Z Z Z Z Z (.J Z Z Z (.j Z Z (.z Z Z Z hb1 (W.fieldAddr Z Z Z Z (.z Z Z Z hb1 (.E Z Z Z Z Z Z (.z Z Z Z hb1 (.gtr Z Z Z (.O Z hb1 Z Z (.v Z Z (.nil (b6 ?_))))))))))))))
     simp only [E3 hb1, or_f hb1, Bool.false_or, Bool.true_or, Bool.false_and, Bool.true_and]
     exact Sub.env ⟨Z, Y⟩
   ·refine AWP.ad Z h (fun hc9 h => ?_) (fun hc9 h => ?_)
    ·refine AWP.q (.u (.v Z Z (.nil (b6 (.ret (k9 (e6 ?_)))))))
     obtain rfl := oi h
     exact Done.ret Z Z
    ·refine AWP.skip (e9 (b6 (.q (.u (.v Z Z (.nil (b6 (.ret ?_))))))))
     obtain rfl := oi h
     exact Done.ret Z Z
theorem I8 {t : d9} {r : i9} (h : p9 t = some r) : e8 prog 43 [.agg (tT t)] (.agg [int r.code, int r.index]) := by
 unfold e8
 refine FnOk.enter (rs := [.cell 2 27 2]) func43 Z ntmps43 results43 Z ⟨rv _ Z, Y⟩ (by kernel_rfl) Z ?_
 unfold p9 at h
 refine AWP.q (.u (W.box Z Z Z Z Z Z (W.alloc Z Z Z Z (.nil (b6 (.q (.aa (.seqJ (⟨[(1, .c (.ptr 0 0 0)), (2, .c (.ptr 1 0 0)), (6, .c (bool ((decide (t.facts < 0)) || (decide (24 < t.facts)))))], [.one (.cells 4 [(tT t)]), .one (.cells 2 [[int 0, int 0]])]⟩) ?_ ?_))))))))
 ·rcases bft (decide (t.facts < 0)) with hb1 | hb1
  ·refine AWP.u (W.fieldAddr Z Z Z Z (.E Z Z Z Z Z Z (.J Z Z Z (.j Z Z (.B Z Z Z hb1 (.B Z Z Z hb1 (.B Z Z Z hb1 (.U Z hb1 Z Z (.v Z Z (.nil (b6 ?_)))))))))))
   simp only [s5 hb1, or_t hb1, Bool.false_or, Bool.true_or, Bool.false_and, Bool.true_and]
   exact Sub.env ⟨Z, Z, Z, Y⟩
  ·refine AWP.u (W.fieldAddr Z Z Z Z (.E Z Z Z Z Z Z (.J Z Z Z (.j Z Z (.z Z Z Z hb1 (W.fieldAddr Z Z Z Z (.z Z Z Z hb1 (.E Z Z Z Z Z Z (.z Z Z Z hb1 (.gtr Z Z Z (.O Z hb1 Z Z (.v Z Z (.nil (b6 ?_))))))))))))))
   simp only [E3 hb1, or_f hb1, Bool.false_or, Bool.true_or, Bool.false_and, Bool.true_and]
   exact Sub.env ⟨Z, Z, Z, Y⟩
 ·refine AWP.ad Z h (fun hc2 h => ?_) (fun hc2 h => ?_)
  ·refine AWP.q (.u (W.build Z Z Z Z (W.storeAgg Z Z Z Z Z Z Z (.nil (b6 (.ret (k9 (e6 ?_))))))))
   obtain rfl := oi h
   exact Done.ret Z Z
  ·refine AWP.q ?_
   obtain ⟨a21, ha21, h⟩ := bind_some h
   refine AWP.u (W.fieldAddr Z Z Z Z (.E Z Z Z Z Z Z (W.fieldAddr Z Z Z Z (.E Z Z Z Z Z Z (.F Z Z Z Z (q8 ha21) Z (.ae Z Z (.v Z Z (.nil (b6 (.ad Z h (fun hc3 h => ?_) (fun hc3 h => ?_)))))))))))
   ·refine AWP.q (.u (W.build Z Z Z Z (W.storeAgg Z Z Z Z Z Z Z (.nil (b6 (.ret (k9 (e6 ?_))))))))
    obtain rfl := oi h
    exact Done.ret Z Z
   ·refine AWP.q ?_
    obtain ⟨a29, ha29, h⟩ := bind_some h
    refine AWP.u (W.fieldAddr Z Z Z Z (.E Z Z Z Z Z Z (W.fieldAddr Z Z Z Z (.E Z Z Z Z Z Z (.F Z Z Z Z (q8 ha29) Z (.ae Z Z (.v Z Z (.nil (b6 (.ad Z h (fun hc4 h => ?_) (fun hc4 h => ?_)))))))))))
    ·refine AWP.q (.u (W.build Z Z Z Z (W.storeAgg Z Z Z Z Z Z Z (.nil (b6 (.ret (k9 (e6 ?_))))))))
     obtain rfl := oi h
     exact Done.ret Z Z
    ·refine AWP.q (.u (W.fieldAddr Z Z Z Z (.E Z Z Z Z Z Z (S.len Z Z (fun hl35 => .gtr Z Z Z (.v Z Z (.nil (b6 (.ite Z h (fun hc5 h => ?_) (fun hc5 h => ?_))))))))))
     ·refine AWP.q (.u (W.build Z Z Z Z (W.storeAgg Z Z Z Z Z Z Z (.nil (b6 (.ret (k9 (e6 ?_))))))))
      obtain rfl := oi h
      exact Done.ret Z Z
     ·refine AWP.skip (e9 (b6 (.q (.q (.u (W.fieldAddr Z Z Z Z (.E Z Z Z Z Z Z (S.len Z Z (fun hl40 => .j Z Z (.nil (b6 (.aa ?_))))))))))))
      obtain ⟨oo, ho1, h⟩ := bind_some h
      refine AWP.rngS ho1 (fun t6 _ => ⟨[(1, .c (.ptr 0 0 0)), (2, .c (.ptr 1 0 0)), (39, .c (row 4 i3 t.operators)), (40, .c (int (t.operators.length : Int))), (41, .c (int t6))], [.one (.cells 4 [(tT t)]), .one (.cells 2 [[int 0, int 0]])]⟩) (fun o e st => match o with | .inl _ => e = .exit 1 ∧ Sub [] st ⟨[(2, .c (.ptr 1 0 0))], [.one (.cells 4 [(tT t)]), .one (.cells 2 [[int 0, int 0]])]⟩ | .inr x => e = .ret ∧ Done [.cell 2 27 2] (fun t _ => t = .agg [int x.code, int x.index]) .ret st) ?_ ?_ ?_ ?_
      ·try dsimp only
       exact Sub.env ⟨Z, Z, Z, Z, Z, Y⟩
      ·intro t6 s hlot6 hltt6 _
       try dsimp only
       refine AWP.q (.u (.J Z Z Z (.nil (b6 (.q (.ag Z hltt6 (.exit (e7 (e7 ⟨Z, ?_⟩)))))))))
       exact Sub.env ⟨Z, Y⟩
      ·intro t6 s o hlot6 hltt6 h
       unfold D4 at h
       try dsimp only at h ⊢
       refine AWP.q (.u (.J Z Z Z (.nil (b6 (.q (.ah Z hltt6 (.skip (b6 (.q (.aa (.q ?_)))))))))))
       obtain ⟨a44, ha44, h⟩ := bind_some h
       refine AWP.u (.j Z Z (S.idx ha44 Z Z Z Z (W.loadIAgg Z Z Z Z Z (W.alloc Z Z Z Z (.v Z Z (W.storeAgg Z Z Z Z Z Z Z (.nil (b6 (.q ?_)))))))))
       obtain ⟨a49, ha49, h⟩ := bind_some h
       refine AWP.u (W.loadAgg Z Z Z Z Z Z Z (W.fieldAddr Z Z Z Z (.E Z Z Z Z Z Z (.F Z Z Z Z (ak7 ha49) Z (.v Z Z (.nil (b6 (.q (.u (.j Z Z (.neq Z Z Z (.nil (b6 (.iteN Z h (fun hc7 h => ?_) (fun hc7 h => ?_)))))))))))))))
       ·refine AWP.q (.u (.j Z Z (.j Z Z (W.build Z Z Z Z (W.storeAgg Z Z Z Z Z Z Z (.nil (b6 (.ret (k9 (e6 ?_))))))))))
        obtain rfl := oi h
        refine e6 ⟨_, Z, Z, ?_⟩
        exact Done.ret Z Z
       ·refine AWP.skip (e9 (b6 (.u (.add Z Z Z (by omega) (.j Z Z (.nil ?_))))))
        obtain rfl := oi h
        refine b6 ⟨_, Z, ?_⟩
        exact Sub.cut ⟨Z, Z, Z, Z, Z, Y⟩ Z ⟨.one Z, .one Z, Y⟩ Z
      ·intro e s hq
       rcases oo with u | x
       ·try dsimp only at h hq
        obtain ⟨rfl, hs⟩ := hq
        refine ⟨_, hs, ?_⟩
        refine j7 (b6 (.q (.u (W.build Z Z Z Z (W.storeAgg Z Z Z Z Z Z Z (.nil (b6 (.ret ?_))))))))
        obtain rfl := oi h
        exact Done.ret Z Z
       ·try dsimp only at h hq
        obtain ⟨rfl, hs⟩ := hq
        refine ⟨_, Sub.refl _ _, ?_⟩
        refine k9 (e6 ?_)
        obtain rfl := oi h
        exact hs
theorem R5 {t : d9} {op : Int} {r : i9} (h : C5 t op = some r) : e8 prog 28 [.agg (tT t), .c (int op)] (.agg [int r.code, int r.index]) := by
 unfold e8
 refine FnOk.enter (rs := [.cell 4 27 2]) func28 Z ntmps28 results28 Z ⟨rv _ Z, Y⟩ (by kernel_rfl) Z ?_
 unfold C5 at h
 refine AWP.q (.u (W.box Z Z Z Z Z Z (W.alloc Z Z Z Z (.nil (b6 (.q (.q ?_)))))))
 obtain ⟨a7, ha7, h⟩ := bind_some h
 refine AWP.u (W.loadAgg Z Z Z Z Z Z Z (.F Z Z Z Z (I8 ha7) Z (W.alloc Z Z Z Z (W.storeAgg Z Z Z Z Z Z Z (.nil (b6 (.q (.u (W.loadAgg Z Z Z Z Z Z Z (W.build Z Z Z Z (.neqP Z Z Z Z Z Z Z (.nil (b6 (.ad Z h (fun hc3 h => ?_) (fun hc3 h => ?_)))))))))))))))
 ·refine AWP.q (.u (W.loadAgg Z Z Z Z Z Z Z (W.storeAgg Z Z Z Z Z Z Z (.nil (b6 (.ret (e6 ?_)))))))
  obtain rfl := oi h
  exact Done.ret Z Z
 ·refine AWP.skip (b6 (.q (.seqJ (⟨[(4, .c (.ptr 1 0 0)), (20, .c (bool ((decide (op < 0)) || (decide ((t.operators.length : Int) ≤ op)))))], [.one (.cells 4 [(tT t)]), .one (.cells 2 [[int 0, int 0]]), .one (.cells 2 [[int a7.code, int a7.index]])]⟩) ?_ ?_)))
  ·rcases bft (decide (op < 0)) with hb1 | hb1
   ·refine AWP.u (.j Z Z (.J Z Z Z (.j Z Z (.B Z Z Z hb1 (.B Z Z Z hb1 (.B Z Z Z hb1 (.B Z Z Z hb1 (.B Z Z Z hb1 (.U Z hb1 Z Z (.nil (b6 ?_)))))))))))
    simp only [s5 hb1, or_t hb1, Bool.false_or, Bool.true_or, Bool.false_and, Bool.true_and]
    exact Sub.env ⟨Z, Z, Y⟩
   ·refine AWP.u (.j Z Z (.J Z Z Z (.j Z Z (.z Z Z Z hb1 (.j Z Z (.z Z Z Z hb1 (W.fieldAddr Z Z Z Z (.z Z Z Z hb1 (.E Z Z Z Z Z Z ?_)))))))))
    refine AOps.z Z Z Z hb1 ?_; refine S.len Z Z (fun hl18 => ?_)
    refine AOps.z Z Z Z hb1 (.geq Z Z Z (.O Z hb1 Z Z (.nil (b6 ?_))))
    simp only [E3 hb1, or_f hb1, Bool.false_or, Bool.true_or, Bool.false_and, Bool.true_and]
    exact Sub.env ⟨Z, Z, Y⟩
  ·refine AWP.ad Z h (fun hc4 h => ?_) (fun hc4 h => ?_)
   ·refine AWP.q (.u (W.build Z Z Z Z (W.storeAgg Z Z Z Z Z Z Z (.nil (b6 (.ret (e6 ?_)))))))
    obtain rfl := oi h
    exact Done.ret Z Z
   ·refine AWP.skip (b6 (.q (.u (W.build Z Z Z Z (W.storeAgg Z Z Z Z Z Z Z (.nil (b6 (.ret ?_))))))))
    obtain rfl := oi h
    exact Done.ret Z Z
theorem R4 {t : d9} {op : Int} {r : i9} (h : x6 t op = some r) : e8 prog 48 [.agg (tT t), .c (int op)] (.agg [int r.code, int r.index]) := by
 unfold e8
 refine FnOk.enter (rs := [.cell 4 27 2]) func48 Z ntmps48 results48 Z ⟨rv _ Z, Y⟩ (by kernel_rfl) Z ?_
 unfold x6 at h
 refine AWP.q (.u (W.box Z Z Z Z Z Z (W.alloc Z Z Z Z (.nil (b6 (.q (.q ?_)))))))
 obtain ⟨a7, ha7, h⟩ := bind_some h
 refine AWP.u (W.loadAgg Z Z Z Z Z Z Z (.F Z Z Z Z (I8 ha7) Z (W.alloc Z Z Z Z (W.storeAgg Z Z Z Z Z Z Z (.nil (b6 (.q (.u (W.loadAgg Z Z Z Z Z Z Z (W.build Z Z Z Z (.neqP Z Z Z Z Z Z Z (.nil (b6 (.ad Z h (fun hc3 h => ?_) (fun hc3 h => ?_)))))))))))))))
 ·refine AWP.q (.u (W.loadAgg Z Z Z Z Z Z Z (W.storeAgg Z Z Z Z Z Z Z (.nil (b6 (.ret (e6 ?_)))))))
  obtain rfl := oi h
  exact Done.ret Z Z
 ·refine AWP.skip (b6 (.q (.seqJ (⟨[(4, .c (.ptr 1 0 0)), (20, .c (bool ((decide (op < 0)) || (decide ((t.operators.length : Int) ≤ op)))))], [.one (.cells 4 [(tT t)]), .one (.cells 2 [[int 0, int 0]]), .one (.cells 2 [[int a7.code, int a7.index]])]⟩) ?_ ?_)))
  ·rcases bft (decide (op < 0)) with hb1 | hb1
   ·refine AWP.u (.j Z Z (.J Z Z Z (.j Z Z (.B Z Z Z hb1 (.B Z Z Z hb1 (.B Z Z Z hb1 (.B Z Z Z hb1 (.B Z Z Z hb1 (.U Z hb1 Z Z (.nil (b6 ?_)))))))))))
    simp only [s5 hb1, or_t hb1, Bool.false_or, Bool.true_or, Bool.false_and, Bool.true_and]
    exact Sub.env ⟨Z, Z, Y⟩
   ·refine AWP.u (.j Z Z (.J Z Z Z (.j Z Z (.z Z Z Z hb1 (.j Z Z (.z Z Z Z hb1 (W.fieldAddr Z Z Z Z (.z Z Z Z hb1 (.E Z Z Z Z Z Z ?_)))))))))
    refine AOps.z Z Z Z hb1 ?_; refine S.len Z Z (fun hl18 => ?_)
    refine AOps.z Z Z Z hb1 (.geq Z Z Z (.O Z hb1 Z Z (.nil (b6 ?_))))
    simp only [E3 hb1, or_f hb1, Bool.false_or, Bool.true_or, Bool.false_and, Bool.true_and]
    exact Sub.env ⟨Z, Z, Y⟩
  ·refine AWP.ad Z h (fun hc4 h => ?_) (fun hc4 h => ?_)
   ·refine AWP.q (.u (W.build Z Z Z Z (W.storeAgg Z Z Z Z Z Z Z (.nil (b6 (.ret (e6 ?_)))))))
    obtain rfl := oi h
    exact Done.ret Z Z
   ·refine AWP.skip (b6 (.q (.u (W.build Z Z Z Z (W.storeAgg Z Z Z Z Z Z Z (.nil (b6 (.ret ?_))))))))
    obtain rfl := oi h
    exact Done.ret Z Z
theorem ak5 {t : d9} {r : (List Int) × (List Int) × (List f5)} (h : D9 t = some r) : FnOk prog 49 [.agg (tT t)] (aa5 t) (fun tt ss => tt = .agg [int t.facts, .own 2 0 r.1.length, .own 3 0 r.2.1.length, .own 5 0 r.2.2.length] ∧ ss = [.dead, .one (.cells 4 [[int t.facts, .own 2 0 r.1.length, .own 3 0 r.2.1.length, .own 5 0 r.2.2.length]]), .one (vec 1 intI r.1), .one (vec 1 intI r.2.1), .dead, omOp 5 r.2.2]) := by
 refine FnOk.enter (rs := [.cell 2 25 4]) func49 Z ntmps49 results49 Z ⟨rv _ Z, Y⟩ (by kernel_rfl) Z ?_
 refine AWP.weak ?_
 unfold D9 at h
 refine AWP.q (.u (W.box Z Z Z Z Z Z (W.alloc Z Z Z Z (.nil (b6 (.q ?_))))))
 obtain ⟨a10, ha10, a13, ha13, h⟩ := b2 h
 refine AWP.sub (s' := ⟨[(0, .agg (tT t)), (1, .c (.ptr 0 0 0)), (2, .c (.ptr 1 0 0))], [.one (.cells 4 [(tT t)]), .one (.cells 4 [[int 0, .imm (.val nL), .imm (.val nL), .imm (.val nL)]]), .dead, .dead, .dead]⟩) (Sub.cut ⟨Z, Z, Z, Y⟩ Z ⟨.one Z, .one Z, .dead, .dead, .dead, Y⟩ Z) (.drawTI [.c (.ptr 0 0 0), .c (int t.facts), .c (.ptr 0 0 1), .c (row 1 intI t.init), .c (.own 2 0 a10.length), .c (.ptr 0 0 2), .c (row 1 intI t.goal), .c (.own 3 0 a13.length), .agg [int t.facts, .own 2 0 a10.length, .own 3 0 a13.length, .imm (.val nL)], .c (.ptr 4 0 0), .undef] [4, 7, 9, 10] [([], [.one (.cells 4 [(tT t)]), .one (.cells 4 [[int 0, .imm (.val nL), .imm (.val nL), .imm (.val nL)]]), .dead, .dead, .dead]), ([4], [.one (.cells 4 [(tT t)]), .one (.cells 4 [[int 0, .imm (.val nL), .imm (.val nL), .imm (.val nL)]]), .one (vec 1 intI a10), .dead, .dead]), ([4, 7], [.one (.cells 4 [(tT t)]), .one (.cells 4 [[int 0, .imm (.val nL), .imm (.val nL), .imm (.val nL)]]), .one (vec 1 intI a10), .one (vec 1 intI a13), .dead]), ([9], [.one (.cells 4 [(tT t)]), .one (.cells 4 [[int 0, .imm (.val nL), .imm (.val nL), .imm (.val nL)]]), .dead, .dead, .one (.cells 4 [[int 0, .imm (.val nL), .imm (.val nL), .imm (.val nL)]])]), ([4, 9], [.one (.cells 4 [(tT t)]), .one (.cells 4 [[int 0, .imm (.val nL), .imm (.val nL), .imm (.val nL)]]), .one (vec 1 intI a10), .dead, .one (.cells 4 [[int 0, .imm (.val nL), .imm (.val nL), .imm (.val nL)]])]), ([4, 7, 9], [.one (.cells 4 [(tT t)]), .one (.cells 4 [[int 0, .imm (.val nL), .imm (.val nL), .imm (.val nL)]]), .one (vec 1 intI a10), .one (vec 1 intI a13), .one (.cells 4 [[int 0, .imm (.val nL), .imm (.val nL), .imm (.val nL)]])]), ([4, 7, 9, 10], [.one (.cells 4 [(tT t)]), .one (.cells 4 [[int 0, .imm (.val nL), .imm (.val nL), .imm (.val nL)]]), .one (vec 1 intI a10), .one (vec 1 intI a13), .one (.cells 4 [[int t.facts, .own 2 0 a10.length, .own 3 0 a13.length, .imm (.val nL)]])])] [.one (.cells 4 [(tT t)]), .one (.cells 4 [[int 0, .imm (.val nL), .imm (.val nL), .imm (.val nL)]]), .one (vec 1 intI a10), .one (vec 1 intI a13), .one (.cells 4 [[int t.facts, .own 2 0 a10.length, .own 3 0 a13.length, .imm (.val nL)]])] mixed Z Z Z Z Z ?_ ?_)
 ·refine x4.cons ?_ ?_
  ·apply d8.go; exact Z; exact Z; exact Z; intro E hE; (refine W.fieldAddr Z Z Z Z ?_); exact AOps.nil ⟨Z, Z⟩
   apply d8.go; exact Z; exact Z; exact Z; intro E hE; (refine AOps.E Z Z Z Z Z Z ?_); exact AOps.nil ⟨Z, Z⟩
   apply d8.go; exact Z; exact Z; exact Z; intro E hE; (refine W.fieldAddr Z Z Z Z ?_); exact AOps.nil ⟨Z, Z⟩
   apply d8.go; exact Z; exact Z; exact Z; intro E hE; (refine AOps.E Z Z Z Z Z Z ?_); exact AOps.nil ⟨Z, Z⟩
   apply d8.eff; exact Z; exact Z; exact Z; exact Z; intro E hE; (refine AOps.newAt 2 (.c (.own 2 0 a10.length)) (vec 1 intI a10) (.inl Z) Z hE Z Z Z Z (.vec) (.vec) Z Z Z ⟨.one Z, .one Z, .dead, .dead, .dead, Y⟩ (fun hh => by (refine S.fresh Z Z Z Z (h9 ha10) Z Z ?_; exact hh)) ?_); exact AOps.nil ⟨Z, Z⟩
   apply d8.go; exact Z; exact Z; exact Z; intro E hE; (refine W.fieldAddr Z Z Z Z ?_); exact AOps.nil ⟨Z, Z⟩
   apply d8.go; exact Z; exact Z; exact Z; intro E hE; (refine AOps.E Z Z Z Z Z Z ?_); exact AOps.nil ⟨Z, Z⟩
   refine d8.no Z (d8.no Z ?_)
   apply d8.eff; exact Z; exact Z; exact Z; exact Z; intro E hE; (refine AOps.allocAt 4 hE Z Z Z Z Z Z Z ⟨.one Z, .one Z, .dead, .dead, .dead, Y⟩ Z ?_); exact AOps.nil ⟨Z, Z⟩
   refine d8.no Z (d8.nil)
  refine x4.cons ?_ ?_
  ·apply d8.go; exact Z; exact Z; exact Z; intro E hE; (refine W.fieldAddr Z Z Z Z ?_); exact AOps.nil ⟨Z, Z⟩
   apply d8.go; exact Z; exact Z; exact Z; intro E hE; (refine AOps.E Z Z Z Z Z Z ?_); exact AOps.nil ⟨Z, Z⟩
   refine d8.no Z (d8.no Z (d8.no Z ?_))
   apply d8.go; exact Z; exact Z; exact Z; intro E hE; (refine W.fieldAddr Z Z Z Z ?_); exact AOps.nil ⟨Z, Z⟩
   apply d8.go; exact Z; exact Z; exact Z; intro E hE; (refine AOps.E Z Z Z Z Z Z ?_); exact AOps.nil ⟨Z, Z⟩
   apply d8.eff; exact Z; exact Z; exact Z; exact Z; intro E hE; (refine AOps.newAt 3 (.c (.own 3 0 a13.length)) (vec 1 intI a13) (.inl Z) Z hE Z Z Z Z (.vec) (.vec) Z Z Z ⟨.one Z, .one Z, .vec, .dead, .dead, Y⟩ (fun hh => by (refine S.fresh Z Z Z Z (h9 ha13) Z Z ?_; exact hh)) ?_); exact AOps.nil ⟨Z, Z⟩
   refine d8.no Z ?_
   apply d8.eff; exact Z; exact Z; exact Z; exact Z; intro E hE; (refine AOps.allocAt 4 hE Z Z Z Z Z Z Z ⟨.one Z, .one Z, .vec, .dead, .dead, Y⟩ Z ?_); exact AOps.nil ⟨Z, Z⟩
   refine d8.no Z (d8.nil)
  refine x4.cons ?_ ?_
  ·apply d8.go; exact Z; exact Z; exact Z; intro E hE; (refine W.fieldAddr Z Z Z Z ?_); exact AOps.nil ⟨Z, Z⟩
   apply d8.go; exact Z; exact Z; exact Z; intro E hE; (refine AOps.E Z Z Z Z Z Z ?_); exact AOps.nil ⟨Z, Z⟩
   refine d8.no Z (d8.no Z (d8.no Z (d8.no Z (d8.no Z (d8.no Z ?_)))))
   apply d8.go; exact Z; exact Z; exact Z; intro E hE; (refine W.build Z Z Z Z ?_); exact AOps.nil ⟨Z, Z⟩
   apply d8.eff; exact Z; exact Z; exact Z; exact Z; intro E hE; (refine AOps.allocAt 4 hE Z Z Z Z Z Z Z ⟨.one Z, .one Z, .vec, .vec, .dead, Y⟩ Z ?_); exact AOps.nil ⟨Z, Z⟩
   refine d8.no Z (d8.nil)
  refine x4.cons ?_ ?_
  ·apply d8.go; exact Z; exact Z; exact Z; intro E hE; (refine W.fieldAddr Z Z Z Z ?_); exact AOps.nil ⟨Z, Z⟩
   apply d8.go; exact Z; exact Z; exact Z; intro E hE; (refine AOps.E Z Z Z Z Z Z ?_); exact AOps.nil ⟨Z, Z⟩
   apply d8.go; exact Z; exact Z; exact Z; intro E hE; (refine W.fieldAddr Z Z Z Z ?_); exact AOps.nil ⟨Z, Z⟩
   apply d8.go; exact Z; exact Z; exact Z; intro E hE; (refine AOps.E Z Z Z Z Z Z ?_); exact AOps.nil ⟨Z, Z⟩
   apply d8.eff; exact Z; exact Z; exact Z; exact Z; intro E hE; (refine AOps.newAt 2 (.c (.own 2 0 a10.length)) (vec 1 intI a10) (.inl Z) Z hE Z Z Z Z (.vec) (.vec) Z Z Z ⟨.one Z, .one Z, .dead, .dead, .one Z, Y⟩ (fun hh => by (refine S.fresh Z Z Z Z (h9 ha10) Z Z ?_; exact hh)) ?_); exact AOps.nil ⟨Z, Z⟩
   apply d8.go; exact Z; exact Z; exact Z; intro E hE; (refine W.fieldAddr Z Z Z Z ?_); exact AOps.nil ⟨Z, Z⟩
   apply d8.go; exact Z; exact Z; exact Z; intro E hE; (refine AOps.E Z Z Z Z Z Z ?_); exact AOps.nil ⟨Z, Z⟩
   refine d8.no Z (d8.no Z (d8.no Z (d8.no Z (d8.nil))))
  refine x4.cons ?_ ?_
  ·apply d8.go; exact Z; exact Z; exact Z; intro E hE; (refine W.fieldAddr Z Z Z Z ?_); exact AOps.nil ⟨Z, Z⟩
   apply d8.go; exact Z; exact Z; exact Z; intro E hE; (refine AOps.E Z Z Z Z Z Z ?_); exact AOps.nil ⟨Z, Z⟩
   refine d8.no Z (d8.no Z (d8.no Z ?_))
   apply d8.go; exact Z; exact Z; exact Z; intro E hE; (refine W.fieldAddr Z Z Z Z ?_); exact AOps.nil ⟨Z, Z⟩
   apply d8.go; exact Z; exact Z; exact Z; intro E hE; (refine AOps.E Z Z Z Z Z Z ?_); exact AOps.nil ⟨Z, Z⟩
   apply d8.eff; exact Z; exact Z; exact Z; exact Z; intro E hE; (refine AOps.newAt 3 (.c (.own 3 0 a13.length)) (vec 1 intI a13) (.inl Z) Z hE Z Z Z Z (.vec) (.vec) Z Z Z ⟨.one Z, .one Z, .vec, .dead, .one Z, Y⟩ (fun hh => by (refine S.fresh Z Z Z Z (h9 ha13) Z Z ?_; exact hh)) ?_); exact AOps.nil ⟨Z, Z⟩
   refine d8.no Z (d8.no Z (d8.no Z (d8.nil)))
  refine x4.cons ?_ ?_
  ·apply d8.go; exact Z; exact Z; exact Z; intro E hE; (refine W.fieldAddr Z Z Z Z ?_); exact AOps.nil ⟨Z, Z⟩
   apply d8.go; exact Z; exact Z; exact Z; intro E hE; (refine AOps.E Z Z Z Z Z Z ?_); exact AOps.nil ⟨Z, Z⟩
   refine d8.no Z (d8.no Z (d8.no Z (d8.no Z (d8.no Z (d8.no Z ?_)))))
   apply d8.go; exact Z; exact Z; exact Z; intro E hE; (refine W.build Z Z Z Z ?_); exact AOps.nil ⟨Z, Z⟩
   refine d8.no Z ?_
   apply d8.eff; exact Z; exact Z; exact Z; exact Z; intro E hE; (refine W.storeAgg Z Z Z Z Z Z Z ?_); exact AOps.nil ⟨Z, Z⟩
   exact d8.nil
  refine x4.cons ?_ ?_
  ·refine d8.no Z (d8.no Z (d8.no Z (d8.no Z (d8.no Z (d8.no Z (d8.no Z (d8.no Z (d8.no Z (d8.no Z (d8.no Z (d8.nil)))))))))))
  exact x4.nil
 dsimp only [i5]
 refine b6 (.q (.q (.u (W.fieldAddr Z Z Z Z (.E Z Z Z Z Z Z (S.len Z Z (fun hl17 => .j Z Z (.nil (b6 (.aa (.virtBO 4 preOp postOp f5.add 1 intI (b := 4) (o := 3) Z Z Z Z Z Z Z Z ?_)))))))))))
 obtain ⟨c55, ho1, h⟩ := bind_some h
 refine AWP.forS ho1 (fun t56 c55 => ⟨[(2, .c (.ptr 1 0 0)), (3, .c (.ptr 4 0 0)), (16, .c (row 4 i3 t.operators)), (17, .c (int (t.operators.length : Int))), (18, .c (int t56))], [.dead, .one (.cells 4 [[int 0, .imm (.val nL), .imm (.val nL), .imm (.val nL)]]), .one (vec 1 intI a10), .one (vec 1 intI a13), .one (.cells 4 [[int t.facts, .own 2 0 a10.length, .own 3 0 a13.length, .own 5 0 c55.length]]), omOp 5 c55]⟩) (fun c55 e st => e = .exit 0 ∧ Sub (aa5 t) st ⟨[(2, .c (.ptr 1 0 0)), (3, .c (.ptr 4 0 0))], [.dead, .one (.cells 4 [[int 0, .imm (.val nL), .imm (.val nL), .imm (.val nL)]]), .one (vec 1 intI a10), .one (vec 1 intI a13), .one (.cells 4 [[int t.facts, .own 2 0 a10.length, .own 3 0 a13.length, .own 5 0 c55.length]]), omOp 5 c55]⟩) ?_ ?_ ?_ ?_
 ·try dsimp only
  exact Sub.cut ⟨Z, Z, Z, Z, Z, Y⟩ Z ⟨.dead, .one Z, .vec, .vec, .one Z, (.any (om_ok Z)), Y⟩ Z
 ·intro t56 c55 hlot56 hltt56 _
  try dsimp only
  refine AWP.q (.u (.J Z Z Z (.nil (b6 (.q (.ag Z hltt56 (.exit (e7 (e7 ⟨Z, ?_⟩)))))))))
  exact Sub.env ⟨Z, Z, Y⟩
 ·intro t56 c55 o hlot56 hltt56 h
  unfold D0 at h
  try dsimp only at h ⊢
  refine AWP.q (.u (.J Z Z Z (.nil (b6 (.q (.ah Z hltt56 (.skip (b6 (.q (.aa (.q ?_)))))))))))
  obtain ⟨a20, ha20, h⟩ := bind_some h
  refine AWP.u (S.idx ha20 Z Z Z Z (W.loadIAgg Z Z Z Z Z (W.alloc Z Z Z Z (W.storeAgg Z Z Z Z Z Z Z (.nil (b6 ?_))))))
  obtain ⟨a26, ha26, a29, ha29, a32, ha32, h⟩ := b3 h
  obtain ⟨a37, ha37, h⟩ := bind_some h
  refine AWP.drawEI [7, 14, 15, 17] mixed Z Z Z ?_
  refine d6.consN Z Z (fun E => W.fieldAddr Z Z Z Z .N) Z (.consN Z Z (fun E => AOps.E Z Z Z Z Z Z .N) Z (.consN Z Z (fun E => W.fieldAddr Z Z Z Z .N) Z (.consN Z Z (fun E => AOps.E Z Z Z Z Z Z .N) Z (.consN Z Z (fun E => AOps.F Z Z Z Z (n5.data (h9 ha26)) Z .N) Z (.consN Z Z (fun E => W.fieldAddr Z Z Z Z .N) Z (.consN Z Z (fun E => AOps.E Z Z Z Z Z Z .N) Z ?_))))))
  apply d6.consE; exact Z; exact Z; intro E
  refine S.fresh Z Z Z Z (h9 ha29) Z Z .N
  exact Z
  exact Z
  refine d6.consN Z Z (fun E => W.fieldAddr Z Z Z Z .N) Z (.consN Z Z (fun E => AOps.E Z Z Z Z Z Z .N) Z (.consN Z Z (fun E => AOps.F Z Z Z Z (n5.data (h9 ha32)) Z .N) Z (.consN Z Z (fun E => W.fieldAddr Z Z Z Z .N) Z (.consN Z Z (fun E => AOps.E Z Z Z Z Z Z .N) Z (.consN Z Z (fun E => W.build Z Z Z Z .N) Z ?_)))))
  apply d6.consE; exact Z; exact Z; intro E
  refine W.lit1 Z Z Z Z Z Z Z Z Z .N
  exact Z
  exact Z
  apply d6.consE; exact Z; exact Z; intro E
  refine S.appendO (a := (⟨a26, a29, a32, a20.cost⟩ : f5)) ha37 Z Z Z Z Z Z Z Z Z Z Z Z Z Z Z Z .N
  exact Z
  exact Z
  refine d6.consN Z Z (fun E => W.fieldAddr Z Z Z Z .N) Z ?_
  apply d6.consE (v := .undef); exact Z; exact Z; intro E
  refine W.store Z Z Z Z Z .N
  exact Z
  exact Z
  refine d6.done Z ?_ ?_
  ·refine d5.cons Z Z ?_ ?_
   refine b7.go Z Z (fun E => W.fieldAddr Z Z Z Z .N) ?_
   refine b7.go Z Z (fun E => W.fieldAddr Z Z Z Z .N) ?_
   refine b7.go Z Z (fun E => W.fieldAddr Z Z Z Z .N) ?_
   refine b7.skip Z (b7.skip Z (b7.nil))
   refine d5.cons Z Z ?_ ?_
   refine b7.go Z Z (fun E => AOps.E Z Z Z Z Z Z .N) ?_
   refine b7.go Z Z (fun E => AOps.E Z Z Z Z Z Z .N) ?_
   refine b7.go Z Z (fun E => AOps.E Z Z Z Z Z Z .N) ?_
   refine b7.skip Z (b7.skip Z (b7.nil))
   refine d5.cons Z Z ?_ ?_
   refine b7.go Z Z (fun E => W.fieldAddr Z Z Z Z .N) ?_
   refine b7.skip Z (b7.skip Z (b7.skip Z (b7.skip Z (b7.nil))))
   refine d5.cons Z Z ?_ ?_
   refine b7.go Z Z (fun E => AOps.E Z Z Z Z Z Z .N) ?_
   refine b7.skip Z (b7.skip Z (b7.skip Z (b7.skip Z (b7.nil))))
   refine d5.cons Z Z ?_ ?_
   refine b7.go Z Z (fun E => AOps.F Z Z Z Z (n5.data (h9 ha26)) Z .N) ?_
   refine b7.skip Z (b7.skip Z (b7.skip Z (b7.skip Z (b7.nil))))
   refine d5.cons Z Z ?_ ?_
   refine b7.go Z Z (fun E => W.fieldAddr Z Z Z Z .N) ?_
   refine b7.skip Z (b7.skip Z (b7.skip Z (b7.skip Z (b7.nil))))
   refine d5.cons Z Z ?_ ?_
   refine b7.go Z Z (fun E => AOps.E Z Z Z Z Z Z .N) ?_
   refine b7.skip Z (b7.skip Z (b7.skip Z (b7.skip Z (b7.nil))))
   refine d5.skip Z ?_
   refine d5.cons Z Z ?_ ?_
   refine b7.go Z Z (fun E => W.fieldAddr Z Z Z Z .N) ?_
   refine b7.go Z Z (fun E => W.fieldAddr Z Z Z Z .N) ?_
   refine b7.skip Z (b7.skip Z (b7.skip Z (b7.nil)))
   refine d5.cons Z Z ?_ ?_
   refine b7.go Z Z (fun E => AOps.E Z Z Z Z Z Z .N) ?_
   refine b7.go Z Z (fun E => AOps.E Z Z Z Z Z Z .N) ?_
   refine b7.skip Z (b7.skip Z (b7.skip Z (b7.nil)))
   refine d5.cons Z Z ?_ ?_
   refine b7.skip Z ?_
   refine b7.go Z Z (fun E => AOps.F Z Z Z Z (n5.data (h9 ha32)) Z .N) ?_
   refine b7.skip Z (b7.skip Z (b7.skip Z (b7.nil)))
   refine d5.cons Z Z ?_ ?_
   refine b7.go Z Z (fun E => W.fieldAddr Z Z Z Z .N) ?_
   refine b7.go Z Z (fun E => W.fieldAddr Z Z Z Z .N) ?_
   refine b7.skip Z (b7.skip Z (b7.skip Z (b7.nil)))
   refine d5.cons Z Z ?_ ?_
   refine b7.go Z Z (fun E => AOps.E Z Z Z Z Z Z .N) ?_
   refine b7.go Z Z (fun E => AOps.E Z Z Z Z Z Z .N) ?_
   refine b7.skip Z (b7.skip Z (b7.skip Z (b7.nil)))
   refine d5.cons Z Z ?_ ?_
   refine b7.skip Z ?_
   refine b7.go Z Z (fun E => W.build Z Z Z Z .N) ?_
   refine b7.skip Z (b7.skip Z (b7.skip Z (b7.nil)))
   refine d5.skip Z (d5.skip Z ?_)
   refine d5.cons Z Z ?_ ?_
   refine b7.skip Z (b7.skip Z (b7.skip Z ?_))
   refine b7.go Z Z (fun E => W.fieldAddr Z Z Z Z .N) ?_
   refine b7.skip Z (b7.nil)
   refine d5.skip Z (d5.nil)
  dsimp only [i5]
  refine e9 (b6 (.moveM (env' := [(2, .c (.ptr 1 0 0)), (3, .c (.ptr 4 0 0)), (16, .c (row 4 i3 t.operators)), (17, .c (int (t.operators.length : Int))), (18, .c (int t56))]) (σ' := [.dead, .one (.cells 4 [[int 0, .imm (.val nL), .imm (.val nL), .imm (.val nL)]]), .one (vec 1 intI a10), .one (vec 1 intI a13), .one (.cells 4 [[int t.facts, .own 2 0 a10.length, .own 3 0 a13.length, .own 5 0 a37.length]]), omOp 5 a37, .one (.cells 4 [[row 1 intI a20.pre, row 1 intI a20.add, row 1 intI a20.del, int a20.cost]]), .dead, .one (.cells 4 [[row 1 intI a26, .own 7 0 a29.length, row 1 intI a32, int a20.cost]])]) 5 9 Z Z Z ⟨Z, Z, Z, Z, Z, Y⟩ Z ⟨.dead, (.one Z Z), (.vec Z), (.vec Z), (.one Z Z), (EntR.omat Z Z Z), (.one Z Z), .dead, (.one Z Z), Y⟩ (.u (.add Z Z Z (by omega) (.j Z Z (.nil ?_))))))
  obtain rfl := oi h
  refine b6 (Sub.cut ⟨Z, Z, Z, Z, Z, Y⟩ Z ⟨.dead, .one Z, .vec, .vec, .one Z, (.any (om_ok Z)), Y⟩ Z)
 ·intro e s hq
  obtain ⟨rfl, hs⟩ := hq
  refine ⟨_, hs, ?_⟩
  refine j7 (b6 (.q (.u (W.loadAgg Z Z Z Z Z Z Z (W.storeAgg Z Z Z Z Z Z Z (.nil (b6 (.ret ?_))))))))
  obtain rfl := oi h
  exact ⟨⟨[(2, .c (.ptr 1 0 0))], [.dead, .one (.cells 4 [[int t.facts, .own 2 0 a10.length, .own 3 0 a13.length, .own 5 0 c55.length]]), .one (vec 1 intI a10), .one (vec 1 intI a13), .dead, omOp 5 c55]⟩, Sub.cut ⟨Z, Y⟩ Z ⟨.dead, .one Z, .vec, .vec, .dead, (.any (om_ok Z)), Y⟩ Z, Done.ret Z ⟨Z, Z⟩⟩
theorem aj5 {t : d9} {op : Int} {r : d9 × i9} (h : D7 t op = some r) : e8 prog 29 [.agg (tT t), .c (int op)] (.tup [.agg (tT r.1), .agg [int r.2.code, int r.2.index]]) := by
 unfold e8
 refine FnOk.enter (rs := [.cell 4 25 4, .cell 5 27 2]) func29 Z ntmps29 results29 Z ⟨rv _ Z, rv _ Z, Y⟩ (by kernel_rfl) Z ?_
 unfold D7 at h
 refine AWP.q (.u (W.box Z Z Z Z Z Z (W.alloc Z Z Z Z (W.alloc Z Z Z Z (.nil (b6 (.q (.q ?_))))))))
 obtain ⟨a10, ha10, h⟩ := bind_some h
 refine AWP.u (W.loadAgg Z Z Z Z Z Z Z (.j Z Z (.F Z Z Z Z (R4 ha10) Z (W.alloc Z Z Z Z (W.storeAgg Z Z Z Z Z Z Z (.nil (b6 (.q (.u (W.loadAgg Z Z Z Z Z Z Z (W.build Z Z Z Z (.neqP Z Z Z Z Z Z Z (.nil (b6 (.ad Z h (fun hc3 h => ?_) (fun hc3 h => ?_))))))))))))))))
 ·refine AWP.q (.drawEI [2, 3] mixed Z Z Z ?_)
  refine d6.consN Z Z (fun E => W.build Z Z Z Z .N) Z (.consN Z Z (fun E => W.loadAgg Z Z Z Z Z Z Z .N) Z ?_)
  apply d6.consE (v := .undef); exact Z; exact Z; intro E
  refine W.storeAgg Z Z Z Z Z Z Z .N
  exact Z
  exact Z
  apply d6.consE (v := .undef); exact Z; exact Z; intro E
  refine W.storeAgg Z Z Z Z Z Z Z .N
  exact Z
  exact Z
  refine d6.done Z ?_ ?_
  ·refine d5.cons Z Z ?_ ?_
   refine b7.go Z Z (fun E => W.build Z Z Z Z .N) ?_
   refine b7.skip Z (b7.skip Z (b7.nil))
   refine d5.cons Z Z ?_ ?_
   refine b7.go Z Z (fun E => W.loadAgg Z Z Z Z Z Z Z .N) ?_
   refine b7.go Z Z (fun E => W.loadAgg Z Z Z Z Z Z Z .N) ?_
   refine b7.skip Z (b7.nil)
   refine d5.skip Z (d5.skip Z (d5.nil))
  dsimp only [i5]
  refine b6 (.nilB (b := 1) [int 0, row 1 intI [], row 1 intI [], row 4 i3 []] Z (by exact ⟨.inl Z, .inr ⟨Z, _, Z⟩, .inr ⟨Z, _, Z⟩, .inr ⟨Z, _, Z⟩, Y⟩) Z Z (.ret (e6 ?_)))
  obtain rfl := oi h
  exact Done.ret Z Z
 ·refine AWP.skip (b6 (.q (.q (.u (W.fieldAddr Z Z Z Z (.E Z Z Z Z Z Z (.ab Z Z Z (.nil (b6 (.ite Z h (fun hc4 h => ?_) (fun hc4 h => ?_)))))))))))
  ·refine AWP.q (.u (W.build Z Z Z Z (W.build Z Z Z Z (W.storeAgg Z Z Z Z Z Z Z (W.storeAgg Z Z Z Z Z Z Z (.nil (b6 (.nilB (b := 1) [int 0, row 1 intI [], row 1 intI [], row 4 i3 []] Z (by exact ⟨.inl Z, .inr ⟨Z, _, Z⟩, .inr ⟨Z, _, Z⟩, .inr ⟨Z, _, Z⟩, Y⟩) Z Z (.ret (e6 ?_))))))))))
   obtain rfl := oi h
   exact Done.ret Z Z
  ·refine AWP.skip (b6 (.q ?_))
   obtain ⟨a22, ha22, ao5, hao5, h⟩ := b2 h
   refine AWP.u (W.loadAgg Z Z Z Z Z Z Z ?_)
   refine AOps.callF (r2 := .agg [int t.facts, .own 6 0 a22.1.length, .own 7 0 a22.2.1.length, .own 9 0 a22.2.2.length]) (σ'' := [.one (.cells 4 [(tT t)]), .one (.cells 4 [[int 0, .imm (.val nL), .imm (.val nL), .imm (.val nL)]]), .one (.cells 2 [[int 0, int 0]]), .one (.cells 2 [[int a10.code, int a10.index]]), .dead, .one (.cells 4 [[int t.facts, .own 6 0 a22.1.length, .own 7 0 a22.2.1.length, .own 9 0 a22.2.2.length]]), .one (vec 1 intI a22.1), .one (vec 1 intI a22.2.1), .dead, omOp 9 a22.2.2]) Z Z Z (FnOk.lend [] (ak5 ha22) Z Z Z Z Z Z (by exact trivial) Z (by exact trivial) Z Z (by exact ⟨(.old Z Z Z), (.old Z Z Z), (.old Z Z Z), (.old Z Z Z), .dead, (.new 1 Z Z (.one Z)), (.new 2 Z Z .vec), (.new 3 Z Z .vec), .dead, (.new 5 Z Z (RenE.omat fun _ => Z)), Y⟩)) ?_; refine AOps.sub (s' := ⟨[(0, .agg (tT t)), (1, .c (int op)), (2, .c (.ptr 0 0 0)), (4, .c (.ptr 1 0 0)), (5, .c (.ptr 2 0 0)), (6, .c (.ptr 3 0 0)), (8, .agg (tT t)), (9, .c (int op)), (10, .agg [int a10.code, int a10.index]), (11, .agg [int a10.code, int a10.index]), (12, .agg [int 0, int 0]), (13, .c (bool (!((decide (a10.code = 0)) && (decide (a10.index = 0)))))), (16, .c (.ptr 0 0 0)), (17, .c (int t.facts)), (18, .c (bool (decide (t.facts = 24)))), (21, .agg (tT t)), (22, .agg [int t.facts, .own 6 0 a22.1.length, .own 7 0 a22.2.1.length, .own 9 0 a22.2.2.length])], [.one (.cells 4 [(tT t)]), .one (.cells 4 [[int 0, .imm (.val nL), .imm (.val nL), .imm (.val nL)]]), .one (.cells 2 [[int 0, int 0]]), .one (.cells 2 [[int a10.code, int a10.index]]), .dead, .one (.cells 4 [[int t.facts, .own 6 0 a22.1.length, .own 7 0 a22.2.1.length, .own 9 0 a22.2.2.length]]), .one (vec 1 intI a22.1), .one (vec 1 intI a22.2.1), .dead, omOp 9 a22.2.2]⟩) (Sub.env ⟨Z, Z, Z, Z, Z, Z, Z, Z, Z, Z, Z, Z, Z, Z, Z, Z, Z, Y⟩) ?_; refine AOps.sub (s' := ⟨[(0, .agg (tT t)), (1, .c (int op)), (2, .c (.ptr 0 0 0)), (4, .c (.ptr 1 0 0)), (5, .c (.ptr 2 0 0)), (6, .c (.ptr 3 0 0)), (8, .agg (tT t)), (9, .c (int op)), (10, .agg [int a10.code, int a10.index]), (11, .agg [int a10.code, int a10.index]), (12, .agg [int 0, int 0]), (13, .c (bool (!((decide (a10.code = 0)) && (decide (a10.index = 0)))))), (16, .c (.ptr 0 0 0)), (17, .c (int t.facts)), (18, .c (bool (decide (t.facts = 24)))), (21, .agg (tT t)), (22, .agg [int t.facts, .own 6 0 a22.1.length, .own 7 0 a22.2.1.length, .own 9 0 a22.2.2.length])], [.one (.cells 4 [(tT t)]), .one (.cells 4 [[int 0, .imm (.val nL), .imm (.val nL), .imm (.val nL)]]), .one (.cells 2 [[int 0, int 0]]), .one (.cells 2 [[int a10.code, int a10.index]]), .dead, .one (.cells 4 [[int t.facts, .own 6 0 a22.1.length, .own 7 0 a22.2.1.length, .own 9 0 a22.2.2.length]]), .one (vec 1 intI a22.1), .one (vec 1 intI a22.2.1), .dead, .one (vpOp a22.2.2 op.toNat 10 ao5.add.length ao5), .one (vec 1 intI ao5.add)]⟩) (Sub.splitO (r := 9) (n := 10) Z Z (I7 hao5).2 (RlL.all (by exact ⟨.one (fun _ => Z), .one (fun _ => Z), .one (fun _ => Z), .one (fun _ => Z), .dead, .one (fun _ => Z), .vec, .vec, .dead, .self, Y⟩)) Z Z Z Z) ?_
   refine W.alloc Z Z Z Z (W.storeAgg Z Z Z Z Z Z Z (.nil (b6 (.q ?_))))
   obtain ⟨a28, ha28, h⟩ := bind_some h
   refine AWP.u (W.fieldAddr Z Z Z Z (.E Z Z Z Z Z Z (W.fieldAddr Z Z Z Z (.E Z Z Z Z Z Z (S.lit (f := intI) (l := [t.facts]) (ess := [[int t.facts]]) Z Z Z Z Z Z Z ⟨⟨.inl Z, Y⟩, Y⟩ Z Z Z (S.append (f := intI) ha28 Z Z Z Z Z Z (.own Z Z) Z Z Z Z (W.fieldAddr Z Z Z Z (W.store Z Z Z Z Z (.nil (b6 (.q (.j (env' := [(1, .c (int op)), (4, .c (.ptr 1 0 0)), (5, .c (.ptr 2 0 0)), (7, .c (.ptr 11 0 0))]) (σ' := [.one (.cells 4 [(tT t)]), .one (.cells 4 [[int 0, .imm (.val nL), .imm (.val nL), .imm (.val nL)]]), .one (.cells 2 [[int 0, int 0]]), .one (.cells 2 [[int a10.code, int a10.index]]), .dead, .dead, .one (vec 1 intI a22.1), .one (vec 1 intI a28), .dead, .one (vpOp a22.2.2 op.toNat 10 ao5.add.length ao5), .one (vec 1 intI ao5.add), .one (.cells 4 [[int t.facts, .own 6 0 a22.1.length, .own 7 0 a28.length, .own 9 0 a22.2.2.length]]), .one (vec 1 intI [t.facts])]) 7 13 Z Z Z ⟨Z, Z, Z, Z, Y⟩ Z ⟨⟨Z, Z⟩, ⟨Z, Z⟩, ⟨Z, Z⟩, ⟨Z, Z⟩, trivial, trivial, ⟨Blk.im_ok _ _ _, f7 Z⟩, ⟨Blk.im_ok _ _ _, f7 Z⟩, trivial, ⟨vp_ok Z, vp_mv Z Z⟩, ⟨Blk.im_ok _ _ _, f7 Z⟩, ⟨Z, Z⟩, ⟨Blk.im_ok _ _ _, f7 Z⟩, Y⟩ ?_))))))))))))
   obtain ⟨a42, ha42, h⟩ := bind_some h
   refine AWP.drawEI [11, 12, 15] mixed Z Z Z ?_
   refine d6.consN Z Z (fun E => W.fieldAddr Z Z Z Z .N) Z (.consN Z Z (fun E => AOps.E Z Z Z Z Z Z .N) Z (.consN Z Z (fun E => AOps.j Z Z .N) Z (.consN Z Z (fun E => W.fieldAddr Z Z Z Z .N) Z (.consN Z Z (fun E => AOps.E Z Z Z Z Z Z .N) Z (.consN Z Z (fun E => AOps.j Z Z .N) Z (.consN Z Z (fun E => S.idxVP hao5 Z Z Z Z Z .N) Z (.consN Z Z (fun E => W.fieldAddr Z Z Z Z .N) Z (.consN Z Z (fun E => S.loadVP hao5 Z Z Z Z Z .N) Z (.consN Z Z (fun E => W.fieldAddr Z Z Z Z .N) Z (.consN Z Z (fun E => AOps.E Z Z Z Z Z Z .N) Z ?_))))))))))
   apply d6.consE; exact Z; exact Z; intro E
   refine S.lit (f := intI) (l := [t.facts]) (ess := [[int t.facts]]) Z Z Z Z Z Z Z ⟨⟨.inl Z, Y⟩, Y⟩ Z Z Z .N
   exact Z
   exact Z
   apply d6.consE; exact Z; exact Z; intro E
   refine S.append (f := intI) ha42 Z Z Z Z Z Z (.own Z Z) Z Z Z Z .N
   exact Z
   exact Z
   refine d6.consN Z Z (fun E => S.idxVP hao5 Z Z Z Z Z .N) Z (.consN Z Z (fun E => W.fieldAddr Z Z Z Z .N) Z ?_)
   apply d6.consE (v := .undef); exact Z; exact Z; intro E
   refine S.storeVP hao5 Z Z Z Z Z .N
   exact Z
   exact Z
   refine d6.done Z ?_ ?_
   ·refine d5.cons Z Z ?_ ?_
    refine b7.go Z Z (fun E => W.fieldAddr Z Z Z Z .N) ?_
    refine b7.go Z Z (fun E => W.fieldAddr Z Z Z Z .N) ?_
    refine b7.go Z Z (fun E => W.fieldAddr Z Z Z Z .N) ?_
    refine b7.skip Z (b7.nil)
    refine d5.cons Z Z ?_ ?_
    refine b7.go Z Z (fun E => AOps.E Z Z Z Z Z Z .N) ?_
    refine b7.go Z Z (fun E => AOps.E Z Z Z Z Z Z .N) ?_
    refine b7.go Z Z (fun E => AOps.E Z Z Z Z Z Z .N) ?_
    refine b7.skip Z (b7.nil)
    refine d5.cons Z Z ?_ ?_
    refine b7.go Z Z (fun E => AOps.j Z Z .N) ?_
    refine b7.go Z Z (fun E => AOps.j Z Z .N) ?_
    refine b7.go Z Z (fun E => AOps.j Z Z .N) ?_
    refine b7.skip Z (b7.nil)
    refine d5.cons Z Z ?_ ?_
    refine b7.go Z Z (fun E => W.fieldAddr Z Z Z Z .N) ?_
    refine b7.go Z Z (fun E => W.fieldAddr Z Z Z Z .N) ?_
    refine b7.skip Z (b7.skip Z (b7.nil))
    refine d5.cons Z Z ?_ ?_
    refine b7.go Z Z (fun E => AOps.E Z Z Z Z Z Z .N) ?_
    refine b7.go Z Z (fun E => AOps.E Z Z Z Z Z Z .N) ?_
    refine b7.skip Z (b7.skip Z (b7.nil))
    refine d5.cons Z Z ?_ ?_
    refine b7.go Z Z (fun E => AOps.j Z Z .N) ?_
    refine b7.go Z Z (fun E => AOps.j Z Z .N) ?_
    refine b7.skip Z (b7.skip Z (b7.nil))
    refine d5.cons Z Z ?_ ?_
    refine b7.go Z Z (fun E => S.idxVP hao5 Z Z Z Z Z .N) ?_
    refine b7.go Z Z (fun E => S.idxVP hao5 Z Z Z Z Z .N) ?_
    refine b7.skip Z (b7.skip Z (b7.nil))
    refine d5.cons Z Z ?_ ?_
    refine b7.go Z Z (fun E => W.fieldAddr Z Z Z Z .N) ?_
    refine b7.go Z Z (fun E => W.fieldAddr Z Z Z Z .N) ?_
    refine b7.skip Z (b7.skip Z (b7.nil))
    refine d5.cons Z Z ?_ ?_
    refine b7.go Z Z (fun E => S.loadVP hao5 Z Z Z Z Z .N) ?_
    refine b7.go Z Z (fun E => S.loadVP hao5 Z Z Z Z Z .N) ?_
    refine b7.skip Z (b7.skip Z (b7.nil))
    refine d5.cons Z Z ?_ ?_
    refine b7.go Z Z (fun E => W.fieldAddr Z Z Z Z .N) ?_
    refine b7.skip Z (b7.skip Z (b7.skip Z (b7.nil)))
    refine d5.cons Z Z ?_ ?_
    refine b7.go Z Z (fun E => AOps.E Z Z Z Z Z Z .N) ?_
    refine b7.skip Z (b7.skip Z (b7.skip Z (b7.nil)))
    refine d5.skip Z (d5.skip Z ?_)
    refine d5.cons Z Z ?_ ?_
    refine b7.skip Z (b7.skip Z ?_)
    refine b7.go Z Z (fun E => S.idxVP hao5 Z Z Z Z Z .N) ?_
    refine b7.skip Z (b7.nil)
    refine d5.cons Z Z ?_ ?_
    refine b7.skip Z (b7.skip Z ?_)
    refine b7.go Z Z (fun E => W.fieldAddr Z Z Z Z .N) ?_
    refine b7.skip Z (b7.nil)
    refine d5.skip Z (d5.nil)
   dsimp only [i5]
   refine b6 (.q (.j (env' := [(4, .c (.ptr 1 0 0)), (5, .c (.ptr 2 0 0)), (7, .c (.ptr 11 0 0))]) (σ' := [.one (.cells 4 [(tT t)]), .one (.cells 4 [[int 0, .imm (.val nL), .imm (.val nL), .imm (.val nL)]]), .one (.cells 2 [[int 0, int 0]]), .one (.cells 2 [[int a10.code, int a10.index]]), .dead, .dead, .one (vec 1 intI a22.1), .one (vec 1 intI a28), .dead, .one (vpOp a22.2.2 op.toNat 10 a42.length ao5), .one (vec 1 intI a42), .one (.cells 4 [[int t.facts, .own 6 0 a22.1.length, .own 7 0 a28.length, .own 9 0 a22.2.2.length]]), .one (vec 1 intI [t.facts]), .one (vec 1 intI [t.facts])]) 10 14 Z Z Z ⟨Z, Z, Z, Y⟩ Z ⟨⟨Z, Z⟩, ⟨Z, Z⟩, ⟨Z, Z⟩, ⟨Z, Z⟩, trivial, trivial, ⟨Blk.im_ok _ _ _, f7 Z⟩, ⟨Blk.im_ok _ _ _, f7 Z⟩, trivial, ⟨vp_ok Z, vp_mv Z Z⟩, ⟨Blk.im_ok _ _ _, f7 Z⟩, ⟨Z, Z⟩, ⟨Blk.im_ok _ _ _, f7 Z⟩, ⟨Blk.im_ok _ _ _, f7 Z⟩, Y⟩ (.u (W.fieldAddr Z Z Z Z (.E Z Z Z Z Z Z (S.add Z Z Z (W.fieldAddr Z Z Z Z (W.store Z Z Z Z Z (.nil (b6 (.q (.u (W.loadAgg Z Z Z Z Z Z Z (W.build Z Z Z Z (W.storeAgg Z Z Z Z Z Z Z (W.storeAgg Z Z Z Z Z Z Z (.nil (b6 (.frzW (id := 10) (M := a42) (env2 := [(4, .c (.ptr 1 0 0)), (5, .c (.ptr 2 0 0))]) (σ2 := [.one (.cells 4 [(tT t)]), .one (.cells 4 [[int (w64 (t.facts + 1)), .own 6 0 a22.1.length, .own 7 0 a28.length, .own 9 0 a22.2.2.length]]), .one (.cells 2 [[int 0, int 0]]), .one (.cells 2 [[int a10.code, int a10.index]]), .dead, .dead, .one (vec 1 intI a22.1), .one (vec 1 intI a28), .dead, .one (vec 4 i3 (a22.2.2.set op.toNat (⟨ao5.pre, a42, ao5.del, ao5.cost⟩ : f5))), .dead, .one (.cells 4 [[int (w64 (t.facts + 1)), .own 6 0 a22.1.length, .own 7 0 a28.length, .own 9 0 a22.2.2.length]]), .one (vec 1 intI [t.facts]), .one (vec 1 intI [t.facts])]) Z Z (by exact ⟨⟨_, Z, .inl ⟨Z, Z⟩⟩, ⟨_, Z, .inl ⟨Z, Z⟩⟩, Y⟩) Z (by exact ⟨.old ⟨Z, .inl ⟨Z, Z⟩, .inl ⟨Z, Z⟩, .inl ⟨Z, Z⟩, .inl ⟨Z, Z⟩, Y⟩, .old ⟨Z, .inl ⟨Z, Z⟩, .inl ⟨Z, Z⟩, .inl ⟨Z, Z⟩, .inl ⟨Z, Z⟩, Y⟩, .old ⟨Z, .inl ⟨Z, Z⟩, .inl ⟨Z, Z⟩, Y⟩, .old ⟨Z, .inl ⟨Z, Z⟩, .inl ⟨Z, Z⟩, Y⟩, .old (trivial), .old (trivial), .old (FrzB.vec), .old (FrzB.vec), .old (trivial), (.any (vp_frz Z Z)), .old (trivial), .old ⟨Z, .inl ⟨Z, Z⟩, .inl ⟨Z, Z⟩, .inl ⟨Z, Z⟩, .inl ⟨Z, Z⟩, Y⟩, .old (FrzB.vec), .old (FrzB.vec), Y⟩) (.frzV (id := 6) (l := a22.1) (env2 := [(4, .c (.ptr 1 0 0)), (5, .c (.ptr 2 0 0))]) (σ2 := [.one (.cells 4 [(tT t)]), .one (.cells 4 [[int (w64 (t.facts + 1)), row 1 intI a22.1, .own 7 0 a28.length, .own 9 0 a22.2.2.length]]), .one (.cells 2 [[int 0, int 0]]), .one (.cells 2 [[int a10.code, int a10.index]]), .dead, .dead, .dead, .one (vec 1 intI a28), .dead, .one (vec 4 i3 (a22.2.2.set op.toNat (⟨ao5.pre, a42, ao5.del, ao5.cost⟩ : f5))), .dead, .one (.cells 4 [[int (w64 (t.facts + 1)), row 1 intI a22.1, .own 7 0 a28.length, .own 9 0 a22.2.2.length]]), .one (vec 1 intI [t.facts]), .one (vec 1 intI [t.facts])]) Z Z (by exact ⟨⟨_, Z, .inl ⟨Z, Z⟩⟩, ⟨_, Z, .inl ⟨Z, Z⟩⟩, Y⟩) Z (by exact ⟨⟨Z, .inl ⟨Z, Z⟩, .inl ⟨Z, Z⟩, .inl ⟨Z, Z⟩, .inl ⟨Z, Z⟩, Y⟩, ⟨Z, .inl ⟨Z, Z⟩, .inr ⟨_, Z, Z, Z⟩, .inl ⟨Z, Z⟩, .inl ⟨Z, Z⟩, Y⟩, ⟨Z, .inl ⟨Z, Z⟩, .inl ⟨Z, Z⟩, Y⟩, ⟨Z, .inl ⟨Z, Z⟩, .inl ⟨Z, Z⟩, Y⟩, trivial, trivial, trivial, FrzB.vec, trivial, FrzB.vec, trivial, ⟨Z, .inl ⟨Z, Z⟩, .inr ⟨_, Z, Z, Z⟩, .inl ⟨Z, Z⟩, .inl ⟨Z, Z⟩, Y⟩, FrzB.vec, FrzB.vec, Y⟩) (.frzV (id := 7) (l := a28) (env2 := [(4, .c (.ptr 1 0 0)), (5, .c (.ptr 2 0 0))]) (σ2 := [.one (.cells 4 [(tT t)]), .one (.cells 4 [[int (w64 (t.facts + 1)), row 1 intI a22.1, row 1 intI a28, .own 9 0 a22.2.2.length]]), .one (.cells 2 [[int 0, int 0]]), .one (.cells 2 [[int a10.code, int a10.index]]), .dead, .dead, .dead, .dead, .dead, .one (vec 4 i3 (a22.2.2.set op.toNat (⟨ao5.pre, a42, ao5.del, ao5.cost⟩ : f5))), .dead, .one (.cells 4 [[int (w64 (t.facts + 1)), row 1 intI a22.1, row 1 intI a28, .own 9 0 a22.2.2.length]]), .one (vec 1 intI [t.facts]), .one (vec 1 intI [t.facts])]) Z Z (by exact ⟨⟨_, Z, .inl ⟨Z, Z⟩⟩, ⟨_, Z, .inl ⟨Z, Z⟩⟩, Y⟩) Z (by exact ⟨⟨Z, .inl ⟨Z, Z⟩, .inl ⟨Z, Z⟩, .inl ⟨Z, Z⟩, .inl ⟨Z, Z⟩, Y⟩, ⟨Z, .inl ⟨Z, Z⟩, .inl ⟨Z, Z⟩, .inr ⟨_, Z, Z, Z⟩, .inl ⟨Z, Z⟩, Y⟩, ⟨Z, .inl ⟨Z, Z⟩, .inl ⟨Z, Z⟩, Y⟩, ⟨Z, .inl ⟨Z, Z⟩, .inl ⟨Z, Z⟩, Y⟩, trivial, trivial, trivial, trivial, trivial, FrzB.vec, trivial, ⟨Z, .inl ⟨Z, Z⟩, .inl ⟨Z, Z⟩, .inr ⟨_, Z, Z, Z⟩, .inl ⟨Z, Z⟩, Y⟩, FrzB.vec, FrzB.vec, Y⟩) (.frzV (id := 9) (l := a22.2.2.set op.toNat (⟨ao5.pre, a42, ao5.del, ao5.cost⟩ : f5)) (env2 := [(4, .c (.ptr 1 0 0)), (5, .c (.ptr 2 0 0))]) (σ2 := [.one (.cells 4 [(tT t)]), .one (.cells 4 [[int (w64 (t.facts + 1)), row 1 intI a22.1, row 1 intI a28, row 4 i3 (a22.2.2.set op.toNat (⟨ao5.pre, a42, ao5.del, ao5.cost⟩ : f5))]]), .one (.cells 2 [[int 0, int 0]]), .one (.cells 2 [[int a10.code, int a10.index]]), .dead, .dead, .dead, .dead, .dead, .dead, .dead, .one (.cells 4 [[int (w64 (t.facts + 1)), row 1 intI a22.1, row 1 intI a28, row 4 i3 (a22.2.2.set op.toNat (⟨ao5.pre, a42, ao5.del, ao5.cost⟩ : f5))]]), .one (vec 1 intI [t.facts]), .one (vec 1 intI [t.facts])]) Z Z (by exact ⟨⟨_, Z, .inl ⟨Z, Z⟩⟩, ⟨_, Z, .inl ⟨Z, Z⟩⟩, Y⟩) Z (by exact ⟨⟨Z, .inl ⟨Z, Z⟩, .inl ⟨Z, Z⟩, .inl ⟨Z, Z⟩, .inl ⟨Z, Z⟩, Y⟩, ⟨Z, .inl ⟨Z, Z⟩, .inl ⟨Z, Z⟩, .inl ⟨Z, Z⟩, .inr ⟨_, Z, (by simp only [List.length_set]), Z⟩, Y⟩, ⟨Z, .inl ⟨Z, Z⟩, .inl ⟨Z, Z⟩, Y⟩, ⟨Z, .inl ⟨Z, Z⟩, .inl ⟨Z, Z⟩, Y⟩, trivial, trivial, trivial, trivial, trivial, trivial, trivial, ⟨Z, .inl ⟨Z, Z⟩, .inl ⟨Z, Z⟩, .inl ⟨Z, Z⟩, .inr ⟨_, Z, (by simp only [List.length_set]), Z⟩, Y⟩, FrzB.vec, FrzB.vec, Y⟩) (.ret ?_)))))))))))))))))))))))
   obtain rfl := oi h
   exact Done.ret Z Z
theorem w9 {sv : List Int} {r : Int} (h : F8 sv = some r) : e8 prog 71 [.c (row 1 intI sv)] (.c (.imm (.val (.int .u32 r)))) := by
 unfold e8
 refine FnOk.enter (rs := [.t 2]) func71 Z ntmps71 results71 Z ⟨trivial, Y⟩ (by kernel_rfl) Z ?_
 unfold F8 at h
 refine AWP.q (.u (.v Z Z (.nil (b6 (.q (.u (.v Z Z (.nil (b6 (.q (.q (.u (.j Z Z (S.len Z Z (fun hl7 => .j Z Z (.nil (b6 (.aa ?_))))))))))))))))))
 obtain ⟨w2, ho1, h⟩ := bind_some h
 refine AWP.forS ho1 (fun t3 w2 => ⟨[(3, .c (.imm (.val (.int .u32 w2)))), (6, .c (row 1 intI sv)), (7, .c (int (sv.length : Int))), (8, .c (int t3))], []⟩) (fun w2 e st => e = .exit 0 ∧ Sub [] st ⟨[(3, .c (.imm (.val (.int .u32 w2))))], []⟩) ?_ ?_ ?_ ?_
 ·try dsimp only
  exact Sub.env ⟨Z, Z, Z, Z, Y⟩
 ·intro t3 w2 hlot3 hltt3 _
  try dsimp only
  refine AWP.q (.u (.J Z Z Z (.nil (b6 (.q (.ag Z hltt3 (.exit (e7 (e7 ⟨Z, ?_⟩)))))))))
  exact Sub.env ⟨Z, Y⟩
 ·intro t3 w2 o hlot3 hltt3 h
  unfold S8 at h
  try dsimp only at h ⊢
  refine AWP.q (.u (.J Z Z Z (.nil (b6 (.q (.ah Z hltt3 (.skip (b6 (.q (.aa (.q ?_)))))))))))
  obtain ⟨a10, ha10, h⟩ := bind_some h
  refine AWP.u (S.idx ha10 Z Z Z Z (.ai Z Z Z Z (.v Z Z (.nil (b6 ?_)))))
  obtain ⟨u14, hu14, h⟩ := bind_some h
  refine AWP.u (.j Z Z (.j Z Z (S.shl hu14 Z Z Z (.bits Z Z Z (by simp) (.v Z Z (.nil (e9 (b6 (.u (.add Z Z Z (by omega) (.j Z Z (.nil ?_))))))))))))
  obtain rfl := oi h
  refine b6 (Sub.env ⟨Z, Z, Z, Z, Y⟩)
 ·intro e s hq
  obtain ⟨rfl, hs⟩ := hq
  refine ⟨_, hs, ?_⟩
  refine j7 (b6 (.q (.u (.j Z Z (.v Z Z (.nil (b6 (.ret ?_))))))))
  obtain rfl := oi h
  exact Done.ret Z Z
theorem ag7 {w : Int} {r : (List Int)} (h : N4 w = some r) : n5 prog 58 [.c (.imm (.val (.int .u32 w)))] 1 (List.map intI r) := by
 unfold n5
 refine FnOk.enter (rs := [.t 2]) func58 Z ntmps58 results58 Z ⟨trivial, Y⟩ (by kernel_rfl) Z ?_
 unfold N4 at h
 refine AWP.q (.u (.v Z Z (.nil (b6 (.q (.u (.v Z Z (.nil (b6 (.q (.q (.u (.j Z Z (.nil (b6 (.aa (.virtV 1 intI 3 Z Z Z ?_)))))))))))))))))
 obtain ⟨c2, ho1, h⟩ := bind_some h
 refine AWP.forS ho1 (fun t3 c2 => ⟨[(0, .c (.imm (.val (.int .u32 w)))), (3, .c (.own 0 0 c2.length)), (5, .c (int t3))], [.one (vec 1 intI c2)]⟩) (fun c2 e st => e = .exit 0 ∧ Sub [] st ⟨[(3, .c (.own 0 0 c2.length))], [.one (vec 1 intI c2)]⟩) ?_ ?_ ?_ ?_
 ·try dsimp only
  exact Sub.env ⟨Z, (H6 (by first | rfl | simp only [List.length_set])), Z, Y⟩
 ·intro t3 c2 hlot3 hltt3 _
  try dsimp only
  refine AWP.q (.u (.J Z Z Z (.nil (b6 (.q (.ag Z hltt3 (.exit (e7 (e7 ⟨Z, ?_⟩)))))))))
  exact Sub.env ⟨Z, Y⟩
 ·intro t3 c2 o hlot3 hltt3 h
  unfold Q5 at h
  try dsimp only at h ⊢
  refine AWP.q (.u (.J Z Z Z (.nil (b6 (.q (.ah Z hltt3 (.skip (b6 ?_))))))))
  obtain ⟨c4, hx5, h⟩ := bind_some h
  refine AWP.seqJ (⟨[(0, .c (.imm (.val (.int .u32 w)))), (3, .c (.own 2 0 c4.length)), (5, .c (int t3))], [.dead, .dead, .one (vec 1 intI c4)]⟩) ?_ ?_
  ·refine AWP.aa (.q (.u (.j Z Z (.v Z Z (.nil (b6 (.q (.u (.j Z Z (.j Z Z (.shr Z Z Z (by first | decide | omega) Z (.bits Z Z Z (by simp) (.ab Z Z Z (.nil (b6 (.ite Z hx5 (fun hc6 hx5 => ?_) (fun hc6 hx5 => ?_)))))))))))))))))
   ·obtain ⟨a16, ha16, hx5⟩ := bind_some hx5
    refine AWP.u (.j Z Z (.j Z Z (S.lit (f := intI) (l := [t3]) (ess := [[int t3]]) Z Z Z Z Z Z Z ⟨⟨.inl Z, Y⟩, Y⟩ Z Z Z (S.append (f := intI) ha16 Z Z Z Z Z Z (.own Z Z) Z Z Z Z (.v Z Z (.nil (e9 ?_)))))))
    obtain rfl := oi hx5
    refine b6 (Sub.cut ⟨Z, Z, Z, Y⟩ Z ⟨.dead, .dead, .vec, Y⟩ Z)
   ·refine AWP.skip (e9 ?_)
    obtain rfl := oi hx5
    refine b6 ((Sub.move (env' := [(0, .c (.imm (.val (.int .u32 w)))), (3, .c (.own 2 0 c2.length)), (5, .c (int t3))]) (σ' := [.dead, .dead, .one (vec 1 intI c2)]) 2 0 Z Z Z ⟨Z, Z, Z, Y⟩ Z ⟨trivial, trivial, ⟨Blk.im_ok _ _ _, f7 Z⟩, Y⟩).trans (Sub.env ⟨Z, Z, Z, Y⟩))
  ·refine AWP.u (.add Z Z Z (by omega) (.j Z Z (.nil ?_)))
   obtain rfl := oi h
   refine b6 ((Sub.move (env' := [(0, .c (.imm (.val (.int .u32 w)))), (3, .c (.own 0 0 c4.length)), (5, .c (int (t3 + 1)))]) (σ' := [.one (vec 1 intI c4), .dead]) 0 2 Z Z Z ⟨Z, Z, Z, Y⟩ Z ⟨⟨Blk.im_ok _ _ _, f7 Z⟩, trivial, Y⟩).trans (Sub.cut ⟨Z, Z, Z, Y⟩ Z ⟨.vec, Y⟩ Z))
 ·intro e s hq
  obtain ⟨rfl, hs⟩ := hq
  refine ⟨_, hs, ?_⟩
  refine j7 (b6 (.q (.u (.j Z Z (.v Z Z (.nil (b6 (.ret ?_))))))))
  obtain rfl := oi h
  exact Done.ret Z (Fresh.mk Z Z)
theorem ak6 {xv : Int} {yv : Int} {r : Int} (h : I6 xv yv = some r) : e8 prog 74 [.c (int xv), .c (int yv)] (.c (int r)) := by
 unfold e8
 refine FnOk.enter (rs := [.t 4]) func74 Z ntmps74 results74 Z ⟨trivial, Y⟩ (by kernel_rfl) Z ?_
 unfold I6 at h
 refine AWP.q (.u (.v Z Z (.nil (b6 (.q ?_)))))
 obtain ⟨a8, ha8, h⟩ := bind_some h
 refine AWP.u (.j Z Z (.F Z Z Z Z (A4 ha8) Z (.v Z Z (.nil (b6 (.q ?_))))))
 obtain ⟨a10, ha10, h⟩ := bind_some h
 refine AWP.u (.j Z Z (.F Z Z Z Z (A4 ha10) Z (.v Z Z (.nil (b6 (.q (.q (.u (.j Z Z (.nil (b6 (.ad Z h (fun hc3 h => ?_) (fun hc3 h => ?_)))))))))))))
 ·refine AWP.q (.q (.u (.j Z Z (.nil (b6 (.ad Z h (fun hc4 h => ?_) (fun hc4 h => ?_)))))))
  ·refine AWP.q (.u (.v Z Z (.nil (b6 (.ret (e6 (e6 ?_)))))))
   obtain rfl := oi h
   exact Done.ret Z Z
  ·refine AWP.skip (b6 (.q (.u (.v Z Z (.nil (b6 (.ret (e6 ?_))))))))
   obtain rfl := oi h
   exact Done.ret Z Z
 ·refine AWP.skip (b6 (.q (.q (.u (.j Z Z (.nil (b6 (.ad Z h (fun hc5 h => ?_) (fun hc5 h => ?_)))))))))
  ·refine AWP.q (.u (.v Z Z (.nil (b6 (.ret (e6 ?_))))))
   obtain rfl := oi h
   exact Done.ret Z Z
  ·refine AWP.skip (b6 (.q (.q (.u (.j Z Z (.j Z Z (.J Z Z Z (.nil (b6 (.ite Z h (fun hc6 h => ?_) (fun hc6 h => ?_)))))))))))
   ·refine AWP.q (.u (.v Z Z (.nil (b6 (.ret (e6 ?_))))))
    obtain rfl := oi h
    exact Done.ret Z Z
   ·refine AWP.skip (b6 (.q (.q (.u (.j Z Z (.j Z Z (.gtr Z Z Z (.nil (b6 (.ite Z h (fun hc7 h => ?_) (fun hc7 h => ?_)))))))))))
    ·refine AWP.q (.u (.v Z Z (.nil (b6 (.ret (e6 ?_))))))
     obtain rfl := oi h
     exact Done.ret Z Z
    ·refine AWP.skip (b6 (.q (.u (.v Z Z (.nil (b6 (.ret ?_)))))))
     obtain rfl := oi h
     exact Done.ret Z Z
theorem ab8 {s11 : List Int} {s22 : List Int} {r : Int} (h : u6 s11 s22 = some r) : e8 prog 57 [.c (row 1 intI s11), .c (row 1 intI s22)] (.c (int r)) := by
 unfold e8
 refine FnOk.enter (rs := [.t 4]) func57 Z ntmps57 results57 Z ⟨trivial, Y⟩ (by kernel_rfl) Z ?_
 unfold u6 at h
 refine AWP.q (.u (.v Z Z (.nil (b6 (.q (.q (.u (.j Z Z (S.len Z Z (fun hl10 => .j Z Z (.nil (b6 (.aa ?_)))))))))))))
 obtain ⟨oo, ho1, h⟩ := bind_some h
 refine AWP.rngS ho1 (fun t3 _ => ⟨[(0, .c (row 1 intI s11)), (1, .c (row 1 intI s22)), (9, .c (row 1 intI s11)), (10, .c (int (s11.length : Int))), (11, .c (int t3))], []⟩) (fun o e st => match o with | .inl _ => e = .exit 0 ∧ Sub [] st ⟨[(0, .c (row 1 intI s11)), (1, .c (row 1 intI s22))], []⟩ | .inr x => e = .ret ∧ Done [.t 4] (fun t _ => t = .c (int x)) .ret st) ?_ ?_ ?_ ?_
 ·try dsimp only
  exact Sub.env ⟨Z, Z, Z, Z, Z, Y⟩
 ·intro t3 s hlot3 hltt3 _
  try dsimp only
  refine AWP.q (.u (.J Z Z Z (.nil (b6 (.q (.ag Z hltt3 (.exit (e7 (e7 ⟨Z, ?_⟩)))))))))
  exact Sub.env ⟨Z, Z, Y⟩
 ·intro t3 s o hlot3 hltt3 h
  unfold A5 at h
  try dsimp only at h ⊢
  refine AWP.q (.u (.J Z Z Z (.nil (b6 (.q (.ah Z hltt3 (.skip (b6 (.q (.aa (.q ?_)))))))))))
  obtain ⟨a14, ha14, h⟩ := bind_some h
  refine AWP.u (.j Z Z (S.idx ha14 Z Z Z Z (.ai Z Z Z Z (.v Z Z (.v Z Z (.nil (b6 (.q (.q (.u (.j Z Z (.j Z Z (S.len Z Z (fun hl18 => .geq Z Z Z (.nil (b6 (.ite Z h (fun hc4 h => ?_) (fun hc4 h => ?_))))))))))))))))))
  ·refine AWP.q (.u (.v Z Z (.nil (b6 (.ret (e6 (k9 (e6 ?_))))))))
   obtain rfl := oi h
   refine e6 ⟨_, Z, Z, ?_⟩
   exact Done.ret Z Z
  ·refine AWP.skip (b6 (.q ?_))
   obtain ⟨a22, ha22, h⟩ := bind_some h
   refine AWP.u (.j Z Z (.j Z Z (S.idx ha22 Z Z Z Z (.ai Z Z Z Z (.v Z Z (.nil (b6 (.q ?_))))))))
   obtain ⟨a26, ha26, h⟩ := bind_some h
   refine AWP.u (.j Z Z (.j Z Z (.F Z Z Z Z (ak6 ha26) Z (.v Z Z (.nil (b6 (.q (.u (.j Z Z (.neq Z Z Z (.nil (b6 (.iteN Z h (fun hc5 h => ?_) (fun hc5 h => ?_))))))))))))))
   ·refine AWP.q (.u (.j Z Z (.v Z Z (.nil (b6 (.ret (k9 (e6 ?_))))))))
    obtain rfl := oi h
    refine e6 ⟨_, Z, Z, ?_⟩
    exact Done.ret Z Z
   ·refine AWP.skip (e9 (b6 (.u (.add Z Z Z (by omega) (.j Z Z (.nil ?_))))))
    obtain rfl := oi h
    refine b6 ⟨_, Z, ?_⟩
    exact Sub.env ⟨Z, Z, Z, Z, Z, Y⟩
 ·intro e s hq
  rcases oo with u | x
  ·try dsimp only at h hq
   obtain ⟨rfl, hs⟩ := hq
   refine ⟨_, hs, ?_⟩
   refine j7 (b6 (.q (.q (.u (.j Z Z (S.len Z Z (fun hl32 => .j Z Z (S.len Z Z (fun hl34 => .J Z Z Z (.nil (b6 (.ite Z h (fun hc6 h => ?_) (fun hc6 h => ?_)))))))))))))
   ·refine AWP.q (.u (.v Z Z (.nil (b6 (.ret (e6 ?_))))))
    obtain rfl := oi h
    exact Done.ret Z Z
   ·refine AWP.skip (b6 (.q (.u (.v Z Z (.nil (b6 (.ret ?_)))))))
    obtain rfl := oi h
    exact Done.ret Z Z
  ·try dsimp only at h hq
   obtain ⟨rfl, hs⟩ := hq
   refine ⟨_, Sub.refl _ _, ?_⟩
   refine k9 (e6 ?_)
   obtain rfl := oi h
   exact hs
theorem aj3 {av : Int} {bv : Int} {r : Int} (h : E7 av bv = some r) : e8 prog 56 [.c (.imm (.val (.int .u32 av))), .c (.imm (.val (.int .u32 bv)))] (.c (int r)) := by
 unfold e8
 refine FnOk.enter (rs := [.t 4]) func56 Z ntmps56 results56 Z ⟨trivial, Y⟩ (by kernel_rfl) Z ?_
 unfold E7 at h
 refine AWP.q (.u (.v Z Z (.nil (b6 (.q ?_)))))
 obtain ⟨a6, ha6, a8, ha8, a9, ha9, h⟩ := b3 h
 refine AWP.u (.j Z Z (S.fresh Z Z Z Z (ag7 ha6) Z Z (.j Z Z (S.fresh Z Z Z Z (ag7 ha8) Z Z (.callL Z Z (.cons (.c (.own Z Z)) (.cons (.c (.own Z Z)) .nil)) Z (ab8 ha9) Z (.v Z Z (.nil (b6 (.ret ?_)))))))))
 obtain rfl := oi h
 exact Done.ret Z Z
theorem space_Of_w_ok {t : d9} {r : Int × Int × (List i6)} (h : X5 t = some r) : FnOk prog 53 [.agg (tT t)] (ai9 t) (fun tt ss => tt = .c (.ptr 1 0 0) ∧ ss = [.dead, .one (.cells 3 [[.imm (.val (.int .u32 r.1)), .imm (.val (.int .u32 r.2.1)), .own 2 0 r.2.2.length]]), .one (vec 4 d7 r.2.2)]) := by
 refine FnOk.enter (rs := [.t 2]) func53 Z ntmps53 results53 Z ⟨trivial, Y⟩ (by kernel_rfl) Z ?_
 refine AWP.weak ?_
 unfold X5 at h
 refine AWP.q (.u (W.box Z Z Z Z Z Z (.v Z Z (.nil (b6 (.q ?_))))))
 obtain ⟨a8, ha8, a11, ha11, h⟩ := b2 h
 refine AWP.drawEI [7] mixed Z Z Z ?_
 refine d6.consN Z Z (fun E => W.fieldAddr Z Z Z Z .N) Z (.consN Z Z (fun E => AOps.E Z Z Z Z Z Z .N) Z (.consN Z Z (fun E => AOps.F Z Z Z Z (w9 ha8) Z .N) Z (.consN Z Z (fun E => W.fieldAddr Z Z Z Z .N) Z (.consN Z Z (fun E => AOps.E Z Z Z Z Z Z .N) Z (.consN Z Z (fun E => AOps.F Z Z Z Z (w9 ha11) Z .N) Z (.consN Z Z (fun E => W.build Z Z Z Z .N) Z ?_))))))
 apply d6.consE; exact Z; exact Z; intro E
 refine W.box Z Z Z Z Z Z .N
 exact Z
 exact Z
 refine d6.consN Z Z (fun E => AOps.v Z Z .N) Z ?_
 refine d6.done Z ?_ ?_
 ·refine d5.cons Z Z ?_ ?_
  refine b7.go Z Z (fun E => W.fieldAddr Z Z Z Z .N) ?_
  refine b7.skip Z (b7.nil)
  refine d5.cons Z Z ?_ ?_
  refine b7.go Z Z (fun E => AOps.E Z Z Z Z Z Z .N) ?_
  refine b7.skip Z (b7.nil)
  refine d5.cons Z Z ?_ ?_
  refine b7.go Z Z (fun E => AOps.F Z Z Z Z (w9 ha8) Z .N) ?_
  refine b7.skip Z (b7.nil)
  refine d5.cons Z Z ?_ ?_
  refine b7.go Z Z (fun E => W.fieldAddr Z Z Z Z .N) ?_
  refine b7.skip Z (b7.nil)
  refine d5.cons Z Z ?_ ?_
  refine b7.go Z Z (fun E => AOps.E Z Z Z Z Z Z .N) ?_
  refine b7.skip Z (b7.nil)
  refine d5.cons Z Z ?_ ?_
  refine b7.go Z Z (fun E => AOps.F Z Z Z Z (w9 ha11) Z .N) ?_
  refine b7.skip Z (b7.nil)
  refine d5.cons Z Z ?_ ?_
  refine b7.go Z Z (fun E => W.build Z Z Z Z .N) ?_
  refine b7.skip Z (b7.nil)
  refine d5.skip Z ?_
  refine d5.cons Z Z ?_ ?_
  refine b7.skip Z ?_
  refine b7.go Z Z (fun E => AOps.v Z Z .N) ?_
  exact b7.nil
  exact d5.nil
 dsimp only [i5]
 refine b6 (.q (.q (.u (W.fieldAddr Z Z Z Z (.E Z Z Z Z Z Z (S.len Z Z (fun hl16 => .j Z Z (.nil (b6 (.aa (.virtB 4 d7 (b := 1) (o := 2) Z Z Z Z Z Z ?_)))))))))))
 obtain ⟨c55, ho1, h⟩ := bind_some h
 refine AWP.forS ho1 (fun t56 c55 => ⟨[(3, .c (.ptr 1 0 0)), (15, .c (row 4 i3 t.operators)), (16, .c (int (t.operators.length : Int))), (17, .c (int t56))], [.dead, .one (.cells 3 [(wW a8 a11 2 c55.length)]), .one (vec 4 d7 c55)]⟩) (fun c55 e st => e = .exit 0 ∧ Sub (ai9 t) st ⟨[(3, .c (.ptr 1 0 0))], [.dead, .one (.cells 3 [(wW a8 a11 2 c55.length)]), .one (vec 4 d7 c55)]⟩) ?_ ?_ ?_ ?_
 ·try dsimp only
  exact Sub.cut ⟨Z, Z, Z, Z, Y⟩ Z ⟨.dead, (.eq Z (by first | rfl | (simp only [List.length_set]; done))), .vec, Y⟩ Z
 ·intro t56 c55 hlot56 hltt56 _
  try dsimp only
  refine AWP.q (.u (.J Z Z Z (.nil (b6 (.q (.ag Z hltt56 (.exit (e7 (e7 ⟨Z, ?_⟩)))))))))
  exact Sub.env ⟨Z, Y⟩
 ·intro t56 c55 o hlot56 hltt56 h
  unfold S7 at h
  try dsimp only at h ⊢
  refine AWP.q (.u (.J Z Z Z (.nil (b6 (.q (.ah Z hltt56 (.skip (b6 (.q (.aa (.q ?_)))))))))))
  obtain ⟨a19, ha19, h⟩ := bind_some h
  refine AWP.u (S.idx ha19 Z Z Z Z (W.loadIAgg Z Z Z Z Z (W.alloc Z Z Z Z (W.storeAgg Z Z Z Z Z Z Z (.nil (b6 ?_))))))
  obtain ⟨a28, ha28, a31, ha31, a34, ha34, h⟩ := b3 h
  obtain ⟨a39, ha39, h⟩ := bind_some h
  refine AWP.drawEI [17, 18, 21] mixed Z Z Z ?_
  refine d6.consN Z Z (fun E => AOps.j Z Z .N) Z (.consN Z Z (fun E => AOps.j Z Z .N) Z (.consN Z Z (fun E => AOps.aj Z Z Z .N) Z (.consN Z Z (fun E => W.fieldAddr Z Z Z Z .N) Z (.consN Z Z (fun E => AOps.E Z Z Z Z Z Z .N) Z (.consN Z Z (fun E => W.fieldAddr Z Z Z Z .N) Z (.consN Z Z (fun E => AOps.E Z Z Z Z Z Z .N) Z (.consN Z Z (fun E => AOps.F Z Z Z Z (w9 ha28) Z .N) Z (.consN Z Z (fun E => W.fieldAddr Z Z Z Z .N) Z (.consN Z Z (fun E => AOps.E Z Z Z Z Z Z .N) Z (.consN Z Z (fun E => AOps.F Z Z Z Z (w9 ha31) Z .N) Z (.consN Z Z (fun E => W.fieldAddr Z Z Z Z .N) Z (.consN Z Z (fun E => AOps.E Z Z Z Z Z Z .N) Z (.consN Z Z (fun E => AOps.F Z Z Z Z (w9 ha34) Z .N) Z (.consN Z Z (fun E => W.fieldAddr Z Z Z Z .N) Z (.consN Z Z (fun E => AOps.E Z Z Z Z Z Z .N) Z (.consN Z Z (fun E => W.build Z Z Z Z .N) Z ?_))))))))))))))))
  apply d6.consE; exact Z; exact Z; intro E
  refine S.lit (f := d7) (l := [(⟨a28, a31, a34, a19.cost⟩ : i6)]) (ess := [[.imm (.val (.int .u32 a28)), .imm (.val (.int .u32 a31)), .imm (.val (.int .u32 a34)), int a19.cost]]) Z Z Z Z Z Z Z ⟨⟨.inl Z, .inl Z, .inl Z, .inl Z, Y⟩, Y⟩ Z Z Z .N
  exact Z
  exact Z
  apply d6.consE; exact Z; exact Z; intro E
  refine S.append (f := d7) ha39 Z Z Z Z Z Z (.own Z Z) Z Z Z Z .N
  exact Z
  exact Z
  refine d6.consN Z Z (fun E => AOps.aj Z Z Z .N) Z (.consN Z Z (fun E => W.fieldAddr Z Z Z Z .N) Z ?_)
  apply d6.consE (v := .undef); exact Z; exact Z; intro E
  refine W.store Z Z Z Z Z .N
  exact Z
  exact Z
  refine d6.done Z ?_ ?_
  ·refine d5.cons Z Z ?_ ?_
   refine b7.go Z Z (fun E => AOps.j Z Z .N) ?_
   refine b7.go Z Z (fun E => AOps.j Z Z .N) ?_
   refine b7.go Z Z (fun E => AOps.j Z Z .N) ?_
   refine b7.skip Z (b7.nil)
   refine d5.cons Z Z ?_ ?_
   refine b7.go Z Z (fun E => AOps.j Z Z .N) ?_
   refine b7.go Z Z (fun E => AOps.j Z Z .N) ?_
   refine b7.skip Z (b7.skip Z (b7.nil))
   refine d5.cons Z Z ?_ ?_
   refine b7.go Z Z (fun E => AOps.aj Z Z Z .N) ?_
   refine b7.go Z Z (fun E => AOps.aj Z Z Z .N) ?_
   refine b7.skip Z (b7.skip Z (b7.nil))
   refine d5.cons Z Z ?_ ?_
   refine b7.go Z Z (fun E => W.fieldAddr Z Z Z Z .N) ?_
   refine b7.go Z Z (fun E => W.fieldAddr Z Z Z Z .N) ?_
   refine b7.skip Z (b7.skip Z (b7.nil))
   refine d5.cons Z Z ?_ ?_
   refine b7.go Z Z (fun E => AOps.E Z Z Z Z Z Z .N) ?_
   refine b7.go Z Z (fun E => AOps.E Z Z Z Z Z Z .N) ?_
   refine b7.skip Z (b7.skip Z (b7.nil))
   refine d5.cons Z Z ?_ ?_
   refine b7.go Z Z (fun E => W.fieldAddr Z Z Z Z .N) ?_
   refine b7.skip Z (b7.skip Z (b7.skip Z (b7.nil)))
   refine d5.cons Z Z ?_ ?_
   refine b7.go Z Z (fun E => AOps.E Z Z Z Z Z Z .N) ?_
   refine b7.skip Z (b7.skip Z (b7.skip Z (b7.nil)))
   refine d5.cons Z Z ?_ ?_
   refine b7.go Z Z (fun E => AOps.F Z Z Z Z (w9 ha28) Z .N) ?_
   refine b7.skip Z (b7.skip Z (b7.skip Z (b7.nil)))
   refine d5.cons Z Z ?_ ?_
   refine b7.go Z Z (fun E => W.fieldAddr Z Z Z Z .N) ?_
   refine b7.skip Z (b7.skip Z (b7.skip Z (b7.nil)))
   refine d5.cons Z Z ?_ ?_
   refine b7.go Z Z (fun E => AOps.E Z Z Z Z Z Z .N) ?_
   refine b7.skip Z (b7.skip Z (b7.skip Z (b7.nil)))
   refine d5.cons Z Z ?_ ?_
   refine b7.go Z Z (fun E => AOps.F Z Z Z Z (w9 ha31) Z .N) ?_
   refine b7.skip Z (b7.skip Z (b7.skip Z (b7.nil)))
   refine d5.cons Z Z ?_ ?_
   refine b7.go Z Z (fun E => W.fieldAddr Z Z Z Z .N) ?_
   refine b7.skip Z (b7.skip Z (b7.skip Z (b7.nil)))
   refine d5.cons Z Z ?_ ?_
   refine b7.go Z Z (fun E => AOps.E Z Z Z Z Z Z .N) ?_
   refine b7.skip Z (b7.skip Z (b7.skip Z (b7.nil)))
   refine d5.cons Z Z ?_ ?_
   refine b7.go Z Z (fun E => AOps.F Z Z Z Z (w9 ha34) Z .N) ?_
   refine b7.skip Z (b7.skip Z (b7.skip Z (b7.nil)))
   refine d5.cons Z Z ?_ ?_
   refine b7.go Z Z (fun E => W.fieldAddr Z Z Z Z .N) ?_
   refine b7.skip Z (b7.skip Z (b7.skip Z (b7.nil)))
   refine d5.cons Z Z ?_ ?_
   refine b7.go Z Z (fun E => AOps.E Z Z Z Z Z Z .N) ?_
   refine b7.skip Z (b7.skip Z (b7.skip Z (b7.nil)))
   refine d5.cons Z Z ?_ ?_
   refine b7.go Z Z (fun E => W.build Z Z Z Z .N) ?_
   refine b7.skip Z (b7.skip Z (b7.skip Z (b7.nil)))
   refine d5.skip Z (d5.skip Z ?_)
   refine d5.cons Z Z ?_ ?_
   refine b7.skip Z (b7.skip Z ?_)
   refine b7.go Z Z (fun E => AOps.aj Z Z Z .N) ?_
   refine b7.skip Z (b7.nil)
   refine d5.cons Z Z ?_ ?_
   refine b7.skip Z (b7.skip Z ?_)
   refine b7.go Z Z (fun E => W.fieldAddr Z Z Z Z .N) ?_
   refine b7.skip Z (b7.nil)
   refine d5.skip Z (d5.nil)
  dsimp only [i5]
  refine e9 (b6 (.j (env' := [(3, .c (.ptr 1 0 0)), (15, .c (row 4 i3 t.operators)), (16, .c (int (t.operators.length : Int))), (17, .c (int t56))]) (σ' := [.dead, .one (.cells 3 [(wW a8 a11 2 a39.length)]), .one (vec 4 d7 a39), .one (.cells 4 [[row 1 intI a19.pre, row 1 intI a19.add, row 1 intI a19.del, int a19.cost]]), .one (vec 4 d7 [(⟨a28, a31, a34, a19.cost⟩ : i6)])]) 2 5 Z Z Z ⟨Z, Z, Z, Z, Y⟩ Z ⟨trivial, ⟨Z, Z⟩, ⟨Blk.im_ok _ _ _, f7 Z⟩, ⟨Z, Z⟩, ⟨Blk.im_ok _ _ _, f7 Z⟩, Y⟩ (.u (.add Z Z Z (by omega) (.j Z Z (.nil ?_))))))
  obtain rfl := oi h
  refine b6 (Sub.cut ⟨Z, Z, Z, Z, Y⟩ Z ⟨.dead, .one Z, .vec, Y⟩ Z)
 ·intro e s hq
  obtain ⟨rfl, hs⟩ := hq
  refine ⟨_, hs, ?_⟩
  refine j7 (b6 (.q (.u (.j Z Z (.v Z Z (.nil (b6 (.ret ?_))))))))
  obtain rfl := oi h
  exact ⟨⟨[(2, .c (.ptr 1 0 0))], [.dead, .one (.cells 3 [(wW a8 a11 2 c55.length)]), .one (vec 4 d7 c55)]⟩, Sub.env ⟨Z, Y⟩, Done.ret Z ⟨Z, Z⟩⟩
theorem J2 {start : Int} {goal : Int} {l : List i6} {r : Unit} (h : u9 start goal l = some r) : FnOk prog 42 [.c (.ptr 0 0 0)] (af5 start goal l) (fun tt ss => tt = .c (.imm (.val (.int .u32 start))) ∧ ss = [.one (.cells 3 [(wW start goal 1 l.length)]), .one (vec 4 d7 l)]) := by
 refine FnOk.enter (rs := [.t 2]) func42 Z ntmps42 results42 Z ⟨trivial, Y⟩ (by kernel_rfl) Z ?_
 refine AWP.weak ?_
 unfold u9 at h
 refine AWP.q (.u (.v Z Z (.nil (b6 (.q (.u (.j Z Z (.aj Z Z Z (W.fieldAddr Z Z Z Z (.E Z Z Z Z Z Z (.v Z Z (.nil (b6 (.ret ?_))))))))))))))
 obtain rfl := oi h
 exact ⟨⟨[(2, .c (.imm (.val (.int .u32 start))))], [.one (.cells 3 [(wW start goal 1 l.length)]), .one (vec 4 d7 l)]⟩, Sub.env ⟨Z, Y⟩, Done.ret Z ⟨Z, Z⟩⟩
theorem R7 {sv : Int} {start : Int} {goal : Int} {l : List i6} {r : Unit} (h : z6 sv start goal l = some r) : FnOk prog 62 [.c (.ptr 0 0 0), .c (.imm (.val (.int .u32 sv)))] (af8 sv start goal l) (fun tt ss => tt = .c (.fn 77 [.ptr 2 0 0, .ptr 3 0 0]) ∧ ss = [.one (.cells 3 [(wW start goal 1 l.length)]), .one (vec 4 d7 l), .one (.cells 1 [[.ptr 0 0 0]]), .one (.cells 1 [[.imm (.val (.int .u32 sv))]])]) := by
 refine FnOk.enter (rs := [.t 4]) func62 Z ntmps62 results62 Z ⟨trivial, Y⟩ (by kernel_rfl) Z ?_
 refine AWP.weak ?_
 unfold z6 at h
 refine AWP.q (.u (W.box Z Z Z Z Z Z (W.box Z Z Z Z Z Z (.v Z Z (.nil (b6 (.q (.u (.makeFunc Z Z (.v Z Z (.nil (b6 (.ret ?_)))))))))))))
 obtain rfl := oi h
 exact ⟨⟨[(4, .c (.fn 77 [.ptr 2 0 0, .ptr 3 0 0]))], [.one (.cells 3 [(wW start goal 1 l.length)]), .one (vec 4 d7 l), .one (.cells 1 [[.ptr 0 0 0]]), .one (.cells 1 [[.imm (.val (.int .u32 sv))]])]⟩, Sub.env ⟨Z, Y⟩, Done.ret Z ⟨Z, Z⟩⟩
theorem ag4 {start : Int} {goal : Int} {l : List i6} {r : (List Int) × Bool} (h : D5 start goal l = some r) : FnOk prog 54 [.c (.ifc 65 [.ptr 0 0 0] false)] (J7 start goal l) (fun tt ss => tt = .tup [.c (.own 12 0 r.1.length), .c (bool r.2)] ∧ ss = [.one (.cells 3 [(wW start goal 1 l.length)]), .one (vec 4 d7 l), .dead, .dead, .dead, .dead, .dead, .dead, .dead, .dead, .dead, .dead, .one (vec 1 eU32 r.1)]) := by
 refine FnOk.enter (rs := [.t 2, .t 3]) func54 Z ntmps54 results54 Z ⟨trivial, trivial, Y⟩ (by kernel_rfl) Z ?_
 refine AWP.weak ?_
 unfold D5 at h
 refine AWP.q (.u (.v Z Z (.v Z Z (.nil (b6 (.q ?_))))))
 obtain ⟨a12, ha12, h⟩ := bind_some h
 refine AWP.u (.j Z Z (S.invokeP (r2 := .c (.imm (.val (.int .u32 start)))) (σ'' := [.one (.cells 3 [(wW start goal 1 l.length)]), .one (vec 4 d7 l)]) Z Z Z (FnOk.lend [0, 1] (J2 ha12) Z Z Z Z Z Z (by exact ⟨(.one Z), .vec, Y⟩) Z (by exact ⟨(.live Z (.one Z)), (.live Z .vec), Y⟩) Z Z (by exact ⟨(.new 0 Z Z (.one Z)), (.new 1 Z Z .vec), Y⟩)) (S.lit (f := eU32) (l := [start]) (ess := [[.imm (.val (.int .u32 start))]]) Z Z Z Z Z Z Z ⟨⟨.inl Z, Y⟩, Y⟩ Z Z Z (W.alloc Z Z Z Z (W.store Z Z Z Z Z (.nil (b6 (.q ?_))))))))
 obtain ⟨a16, ha16, h⟩ := bind_some h
 refine AWP.u (W.makeMap vU noV Z Z Z (.j Z Z (S.invokeP (r2 := .c (.imm (.val (.int .u32 start)))) (σ'' := [.one (.cells 3 [(wW start goal 1 l.length)]), .one (vec 4 d7 l), .one (vec 1 eU32 [start]), .one (.cells 1 [[.own 2 0 ([start].length)]]), .one (mapB vU noV ([] : List (Int × Unit)))]) Z Z Z (FnOk.lend [0, 1] (J2 ha16) Z Z Z Z Z Z (by exact ⟨(.one Z), .vec, Y⟩) Z (by exact ⟨(.live Z (.one Z)), (.live Z .vec), Y⟩) Z Z (by exact ⟨(.new 0 Z Z (.one Z)), (.new 1 Z Z .vec), (.old Z Z Z), (.old Z Z Z), (.old Z Z Z), Y⟩)) (S.build0 Z Z Z (W.insertU (fk := vU) (k := start) C2 Z Z Z Z Z (.j Z Z (W.alloc Z Z Z Z (W.store Z Z Z Z Z (.nil (b6 (.q (.u (.v Z Z (.nil (b6 (.q (.aa (.virtV 1 eU32 6 Z Z Z ?_))))))))))))))))))
 obtain ⟨oo, ho1, h⟩ := bind_some h
 refine AWP.loopS ho1 (fun (c56, c57, c58) => ⟨[(0, .c (.ifc 65 [.ptr 0 0 0] false)), (4, .c (.ptr 3 0 0)), (5, .c (.ptr 5 0 0)), (6, .c (.own 6 0 c58.length))], [.one (.cells 3 [(wW start goal 1 l.length)]), .one (vec 4 d7 l), .one (vec 1 eU32 c56), .one (.cells 1 [[.own 2 0 c56.length]]), .one (mapB vU noV c57), .one (.cells 1 [[.map 4]]), .one (vec 1 eU32 c58)]⟩) (fun o e st => match o with | .inl c59 => e = .exit 0 ∧ Sub (J7 start goal l) st ⟨[(6, .c (.own 6 0 c59.length))], [.one (.cells 3 [(wW start goal 1 l.length)]), .one (vec 4 d7 l), .dead, .dead, .dead, .dead, .one (vec 1 eU32 c59)]⟩ | .inr x => e = .ret ∧ ∃ J, Sub (J7 start goal l) st J ∧ Done [.t 2, .t 3] (fun tt ss => tt = .tup [.c (.own 12 0 x.1.length), .c (bool x.2)] ∧ ss = [.one (.cells 3 [(wW start goal 1 l.length)]), .one (vec 4 d7 l), .dead, .dead, .dead, .dead, .dead, .dead, .dead, .dead, .dead, .dead, .one (vec 1 eU32 x.1)]) .ret J) ?_ ?_ ?_
 ·try dsimp only
  exact Sub.env ⟨Z, Z, Z, (H6 (by first | rfl | simp only [List.length_set])), Y⟩
 ·intro s o h
  obtain ⟨c56, c57, c58⟩ := s
  unfold E6 at h
  try dsimp only at h ⊢
  refine AWP.q (.q (.u (.E Z Z Z Z Z Z (S.lenO Z Z Z (fun hl20 => .gtr Z Z Z (.nil (b6 (.ite Z h (fun hc60 h => ?_) (fun hc60 h => ?_)))))))))
  ·refine AWP.skip (b6 (.aa (.q ?_)))
   obtain ⟨a26, ha26, h⟩ := bind_some h
   refine AWP.u (.E Z Z Z Z Z Z (.E Z Z Z Z Z Z (S.lenO Z Z Z (fun hl24 => .sub' Z Z Z (by omega) (S.idxO ha26 Z Z Z Z Z (S.loadO ha26 Z Z Z Z Z (.v Z Z (.nil (b6 (.q ?_))))))))))
   obtain ⟨u32, hu32, h⟩ := bind_some h
   refine AWP.u (.E Z Z Z Z Z Z (.E Z Z Z Z Z Z (S.lenO Z Z Z (fun hl30 => .sub' Z Z Z (by omega) (S.vTo (vw_full c56) hu32 Z Z Z Z Z Z (.sub (Sub.reown (env' := [(0, .c (.ifc 65 [.ptr 0 0 0] false)), (4, .c (.ptr 3 0 0)), (5, .c (.ptr 5 0 0)), (6, .c (.own 6 0 c58.length)), (7, .c (.imm (.val (.int .u32 a26)))), (20, .c (int (c56.length : Int))), (21, .c (bool (decide (0 < (c56.length : Int))))), (24, .c (int (c56.length : Int))), (25, .c (int ((c56.length : Int) - 1))), (27, .c (.imm (.val (.int .u32 a26)))), (30, .c (int (c56.length : Int))), (31, .c (int ((c56.length : Int) - 1))), (32, .c (.own 7 0 ((o4 c56 0 ((c56.length : Int) - 1)).length)))]) 32 (vw_to (vw_full c56) hu32) Z Z Z Z Z Z Z Z (by exact ⟨.inr Z, .inr Z, .inr Z, .inr Z, .inr Z, .inr Z, .inr Z, .inr Z, .inr Z, .inr Z, .inr Z, .inr Z, .inl ⟨Z, Z⟩, Y⟩)) (W.store Z Z Z Z Z (.nil (b6 (.q (.j (env' := [(0, .c (.ifc 65 [.ptr 0 0 0] false)), (4, .c (.ptr 3 0 0)), (5, .c (.ptr 5 0 0)), (6, .c (.own 6 0 c58.length)), (7, .c (.imm (.val (.int .u32 a26))))]) (σ' := [.one (.cells 3 [(wW start goal 1 l.length)]), .one (vec 4 d7 l), .one (vec 1 eU32 (o4 c56 0 ((c56.length : Int) - 1))), .one (.cells 1 [[.own 2 0 ((o4 c56 0 ((c56.length : Int) - 1)).length)]]), .one (mapB vU noV c57), .one (.cells 1 [[.map 4]]), .one (vec 1 eU32 c58)]) 2 7 Z Z Z ⟨Z, Z, Z, Z, Z, Y⟩ Z ⟨⟨Z, Z⟩, ⟨Blk.im_ok _ _ _, f7 Z⟩, ⟨Blk.im_ok _ _ _, f7 Z⟩, ⟨Z, Z⟩, ⟨Z, Z⟩, ⟨Z, Z⟩, ⟨Blk.im_ok _ _ _, f7 Z⟩, Y⟩ ?_)))))))))))
   obtain ⟨a36, ha36, h⟩ := bind_some h
   refine AWP.u (.j Z Z (.j Z Z (S.lit (f := eU32) (l := [a26]) (ess := [[.imm (.val (.int .u32 a26))]]) Z Z Z Z Z Z Z ⟨⟨.inl Z, Y⟩, Y⟩ Z Z Z (S.append (f := eU32) ha36 Z Z Z Z Z Z (.own Z Z) Z Z Z Z (.v Z Z (.nil (b6 (.q (.q (.j (env' := [(0, .c (.ifc 65 [.ptr 0 0 0] false)), (4, .c (.ptr 3 0 0)), (5, .c (.ptr 5 0 0)), (6, .c (.own 6 0 a36.length)), (7, .c (.imm (.val (.int .u32 a26))))]) (σ' := [.one (.cells 3 [(wW start goal 1 l.length)]), .one (vec 4 d7 l), .one (vec 1 eU32 (o4 c56 0 ((c56.length : Int) - 1))), .one (.cells 1 [[.own 2 0 ((o4 c56 0 ((c56.length : Int) - 1)).length)]]), .one (mapB vU noV c57), .one (.cells 1 [[.map 4]]), .one (vec 1 eU32 a36), .one (vec 1 eU32 [a26])]) 6 8 Z Z Z ⟨Z, Z, Z, Z, Z, Y⟩ Z ⟨⟨Z, Z⟩, ⟨Blk.im_ok _ _ _, f7 Z⟩, ⟨Blk.im_ok _ _ _, f7 Z⟩, ⟨Z, Z⟩, ⟨Z, Z⟩, ⟨Z, Z⟩, ⟨Blk.im_ok _ _ _, f7 Z⟩, ⟨Blk.im_ok _ _ _, f7 Z⟩, Y⟩ ?_))))))))))
   obtain ⟨a39, ha39, h⟩ := bind_some h
   refine AWP.u (.j Z Z (.j Z Z (S.invokeP (r2 := .c (.fn 77 [.ptr 8 0 0, .ptr 9 0 0])) (σ'' := [.one (.cells 3 [(wW start goal 1 l.length)]), .one (vec 4 d7 l), .one (vec 1 eU32 (o4 c56 0 ((c56.length : Int) - 1))), .one (.cells 1 [[.own 2 0 ((o4 c56 0 ((c56.length : Int) - 1)).length)]]), .one (mapB vU noV c57), .one (.cells 1 [[.map 4]]), .one (vec 1 eU32 a36), .one (vec 1 eU32 [a26]), .one (.cells 1 [[.ptr 0 0 0]]), .one (.cells 1 [[.imm (.val (.int .u32 a26))]])]) Z Z Z (FnOk.lend [0, 1] (R7 ha39) Z Z Z Z Z Z (by exact ⟨(.one Z), .vec, Y⟩) Z (by exact ⟨(.live Z (.one Z)), (.live Z .vec), Y⟩) Z Z (by exact ⟨(.new 0 Z Z (.one Z)), (.new 1 Z Z .vec), (.old Z Z Z), (.old Z Z Z), (.old Z Z Z), (.old Z Z Z), (.old Z Z Z), (.old Z Z Z), (.new 2 Z Z (.one Z)), (.new 3 Z Z (.one Z)), Y⟩)) (.nil (b6 (.aa ?_))))))
   obtain ⟨xr61, hr61, h⟩ := bind_some h
   refine AWP.rangeB [(4, none), (5, none)] Z Z Z (fun as61 bo61 hA61 hB61 => ⟨[.one (.cells 3 [(wW start goal 1 l.length)]), .one (vec 4 d7 l), .one (vec 1 eU32 (o4 c56 0 ((c56.length : Int) - 1))), .one (.cells 1 [[.own 2 0 ((o4 c56 0 ((c56.length : Int) - 1)).length)]]), .one (mapB vU noV c57), .one (.cells 1 [[.map 4]]), .one (vec 1 eU32 a36), .one (vec 1 eU32 [a26]), .one (.cells 1 [[.ptr 0 0 0]]), .one (.cells 1 [[.imm (.val (.int .u32 a26))]]), .one (o5 63 [40] as61 bo61 .ready none [(4, none), (5, none)] [.ptr 3 0 0, .ptr 5 0 0])], fun tt ss => tt = .tup [] ∧ ss = [.one (.cells 3 [(wW start goal 1 l.length)]), .one (vec 4 d7 l), .dead, .one (.cells 1 [[.own 11 0 xr61.2.length]]), .one (mapB vU noV xr61.1), .one (.cells 1 [[.map 4]]), .one (vec 1 eU32 a36), .one (vec 1 eU32 [a26]), .one (.cells 1 [[.ptr 0 0 0]]), .one (.cells 1 [[.imm (.val (.int .u32 a26))]]), .one (o5 63 [40] as61 bo61 .ready none [(4, none), (5, none)] [.ptr 3 0 0, .ptr 5 0 0]), .one (vec 1 eU32 xr61.2)], Z, ?_, ?_⟩)
   ·refine FnOk.enter (rs := []) func77 Z ntmps77 results77 Z trivial (by kernel_rfl) Z ?_
    refine AWP.weak ?_
    unfold E8 at hr61
    try dsimp only at hr61
    refine AWP.j (env' := [(0, .c (.yld 10)), (1, .c (.ptr 8 0 0)), (2, .c (.ptr 9 0 0))]) (σ' := [.one (.cells 3 [(wW start goal 1 l.length)]), .one (vec 4 d7 l), .dead, .one (.cells 1 [[.own 11 0 ((o4 c56 0 ((c56.length : Int) - 1)).length)]]), .one (mapB vU noV c57), .one (.cells 1 [[.map 4]]), .one (vec 1 eU32 a36), .one (vec 1 eU32 [a26]), .one (.cells 1 [[.ptr 0 0 0]]), .one (.cells 1 [[.imm (.val (.int .u32 a26))]]), .one (o5 63 [40] as61 bo61 .ready none [(4, none), (5, none)] [.ptr 3 0 0, .ptr 5 0 0]), .one (vec 1 eU32 (o4 c56 0 ((c56.length : Int) - 1)))]) 11 2 Z Z Z ⟨Z, Z, Z, Y⟩ Z ⟨⟨Z, Z⟩, ⟨Blk.im_ok _ _ _, f7 Z⟩, trivial, ⟨Z, Z⟩, ⟨Z, Z⟩, ⟨Z, Z⟩, ⟨Blk.im_ok _ _ _, f7 Z⟩, ⟨Blk.im_ok _ _ _, f7 Z⟩, ⟨Z, Z⟩, ⟨Z, Z⟩, ⟨Z, Z⟩, ⟨Blk.im_ok _ _ _, f7 Z⟩, Y⟩ (.q (.u (.E Z Z Z Z Z Z (.aj Z Z Z (W.fieldAddr Z Z Z Z (.E Z Z Z Z Z Z (S.lenO Z Z Z (fun hl10 => .j Z Z (.nil (b6 (.aa ?_)))))))))))
    obtain ⟨⟨c64, c65⟩, ho2, hr61⟩ := bind_some hr61
    try dsimp only at hr61
    refine AWP.forS ho2 (fun t66 (c64, c65) => ⟨[(0, .c (.yld 10)), (2, .c (.ptr 9 0 0)), (9, .c (.own 1 0 l.length)), (10, .c (int (l.length : Int))), (11, .c (int t66))], [.one (.cells 3 [(wW start goal 1 l.length)]), .one (vec 4 d7 l), .dead, .one (.cells 1 [[.own 11 0 c65.length]]), .one (mapB vU noV c64), .one (.cells 1 [[.map 4]]), .one (vec 1 eU32 a36), .one (vec 1 eU32 [a26]), .one (.cells 1 [[.ptr 0 0 0]]), .one (.cells 1 [[.imm (.val (.int .u32 a26))]]), .one (o5 63 [40] as61 bo61 .ready none [(4, none), (5, none)] [.ptr 3 0 0, .ptr 5 0 0]), .one (vec 1 eU32 c65)]⟩) (fun (c64, c65) e st => e = .exit 0 ∧ Sub ([.one (.cells 3 [(wW start goal 1 l.length)]), .one (vec 4 d7 l), .one (vec 1 eU32 (o4 c56 0 ((c56.length : Int) - 1))), .one (.cells 1 [[.own 2 0 ((o4 c56 0 ((c56.length : Int) - 1)).length)]]), .one (mapB vU noV c57), .one (.cells 1 [[.map 4]]), .one (vec 1 eU32 a36), .one (vec 1 eU32 [a26]), .one (.cells 1 [[.ptr 0 0 0]]), .one (.cells 1 [[.imm (.val (.int .u32 a26))]]), .one (o5 63 [40] as61 bo61 .ready none [(4, none), (5, none)] [.ptr 3 0 0, .ptr 5 0 0])] : b8) st ⟨[], [.one (.cells 3 [(wW start goal 1 l.length)]), .one (vec 4 d7 l), .dead, .one (.cells 1 [[.own 11 0 c65.length]]), .one (mapB vU noV c64), .one (.cells 1 [[.map 4]]), .one (vec 1 eU32 a36), .one (vec 1 eU32 [a26]), .one (.cells 1 [[.ptr 0 0 0]]), .one (.cells 1 [[.imm (.val (.int .u32 a26))]]), .one (o5 63 [40] as61 bo61 .ready none [(4, none), (5, none)] [.ptr 3 0 0, .ptr 5 0 0]), .one (vec 1 eU32 c65)]⟩) ?_ ?_ ?_ ?_
    ·try dsimp only
     exact Sub.env ⟨Z, Z, Z, Z, Z, Y⟩
    ·intro t66 s hlot66 hltt66 _
     obtain ⟨c64, c65⟩ := s
     try dsimp only
     refine AWP.q (.u (.J Z Z Z (.nil (b6 (.q (.ag Z hltt66 (.exit (e7 (e7 ⟨Z, ?_⟩)))))))))
     exact Sub.env trivial
    ·intro t66 s o hlot66 hltt66 h
     obtain ⟨c64, c65⟩ := s
     unfold E5 at h
     try dsimp only at h ⊢
     refine AWP.q (.u (.J Z Z Z (.nil (b6 (.q (.ah Z hltt66 (.skip (b6 (.q (.aa (.q ?_)))))))))))
     obtain ⟨ai14, hai14, h⟩ := bind_some h
     refine AWP.u (.j Z Z (S.idxO hai14 Z Z Z Z Z (S.loadOAgg hai14 Z Z Z Z Z Z Z (W.alloc Z Z Z Z (.v Z Z (W.storeAgg Z Z Z Z Z Z Z (.nil (b6 (.q ?_)))))))))
     rcases bft (decide (Go.bits .and .u32 a26 ai14.pre = ai14.pre)) with hb67 | hb67
     ·replace h := L8 hb67 h
      refine AWP.u (.E Z Z Z Z Z Z (W.fieldAddr Z Z Z Z (.E Z Z Z Z Z Z (.bits Z Z Z (by simp) (W.fieldAddr Z Z Z Z (.E Z Z Z Z Z Z (.ab Z Z Z (.j Z Z (.z Z Z Z hb67 (.j Z Z (.z Z Z Z hb67 (.j Z Z (.z Z Z Z hb67 (W.fieldAddr Z Z Z Z (.z Z Z Z hb67 (.E Z Z Z Z Z Z (.z Z Z Z hb67 (.E Z Z Z Z Z Z (.z Z Z Z hb67 (W.fieldAddr Z Z Z Z (.z Z Z Z hb67 (.E Z Z Z Z Z Z (.z Z Z Z hb67 (.bits Z Z Z (by simp) (.z Z Z Z hb67 (W.fieldAddr Z Z Z Z (.z Z Z Z hb67 (.E Z Z Z Z Z Z (.z Z Z Z hb67 (.bits Z Z Z (by simp) (.z Z Z Z hb67 (W.build Z Z Z Z ?_))))))))))))))))))))))))))))))))
      refine AOps.z Z Z Z hb67 ?_; refine AOps.yieldB (E1 := [(8, .c (.ptr 13 0 0)), (40, .agg [int t66, int ai14.cost, .imm (.val (.int .u32 (Go.bits .or .u32 (Go.bits .andNot .u32 a26 ai14.del) ai14.add)))]), (4, .c (.ptr 3 0 0)), (5, .c (.ptr 5 0 0))]) (σ1 := [.one (.cells 3 [(wW start goal 1 l.length)]), .one (vec 4 d7 l), .dead, .one (.cells 1 [[.own 11 0 c65.length]]), .one (mapB vU noV c64), .one (.cells 1 [[.map 4]]), .one (vec 1 eU32 a36), .one (vec 1 eU32 [a26]), .one (.cells 1 [[.ptr 0 0 0]]), .one (.cells 1 [[.imm (.val (.int .u32 a26))]]), .one (o5 63 [40] as61 bo61 .ready none [(4, none), (5, none)] [.ptr 3 0 0, .ptr 5 0 0]), .one (vec 1 eU32 c65), .one (.cells 4 [[.imm (.val (.int .u32 ai14.pre)), .imm (.val (.int .u32 ai14.add)), .imm (.val (.int .u32 ai14.del)), int ai14.cost]]), .one (.cells 3 [[int t66, int ai14.cost, .imm (.val (.int .u32 (Go.bits .or .u32 (Go.bits .andNot .u32 a26 ai14.del) ai14.add)))]])]) hA61 hB61 Z Z Z Z Z Z Z Z Z Z ?_ ?_
      ·refine AWP.u (W.alloc Z Z Z Z (W.storeAgg Z Z Z Z Z Z Z (.nil ?_)))
       exact ⟨Z, Z⟩
      refine AWP.sub (s' := ⟨[(4, .c (.ptr 3 0 0)), (5, .c (.ptr 5 0 0)), (8, .c (.ptr 13 0 0))], [.one (.cells 3 [(wW start goal 1 l.length)]), .one (vec 4 d7 l), .dead, .one (.cells 1 [[.own 11 0 c65.length]]), .one (mapB vU noV c64), .one (.cells 1 [[.map 4]]), .one (vec 1 eU32 a36), .one (vec 1 eU32 [a26]), .one (.cells 1 [[.ptr 0 0 0]]), .one (.cells 1 [[.imm (.val (.int .u32 a26))]]), .one (o5 63 [40] as61 bo61 .busy none [(4, none), (5, none)] [.ptr 3 0 0, .ptr 5 0 0]), .one (vec 1 eU32 c65), .one (.cells 4 [[.imm (.val (.int .u32 ai14.pre)), .imm (.val (.int .u32 ai14.add)), .imm (.val (.int .u32 ai14.del)), int ai14.cost]]), .one (.cells 3 [[int t66, int ai14.cost, .imm (.val (.int .u32 (Go.bits .or .u32 (Go.bits .andNot .u32 a26 ai14.del) ai14.add)))]])]⟩) (Sub.env ⟨Z, Z, Z, Y⟩) (.aa (.q (.u (.E Z Z Z Z Z Z (W.fieldAddr Z Z Z Z (.E Z Z Z Z Z Z (W.lookupOkU (fk := vU) (k := Go.bits .or .u32 (Go.bits .andNot .u32 a26 ai14.del) ai14.add) C2 Z Z Z Z Z (.j Z Z (.ac Z Z Z (.ac Z Z Z (W.alloc Z Z Z Z (S.store0 Z Z Z (.v Z Z (.nil (b6 (.q (.u (.j Z Z (.ae Z Z (.nil (b6 (.ad Z h (fun hc68 h => ?_) (fun hc68 h => ?_)))))))))))))))))))))))
      ·refine AWP.q (.u (.E Z Z Z Z Z Z (W.fieldAddr Z Z Z Z (.E Z Z Z Z Z Z (S.build0 Z Z Z (W.mapUpdateU (fk := vU) (k := Go.bits .or .u32 (Go.bits .andNot .u32 a26 ai14.del) ai14.add) C2 Z Z Z Z Z (.nil (b6 ?_))))))))
       obtain ⟨ab58, hab58, h⟩ := bind_some h
       refine AWP.u (.E Z Z Z Z Z Z (W.fieldAddr Z Z Z Z (.E Z Z Z Z Z Z (S.lit (f := eU32) (l := [Go.bits .or .u32 (Go.bits .andNot .u32 a26 ai14.del) ai14.add]) (ess := [[.imm (.val (.int .u32 (Go.bits .or .u32 (Go.bits .andNot .u32 a26 ai14.del) ai14.add)))]]) Z Z Z Z Z Z Z ⟨⟨.inl Z, Y⟩, Y⟩ Z Z Z (S.append (f := eU32) hab58 Z Z Z Z Z Z (.own Z Z) Z Z Z Z (W.store Z Z Z Z Z (.nil (e9 (ae0 Z Z (.z Z Z Z hb67 (.ae Z Z (.U Z hb67 Z Z (.nil (b6 (.j (env' := [(0, .c (.yld 10)), (2, .c (.ptr 9 0 0)), (9, .c (.own 1 0 l.length)), (10, .c (int (l.length : Int))), (11, .c (int t66)), (38, .c (bool false))]) (σ' := [.one (.cells 3 [(wW start goal 1 l.length)]), .one (vec 4 d7 l), .dead, .one (.cells 1 [[.own 11 0 ab58.length]]), .one (mapB vU noV (mset c64 (Go.bits .or .u32 (Go.bits .andNot .u32 a26 ai14.del) ai14.add) ())), .one (.cells 1 [[.map 4]]), .one (vec 1 eU32 a36), .one (vec 1 eU32 [a26]), .one (.cells 1 [[.ptr 0 0 0]]), .one (.cells 1 [[.imm (.val (.int .u32 a26))]]), .one (o5 63 [40] as61 bo61 .ready none [(4, none), (5, none)] [.ptr 3 0 0, .ptr 5 0 0]), .one (vec 1 eU32 ab58), .one (.cells 4 [[.imm (.val (.int .u32 ai14.pre)), .imm (.val (.int .u32 ai14.add)), .imm (.val (.int .u32 ai14.del)), int ai14.cost]]), .one (.cells 3 [[int t66, int ai14.cost, .imm (.val (.int .u32 (Go.bits .or .u32 (Go.bits .andNot .u32 a26 ai14.del) ai14.add)))]]), .one (.cells 0 [[]]), .one (vec 1 eU32 [Go.bits .or .u32 (Go.bits .andNot .u32 a26 ai14.del) ai14.add])]) 11 16 Z Z Z ⟨Z, Z, Z, Z, Z, Z, Y⟩ Z ⟨⟨Z, Z⟩, ⟨Blk.im_ok _ _ _, f7 Z⟩, trivial, ⟨Z, Z⟩, ⟨Z, Z⟩, ⟨Z, Z⟩, ⟨Blk.im_ok _ _ _, f7 Z⟩, ⟨Blk.im_ok _ _ _, f7 Z⟩, ⟨Z, Z⟩, ⟨Z, Z⟩, ⟨Z, Z⟩, ⟨Blk.im_ok _ _ _, f7 Z⟩, ⟨Z, Z⟩, ⟨Z, Z⟩, ⟨Z, Z⟩, ⟨Blk.im_ok _ _ _, f7 Z⟩, Y⟩ (.condF Z (.skip (e9 (b6 (.u (.add Z Z Z (by omega) (.j Z Z (.nil ?_)))))))))))))))))))))))
       obtain rfl := oi h
       refine b6 (Sub.cut ⟨Z, Z, Z, Z, Z, Y⟩ Z ⟨.one Z, .vec, .dead, .one Z, .one Z, .one Z, .vec, .vec, .one Z, .one Z, .one Z, .vec, Y⟩ Z)
      ·refine AWP.skip (e9 (ae0 Z Z (.z Z Z Z hb67 (.ae Z Z (.U Z hb67 Z Z (.nil (b6 (.condF Z (.skip (e9 (b6 (.u (.add Z Z Z (by omega) (.j Z Z (.nil ?_)))))))))))))))
       obtain rfl := oi h
       refine b6 (Sub.cut ⟨Z, Z, Z, Z, Z, Y⟩ Z ⟨.one Z, .vec, .dead, .one Z, .one Z, .one Z, .vec, .vec, .one Z, .one Z, .one Z, .vec, Y⟩ Z)
     ·replace h := L5 hb67 h
      refine AWP.u (.E Z Z Z Z Z Z (W.fieldAddr Z Z Z Z (.E Z Z Z Z Z Z (.bits Z Z Z (by simp) (W.fieldAddr Z Z Z Z (.E Z Z Z Z Z Z (.ab Z Z Z (.j Z Z (.B Z Z Z hb67 (.B Z Z Z hb67 (.B Z Z Z hb67 (.B Z Z Z hb67 (.B Z Z Z hb67 (.B Z Z Z hb67 (.B Z Z Z hb67 (.B Z Z Z hb67 (.B Z Z Z hb67 (.B Z Z Z hb67 (.B Z Z Z hb67 (.B Z Z Z hb67 (.B Z Z Z hb67 (.B Z Z Z hb67 (.O Z hb67 Z Z (.nil (b6 (.condF Z (.skip (e9 (b6 (.u (.add Z Z Z (by omega) (.j Z Z (.nil ?_)))))))))))))))))))))))))))))))))
      obtain rfl := oi h
      refine b6 (Sub.cut ⟨Z, Z, Z, Z, Z, Y⟩ Z ⟨.one Z, .vec, .dead, .one Z, .one Z, .one Z, .vec, .vec, .one Z, .one Z, .one Z, .vec, Y⟩ Z)
    ·intro e s hq
     obtain ⟨rfl, hs⟩ := hq
     refine ⟨_, hs, ?_⟩
     refine j7 ?_
     obtain rfl := oi hr61
     exact ⟨⟨[], [.one (.cells 3 [(wW start goal 1 l.length)]), .one (vec 4 d7 l), .dead, .one (.cells 1 [[.own 11 0 c65.length]]), .one (mapB vU noV c64), .one (.cells 1 [[.map 4]]), .one (vec 1 eU32 a36), .one (vec 1 eU32 [a26]), .one (.cells 1 [[.ptr 0 0 0]]), .one (.cells 1 [[.imm (.val (.int .u32 a26))]]), .one (o5 63 [40] as61 bo61 .ready none [(4, none), (5, none)] [.ptr 3 0 0, .ptr 5 0 0]), .one (vec 1 eU32 c65)]⟩, Sub.env trivial, Done.normal Z ⟨Z, Z⟩⟩
   ·rintro tt ss ⟨rfl, rfl⟩
    obtain ⟨c62, c63⟩ := xr61
    try dsimp only at h ⊢
    refine ak8 Z Z (e9 (b6 (.q (.u (.E Z Z Z Z Z Z (S.lenMap (fk := vU) (fv := noV) Z Z Z (.gtr Z Z Z (.nil (b6 (.ite Z h (fun hc69 h => ?_) (fun hc69 h => ?_)))))))))))
    ·refine AWP.q (.u (.v Z Z (.v Z Z (.nil (b6 (.virtV 1 eU32 2 Z Z Z (.ret (k9 ?_))))))))
     obtain rfl := oi h
     refine e6 ⟨_, Z, Z, ?_⟩
     exact ⟨⟨[(2, .c (.own 12 0 ([].length))), (3, .c (bool false))], [.one (.cells 3 [(wW start goal 1 l.length)]), .one (vec 4 d7 l), .dead, .dead, .dead, .dead, .dead, .dead, .dead, .dead, .dead, .dead, .one (vec 1 eU32 [])]⟩, Sub.cut ⟨(H6 (by first | rfl | simp only [List.length_set])), Z, Y⟩ Z ⟨.one Z, .vec, .dead, .dead, .dead, .dead, .dead, .dead, .dead, .dead, .dead, .dead, .vec, Y⟩ Z, Done.ret Z ⟨Z, Z⟩⟩
    ·refine AWP.skip (e9 ?_)
     obtain rfl := oi h
     refine b6 ⟨_, Z, ?_⟩
     exact (Sub.move (env' := [(0, .c (.ifc 65 [.ptr 0 0 0] false)), (4, .c (.ptr 3 0 0)), (5, .c (.ptr 5 0 0)), (6, .c (.own 6 0 a36.length))]) (σ' := [.one (.cells 3 [(wW start goal 1 l.length)]), .one (vec 4 d7 l), .one (vec 1 eU32 c63), .one (.cells 1 [[.own 2 0 c63.length]]), .one (mapB vU noV c62), .one (.cells 1 [[.map 4]]), .one (vec 1 eU32 a36), .one (vec 1 eU32 [a26]), .one (.cells 1 [[.ptr 0 0 0]]), .one (.cells 1 [[.imm (.val (.int .u32 a26))]]), .dead]) 2 11 Z Z Z ⟨Z, Z, Z, Z, Y⟩ Z ⟨⟨Z, Z⟩, ⟨Blk.im_ok _ _ _, f7 Z⟩, ⟨Blk.im_ok _ _ _, f7 Z⟩, ⟨Z, Z⟩, ⟨Z, Z⟩, ⟨Z, Z⟩, ⟨Blk.im_ok _ _ _, f7 Z⟩, ⟨Blk.im_ok _ _ _, f7 Z⟩, ⟨Z, Z⟩, ⟨Z, Z⟩, trivial, Y⟩).trans (Sub.cut ⟨Z, Z, Z, Z, Y⟩ Z ⟨.one Z, .vec, .vec, .one Z, .one Z, .one Z, .vec, Y⟩ Z)
  ·refine AWP.exit (e7 ?_)
   obtain rfl := oi h
   refine e7 ⟨_, Z, Z, ?_⟩
   exact Sub.cut ⟨Z, Y⟩ Z ⟨.one Z, .vec, .dead, .dead, .dead, .dead, .vec, Y⟩ Z
 ·intro e s hq
  rcases oo with c59 | x
  ·try dsimp only at h hq
   obtain ⟨rfl, hs⟩ := hq
   refine ⟨_, hs, ?_⟩
   refine j7 (b6 (.q (.u (.j Z Z (.v Z Z (.v Z Z (.nil (b6 (.ret ?_)))))))))
   obtain rfl := oi h
   exact ⟨⟨[(2, .c (.own 12 0 c59.length)), (3, .c (bool true))], [.one (.cells 3 [(wW start goal 1 l.length)]), .one (vec 4 d7 l), .dead, .dead, .dead, .dead, .dead, .dead, .dead, .dead, .dead, .dead, .one (vec 1 eU32 c59)]⟩, (Sub.move (env' := [(2, .c (.own 12 0 c59.length)), (3, .c (bool true))]) (σ' := [.one (.cells 3 [(wW start goal 1 l.length)]), .one (vec 4 d7 l), .dead, .dead, .dead, .dead, .dead, .dead, .dead, .dead, .dead, .dead, .one (vec 1 eU32 c59)]) 12 6 Z Z Z ⟨Z, Z, Y⟩ Z ⟨⟨Z, Z⟩, ⟨Blk.im_ok _ _ _, f7 Z⟩, trivial, trivial, trivial, trivial, trivial, trivial, trivial, trivial, trivial, trivial, ⟨Blk.im_ok _ _ _, f7 Z⟩, Y⟩).trans (Sub.env ⟨Z, Z, Y⟩), Done.ret Z ⟨Z, Z⟩⟩
  ·try dsimp only at h hq
   obtain ⟨rfl, hs⟩ := hq
   refine ⟨_, Sub.refl _ _, ?_⟩
   refine k9 (e6 ?_)
   obtain rfl := oi h
   exact hs
theorem ab0 {t : d9} {r : (Int × Int) ⊕ (Int × Int × (List i6) × (List Int))} (h : A9 t = some r) : FnOk prog 40 [.agg (tT t)] (ak2 t) (fun tt ss => (∃ v : Int × Int, r = .inl v ∧ tt = .tup [.c (.imm (.val (.pointer none))), .c (row 1 eU32 []), .agg [int v.1, int v.2]] ∧ ss = [.dead, .one (.cells 2 [[int v.1, int v.2]])]) ∨ (∃ v : Int × Int × (List i6) × (List Int), r = .inr v ∧ tt = .tup [.c (.ptr 4 0 0), .c (row 1 eU32 v.2.2.2), .agg [int 0, int 0]] ∧ ss = [.dead, .one (.cells 2 [[int 0, int 0]]), .dead, .dead, .one (.cells 3 [[.imm (.val (.int .u32 v.1)), .imm (.val (.int .u32 v.2.1)), .own 5 0 v.2.2.1.length]]), .one (vec 4 d7 v.2.2.1)])) := by
 refine FnOk.enter (rs := [.t 2, .t 3, .cell 4 27 2]) func40 Z ntmps40 results40 Z ⟨trivial, trivial, rv _ Z, Y⟩ (by kernel_rfl) Z ?_
 refine AWP.weak ?_
 unfold A9 at h
 refine AWP.q (.u (W.box Z Z Z Z Z Z (.v Z Z (.v Z Z (W.alloc Z Z Z Z (.nil (b6 (.q (.q ?_)))))))))
 obtain ⟨a10, ha10, h⟩ := bind_some h
 refine AWP.u (W.loadAgg Z Z Z Z Z Z Z (.F Z Z Z Z (I8 ha10) Z (W.alloc Z Z Z Z (W.storeAgg Z Z Z Z Z Z Z (.nil (b6 (.q (.u (W.loadAgg Z Z Z Z Z Z Z (W.build Z Z Z Z (.neqP Z Z Z Z Z Z Z (.nil (b6 (.ad Z h (fun hc58 h => ?_) (fun hc58 h => ?_)))))))))))))))
 ·refine AWP.q (.drawEI [3] mixed Z Z Z ?_)
  refine d6.consN Z Z (fun E => W.loadAgg Z Z Z Z Z Z Z .N) Z (.consN Z Z (fun E => AOps.v Z Z .N) Z (.consN Z Z (fun E => AOps.v Z Z .N) Z ?_))
  apply d6.consE (v := .undef); exact Z; exact Z; intro E
  refine W.storeAgg Z Z Z Z Z Z Z .N
  exact Z
  exact Z
  refine d6.done Z ?_ ?_
  ·refine d5.cons Z Z ?_ ?_
   refine b7.go Z Z (fun E => W.loadAgg Z Z Z Z Z Z Z .N) ?_
   refine b7.skip Z (b7.nil)
   refine d5.cons Z Z ?_ ?_
   refine b7.go Z Z (fun E => AOps.v Z Z .N) ?_
   refine b7.skip Z (b7.nil)
   refine d5.cons Z Z ?_ ?_
   refine b7.go Z Z (fun E => AOps.v Z Z .N) ?_
   refine b7.skip Z (b7.nil)
   refine d5.skip Z (d5.nil)
  dsimp only [i5]
  refine b6 (.nilrow 1 3 Z (.ret (e6 ?_)))
  obtain rfl := oi h
  exact ⟨⟨[(2, .c (.imm (.val (.pointer none)))), (3, .c (row 1 eU32 [])), (4, .c (.ptr 1 0 0))], [.dead, .one (.cells 2 [[int a10.code, int a10.index]])]⟩, Sub.cut ⟨Z, Z, Z, Y⟩ Z ⟨.dead, .one Z, Y⟩ Z, Done.ret Z (.inl ⟨_, Z, Z, Z⟩)⟩
 ·refine AWP.skip (b6 (.q ?_))
  obtain ⟨a16, ha16, h⟩ := bind_some h
  refine AWP.u (W.loadAgg Z Z Z Z Z Z Z (.callF (r2 := .c (.ptr 4 0 0)) (σ'' := [.one (.cells 4 [(tT t)]), .one (.cells 2 [[int 0, int 0]]), .one (.cells 2 [[int a10.code, int a10.index]]), .dead, .one (.cells 3 [[.imm (.val (.int .u32 a16.1)), .imm (.val (.int .u32 a16.2.1)), .own 5 0 a16.2.2.length]]), .one (vec 4 d7 a16.2.2)]) Z Z Z (FnOk.lend [] (space_Of_w_ok ha16) Z Z Z Z Z Z (by exact trivial) Z (by exact trivial) Z Z (by exact ⟨(.old Z Z Z), (.old Z Z Z), (.old Z Z Z), .dead, (.new 1 Z Z (.one Z)), (.new 2 Z Z .vec), Y⟩)) (.v Z Z (.nil (b6 (.q ?_))))))
  obtain ⟨a20, ha20, h⟩ := bind_some h
  refine AWP.u (.j Z Z (S.mkIfc Z Z Z (.callF (r2 := .tup [.c (.own 16 0 a20.1.length), .c (bool a20.2)]) (σ'' := [.one (.cells 4 [(tT t)]), .one (.cells 2 [[int 0, int 0]]), .one (.cells 2 [[int a10.code, int a10.index]]), .dead, .one (.cells 3 [[.imm (.val (.int .u32 a16.1)), .imm (.val (.int .u32 a16.2.1)), .own 5 0 a16.2.2.length]]), .one (vec 4 d7 a16.2.2), .dead, .dead, .dead, .dead, .dead, .dead, .dead, .dead, .dead, .dead, .one (vec 1 eU32 a20.1)]) Z Z Z (FnOk.lend [4, 5] (ag4 ha20) Z Z Z Z Z Z (by exact ⟨(.one Z), .vec, Y⟩) Z (by exact ⟨(.live Z (.one Z)), (.live Z .vec), Y⟩) Z Z (by exact ⟨(.old Z Z Z), (.old Z Z Z), (.old Z Z Z), .dead, (.new 0 Z Z (.one Z)), (.new 1 Z Z .vec), .dead, .dead, .dead, .dead, .dead, .dead, .dead, .dead, .dead, .dead, (.new 12 Z Z .vec), Y⟩)) (.j Z Z (.ac Z Z Z (.ac Z Z Z (.v Z Z (.v Z Z (.nil (b6 (.q (.q (.u (.j Z Z (.ae Z Z (.nil (b6 (.ad Z h (fun hc59 h => ?_) (fun hc59 h => ?_)))))))))))))))))))
  ·refine AWP.q (.u (W.build Z Z Z Z (.v Z Z (.v Z Z (W.storeAgg Z Z Z Z Z Z Z (.nil (b6 (.nilrow 1 3 Z (.ret (e6 ?_))))))))))
   obtain rfl := oi h
   exact ⟨⟨[(2, .c (.imm (.val (.pointer none)))), (3, .c (row 1 eU32 [])), (4, .c (.ptr 1 0 0))], [.dead, .one (.cells 2 [[int 10, int (-7)]])]⟩, Sub.cut ⟨Z, Z, Z, Y⟩ Z ⟨.dead, .one Z, Y⟩ Z, Done.ret Z (.inl ⟨_, Z, Z, Z⟩)⟩
  ·refine AWP.skip (b6 (.q ?_))
   obtain ⟨a27, ha27, h⟩ := bind_some h
   refine AWP.u (.j Z Z (S.sortFU ha27 (fun hy => aj3 hy) sortF_Lu32_ok (⟨_, func56, Z, Z⟩) Z Z Z Z Z Z ?_))
   refine AOps.nil (b6 (.q (.u (.j Z Z (.j Z Z (W.build Z Z Z Z (.v Z Z (.v Z Z (W.storeAgg Z Z Z Z Z Z Z (.nil (b6 (.frzV (id := 16) (l := a27) (env2 := [(2, .c (.ptr 4 0 0)), (3, .c (row 1 eU32 a27)), (4, .c (.ptr 1 0 0))]) (σ2 := [.one (.cells 4 [(tT t)]), .one (.cells 2 [[int 0, int 0]]), .one (.cells 2 [[int a10.code, int a10.index]]), .dead, .one (.cells 3 [[.imm (.val (.int .u32 a16.1)), .imm (.val (.int .u32 a16.2.1)), .own 5 0 a16.2.2.length]]), .one (vec 4 d7 a16.2.2), .dead, .dead, .dead, .dead, .dead, .dead, .dead, .dead, .dead, .dead, .dead]) Z Z (by exact ⟨⟨_, Z, .inl ⟨Z, Z⟩⟩, ⟨_, Z, .inr ⟨_, Z, (sortFU_len ha27), Z⟩⟩, ⟨_, Z, .inl ⟨Z, Z⟩⟩, Y⟩) Z (by exact ⟨⟨Z, .inl ⟨Z, Z⟩, .inl ⟨Z, Z⟩, .inl ⟨Z, Z⟩, .inl ⟨Z, Z⟩, Y⟩, ⟨Z, .inl ⟨Z, Z⟩, .inl ⟨Z, Z⟩, Y⟩, ⟨Z, .inl ⟨Z, Z⟩, .inl ⟨Z, Z⟩, Y⟩, trivial, ⟨Z, .inl ⟨Z, Z⟩, .inl ⟨Z, Z⟩, .inl ⟨Z, Z⟩, Y⟩, FrzB.vec, trivial, trivial, trivial, trivial, trivial, trivial, trivial, trivial, trivial, trivial, trivial, Y⟩) (.ret ?_)))))))))))))
   obtain rfl := oi h
   exact ⟨⟨[(2, .c (.ptr 4 0 0)), (3, .c (row 1 eU32 a27)), (4, .c (.ptr 1 0 0))], [.dead, .one (.cells 2 [[int 0, int 0]]), .dead, .dead, .one (.cells 3 [[.imm (.val (.int .u32 a16.1)), .imm (.val (.int .u32 a16.2.1)), .own 5 0 a16.2.2.length]]), .one (vec 4 d7 a16.2.2)]⟩, Sub.cut ⟨Z, Z, Z, Y⟩ Z ⟨.dead, .one Z, .dead, .dead, .one Z, .vec, Y⟩ Z, Done.ret Z (.inr ⟨_, Z, Z, Z⟩)⟩
theorem ad7 {r : Unit} (h : E4 = some r) : FnOk prog 59 [] (ad9) (fun tt ss => tt = .c (.ptr 2 0 0) ∧ ss = [.one (pmap 1 vU ([] : List (Int × Int))), pool 4 b9 ([] : List d4), .one (.cells 3 [[.own 3 0 (([] : List Int).length), .map 0, int 0]]), .one (prow 1 ([] : List Int))]) := by
 refine FnOk.enter (rs := [.t 0]) func59 Z ntmps59 results59 Z ⟨trivial, Y⟩ (by kernel_rfl) Z ?_
 refine AWP.weak ?_
 unfold E4 at h
 refine AWP.q (.u (.v Z Z (.nil (b6 (.q (.u (W.makeMapP 1 vU Z Z Z (.sub (Sub.newPool (size := 4) (f := b9) Z) (W.build Z Z Z Z (W.box Z Z Z Z Z Z (.v Z Z (.nil (b6 (.virtP 1 (b := 2) (o := 0) Z Z Z Z Z Z (.ret ?_)))))))))))))))
 obtain rfl := oi h
 exact ⟨⟨[(0, .c (.ptr 2 0 0))], [.one (pmap 1 vU ([] : List (Int × Int))), pool 4 b9 ([] : List d4), .one (.cells 3 [[.own 3 0 (([] : List Int).length), .map 0, int 0]]), .one (prow 1 ([] : List Int))]⟩, Sub.env ⟨Z, Y⟩, Done.ret Z ⟨Z, Z⟩⟩
theorem af3 {sv : Int} {start : Int} {goal : Int} {l : List i6} {r : Unit} (h : H3 sv start goal l = some r) : FnOk prog 60 [.c (.ptr 0 0 0), .c (.imm (.val (.int .u32 sv)))] (af6 sv start goal l) (fun tt ss => tt = .c (bool (decide (Go.bits .and .u32 sv goal = goal))) ∧ ss = [.one (.cells 3 [(wW start goal 1 l.length)]), .one (vec 4 d7 l)]) := by
 refine FnOk.enter (rs := [.t 4]) func60 Z ntmps60 results60 Z ⟨trivial, Y⟩ (by kernel_rfl) Z ?_
 refine AWP.weak ?_
 unfold H3 at h
 refine AWP.q (.u (.v Z Z (.nil (b6 (.q (.drawI mixed Z ?_))))))
 refine i8.consF Z (fun E => AOps.j Z Z .N) Z (.consF Z (fun E => AOps.j Z Z .N) Z (.consF Z (fun E => AOps.aj Z Z Z .N) Z (.consF Z (fun E => W.fieldAddr Z Z Z Z .N) Z (.consF Z (fun E => AOps.E Z Z Z Z Z Z .N) Z (.consF Z (fun E => AOps.bits Z Z Z (by simp) .N) Z (.consF Z (fun E => AOps.j Z Z .N) Z (.consF Z (fun E => AOps.aj Z Z Z .N) Z (.consF Z (fun E => W.fieldAddr Z Z Z Z .N) Z (.consF Z (fun E => AOps.E Z Z Z Z Z Z .N) Z (.consF Z (fun E => AOps.ab Z Z Z .N) Z (.consF Z (fun E => AOps.v Z Z .N) Z ?_)))))))))))
 refine i8.done ?_
 dsimp only [i5]
 refine b6 (.ret ?_)
 obtain rfl := oi h
 exact ⟨⟨[(4, .c (bool (decide (Go.bits .and .u32 sv goal = goal))))], [.one (.cells 3 [(wW start goal 1 l.length)]), .one (vec 4 d7 l)]⟩, Sub.env ⟨Z, Y⟩, Done.ret Z ⟨Z, Z⟩⟩
theorem B2 {l : List Int} {l2 : List d4} {r : Unit} (h : m6 l l2 = some r) : FnOk prog 139 [.c (.own 0 0 l.length)] (X6 l l2) (fun tt ss => tt = .c (int (l.length : Int)) ∧ ss = [.one (prow 1 l), pool 4 b9 l2]) := by
 refine FnOk.enter (rs := [.t 2]) func139 Z ntmps139 results139 Z ⟨trivial, Y⟩ (by kernel_rfl) Z ?_
 refine AWP.weak ?_
 unfold m6 at h
 refine AWP.q (.u (.v Z Z (.nil (b6 (.q (.u (.j Z Z (.lenOwnB Z Z Z (fun hl4 => .v Z Z (.nil (b6 (.ret ?_))))))))))))
 obtain rfl := oi h
 exact ⟨⟨[(2, .c (int (l.length : Int)))], [.one (prow 1 l), pool 4 b9 l2]⟩, Sub.env ⟨Z, Y⟩, Done.ret Z ⟨Z, Z⟩⟩
theorem u5 {iv : Int} {kv : Int} {l : List Int} {l4 : List d4} {r : Bool} (h : l0 iv kv l l4 = some r) : FnOk prog 140 [.c (.own 0 0 l.length), .c (int iv), .c (int kv)] (W2 iv kv l l4) (fun tt ss => tt = .c (bool r) ∧ ss = [.one (prow 1 l), pool 4 b9 l4]) := by
 refine FnOk.enter (rs := [.t 6]) func140 Z ntmps140 results140 Z ⟨trivial, Y⟩ (by kernel_rfl) Z ?_
 refine AWP.weak ?_
 unfold l0 at h
 refine AWP.q (.u (.v Z Z (.nil (b6 ?_))))
 obtain ⟨a9, ha9, en56, hen56, a16, ha16, h⟩ := b3 h
 obtain ⟨en57, hen57, h⟩ := bind_some h
 refine AWP.seqJ (⟨[(6, .c (bool ((decide (en56.key < en57.key)) || ((decide (en56.key = en57.key)) && (decide (en56.time < en57.time))))))], [.one (prow 1 l), pool 4 b9 l4]⟩) ?_ ?_
 ·rcases bft (decide (en56.key < en57.key)) with hb1 | hb1
  ·refine AWP.drawI mixed Z ?_
   refine i8.consF Z (fun E => AOps.j Z Z .N) Z (.consF Z (fun E => AOps.j Z Z .N) Z (.consF Z (fun E => S.idxPb Z Z Z (by simpa only [List.length_set] using m4 ha9) Z Z .N) Z (.consF Z (fun E => S.loadP ha9 Z Z Z Z .N) Z (.consF Z (fun E => S.nilCheckE Z Z (by simpa only [List.length_set] using f8 hen56) Z .N) Z (.consF Z (fun E => S.fieldE Z Z Z (by simpa only [List.length_set] using f8 hen56) Z .N) Z (.consF Z (fun E => AOps.E Z Z (m5 Z hen56) Z Z Z .N) Z (.consF Z (fun E => AOps.j Z Z .N) Z (.consF Z (fun E => AOps.j Z Z .N) Z (.consF Z (fun E => S.idxPb Z Z Z (by simpa only [List.length_set] using m4 ha16) Z Z .N) Z (.consF Z (fun E => S.loadP ha16 Z Z Z Z .N) Z (.consF Z (fun E => S.nilCheckE Z Z (by simpa only [List.length_set] using f8 hen57) Z .N) Z (.consF Z (fun E => S.fieldE Z Z Z (by simpa only [List.length_set] using f8 hen57) Z .N) Z (.consF Z (fun E => AOps.E Z Z (m5 Z hen57) Z Z Z .N) Z (.consF Z (fun E => AOps.J Z Z Z .N) Z (.consF Z (fun E => AOps.j Z Z .N) Z (.consF Z (fun E => AOps.B Z Z Z hb1 .N) Z (.consF Z (fun E => AOps.B Z Z Z hb1 .N) Z (.consF Z (fun E => AOps.B Z Z Z hb1 .N) Z (.consF Z (fun E => AOps.B Z Z Z hb1 .N) Z (.consF Z (fun E => AOps.B Z Z Z hb1 .N) Z (.consF Z (fun E => AOps.B Z Z Z hb1 .N) Z (.consF Z (fun E => AOps.B Z Z Z hb1 .N) Z (.consF Z (fun E => AOps.B Z Z Z hb1 .N) Z (.consF Z (fun E => AOps.B Z Z Z hb1 .N) Z (.consF Z (fun E => AOps.B Z Z Z hb1 .N) Z (.consF Z (fun E => AOps.B Z Z Z hb1 .N) Z (.consF Z (fun E => AOps.B Z Z Z hb1 .N) Z (.consF Z (fun E => AOps.B Z Z Z hb1 .N) Z (.consF Z (fun E => AOps.B Z Z Z hb1 .N) Z (.consF Z (fun E => AOps.B Z Z Z hb1 .N) Z (.consF Z (fun E => AOps.B Z Z Z hb1 .N) Z (.consF Z (fun E => AOps.af Z Z Z .N) Z (.consF Z (fun E => AOps.af Z Z Z .N) Z (.consF Z (fun E => AOps.af Z Z Z .N) Z (.consF Z (fun E => AOps.af Z Z Z .N) Z (.consF Z (fun E => AOps.af Z Z Z .N) Z (.consF Z (fun E => AOps.af Z Z Z .N) Z (.consF Z (fun E => AOps.af Z Z Z .N) Z (.consF Z (fun E => AOps.af Z Z Z .N) Z (.consF Z (fun E => AOps.af Z Z Z .N) Z (.consF Z (fun E => AOps.af Z Z Z .N) Z (.consF Z (fun E => AOps.af Z Z Z .N) Z (.consF Z (fun E => AOps.af Z Z Z .N) Z (.consF Z (fun E => AOps.af Z Z Z .N) Z (.consF Z (fun E => AOps.af Z Z Z .N) Z (.consF Z (fun E => AOps.af Z Z Z .N) Z (.consF Z (fun E => AOps.B Z Z Z hb1 .N) Z (.consF Z (fun E => AOps.U Z hb1 Z Z .N) Z (.consF Z (fun E => AOps.v Z Z .N) Z ?_)))))))))))))))))))))))))))))))))))))))))))))))))
   refine i8.done ?_
   dsimp only [i5]
   refine b6 ?_
   simp only [s5 hb1, or_t hb1, Bool.false_or, Bool.true_or, Bool.false_and, Bool.true_and]
   exact Sub.env ⟨Z, Y⟩
  ·rcases bft (decide (en56.key = en57.key)) with hb2 | hb2
   ·refine AWP.drawI mixed Z ?_
    refine i8.consF Z (fun E => AOps.j Z Z .N) Z (.consF Z (fun E => AOps.j Z Z .N) Z (.consF Z (fun E => S.idxPb Z Z Z (by simpa only [List.length_set] using m4 ha9) Z Z .N) Z (.consF Z (fun E => S.loadP ha9 Z Z Z Z .N) Z (.consF Z (fun E => S.nilCheckE Z Z (by simpa only [List.length_set] using f8 hen56) Z .N) Z (.consF Z (fun E => S.fieldE Z Z Z (by simpa only [List.length_set] using f8 hen56) Z .N) Z (.consF Z (fun E => AOps.E Z Z (m5 Z hen56) Z Z Z .N) Z (.consF Z (fun E => AOps.j Z Z .N) Z (.consF Z (fun E => AOps.j Z Z .N) Z (.consF Z (fun E => S.idxPb Z Z Z (by simpa only [List.length_set] using m4 ha16) Z Z .N) Z (.consF Z (fun E => S.loadP ha16 Z Z Z Z .N) Z (.consF Z (fun E => S.nilCheckE Z Z (by simpa only [List.length_set] using f8 hen57) Z .N) Z (.consF Z (fun E => S.fieldE Z Z Z (by simpa only [List.length_set] using f8 hen57) Z .N) Z (.consF Z (fun E => AOps.E Z Z (m5 Z hen57) Z Z Z .N) Z (.consF Z (fun E => AOps.J Z Z Z .N) Z (.consF Z (fun E => AOps.j Z Z .N) Z (.consF Z (fun E => AOps.z Z Z Z hb1 (.j Z Z .N)) Z (.consF Z (fun E => AOps.z Z Z Z hb1 (.j Z Z .N)) Z (.consF Z (fun E => AOps.z Z Z Z hb1 (S.idxPb Z Z Z (by simpa only [List.length_set] using m4 ha9) Z Z .N)) Z (.consF Z (fun E => AOps.z Z Z Z hb1 (S.loadP ha9 Z Z Z Z .N)) Z (.consF Z (fun E => AOps.z Z Z Z hb1 (S.nilCheckE Z Z (by simpa only [List.length_set] using f8 hen56) Z .N)) Z (.consF Z (fun E => AOps.z Z Z Z hb1 (S.fieldE Z Z Z (by simpa only [List.length_set] using f8 hen56) Z .N)) Z (.consF Z (fun E => AOps.z Z Z Z hb1 (.E Z Z (m5 Z hen56) Z Z Z .N)) Z (.consF Z (fun E => AOps.z Z Z Z hb1 (.j Z Z .N)) Z (.consF Z (fun E => AOps.z Z Z Z hb1 (.j Z Z .N)) Z (.consF Z (fun E => AOps.z Z Z Z hb1 (S.idxPb Z Z Z (by simpa only [List.length_set] using m4 ha16) Z Z .N)) Z (.consF Z (fun E => AOps.z Z Z Z hb1 (S.loadP ha16 Z Z Z Z .N)) Z (.consF Z (fun E => AOps.z Z Z Z hb1 (S.nilCheckE Z Z (by simpa only [List.length_set] using f8 hen57) Z .N)) Z (.consF Z (fun E => AOps.z Z Z Z hb1 (S.fieldE Z Z Z (by simpa only [List.length_set] using f8 hen57) Z .N)) Z (.consF Z (fun E => AOps.z Z Z Z hb1 (.E Z Z (m5 Z hen57) Z Z Z .N)) Z (.consF Z (fun E => AOps.z Z Z Z hb1 (.ab Z Z Z .N)) Z (.consF Z (fun E => AOps.z Z Z Z hb1 (.j Z Z .N)) Z (.consF Z (fun E => AOps.z Z Z Z hb2 (.j Z Z .N)) Z (.consF Z (fun E => AOps.z Z Z Z hb2 (.j Z Z .N)) Z (.consF Z (fun E => AOps.z Z Z Z hb2 (S.idxPb Z Z Z (by simpa only [List.length_set] using m4 ha9) Z Z .N)) Z (.consF Z (fun E => AOps.z Z Z Z hb2 (S.loadP ha9 Z Z Z Z .N)) Z (.consF Z (fun E => AOps.z Z Z Z hb2 (S.nilCheckE Z Z (by simpa only [List.length_set] using f8 hen56) Z .N)) Z (.consF Z (fun E => AOps.z Z Z Z hb2 (S.fieldE Z Z Z (by simpa only [List.length_set] using f8 hen56) Z .N)) Z (.consF Z (fun E => AOps.z Z Z Z hb2 (.E Z Z (m5 Z hen56) Z Z Z .N)) Z (.consF Z (fun E => AOps.z Z Z Z hb2 (.j Z Z .N)) Z (.consF Z (fun E => AOps.z Z Z Z hb2 (.j Z Z .N)) Z (.consF Z (fun E => AOps.z Z Z Z hb2 (S.idxPb Z Z Z (by simpa only [List.length_set] using m4 ha16) Z Z .N)) Z (.consF Z (fun E => AOps.z Z Z Z hb2 (S.loadP ha16 Z Z Z Z .N)) Z (.consF Z (fun E => AOps.z Z Z Z hb2 (S.nilCheckE Z Z (by simpa only [List.length_set] using f8 hen57) Z .N)) Z (.consF Z (fun E => AOps.z Z Z Z hb2 (S.fieldE Z Z Z (by simpa only [List.length_set] using f8 hen57) Z .N)) Z (.consF Z (fun E => AOps.z Z Z Z hb2 (.E Z Z (m5 Z hen57) Z Z Z .N)) Z (.consF Z (fun E => AOps.z Z Z Z hb2 (.J Z Z Z .N)) Z (.consF Z (fun E => AOps.z Z Z Z hb1 (.U Z hb2 Z Z .N)) Z (.consF Z (fun E => AOps.O Z hb1 Z Z .N) Z (.consF Z (fun E => AOps.v Z Z .N) Z ?_)))))))))))))))))))))))))))))))))))))))))))))))))
    refine i8.done ?_
    dsimp only [i5]
    refine b6 ?_
    simp only [E3 hb1, or_f hb1, s5 hb2, or_t hb2, Bool.false_or, Bool.true_or, Bool.false_and, Bool.true_and]
    exact Sub.env ⟨Z, Y⟩
   ·refine AWP.drawI mixed Z ?_
    refine i8.consF Z (fun E => AOps.j Z Z .N) Z (.consF Z (fun E => AOps.j Z Z .N) Z (.consF Z (fun E => S.idxPb Z Z Z (by simpa only [List.length_set] using m4 ha9) Z Z .N) Z (.consF Z (fun E => S.loadP ha9 Z Z Z Z .N) Z (.consF Z (fun E => S.nilCheckE Z Z (by simpa only [List.length_set] using f8 hen56) Z .N) Z (.consF Z (fun E => S.fieldE Z Z Z (by simpa only [List.length_set] using f8 hen56) Z .N) Z (.consF Z (fun E => AOps.E Z Z (m5 Z hen56) Z Z Z .N) Z (.consF Z (fun E => AOps.j Z Z .N) Z (.consF Z (fun E => AOps.j Z Z .N) Z (.consF Z (fun E => S.idxPb Z Z Z (by simpa only [List.length_set] using m4 ha16) Z Z .N) Z (.consF Z (fun E => S.loadP ha16 Z Z Z Z .N) Z (.consF Z (fun E => S.nilCheckE Z Z (by simpa only [List.length_set] using f8 hen57) Z .N) Z (.consF Z (fun E => S.fieldE Z Z Z (by simpa only [List.length_set] using f8 hen57) Z .N) Z (.consF Z (fun E => AOps.E Z Z (m5 Z hen57) Z Z Z .N) Z (.consF Z (fun E => AOps.J Z Z Z .N) Z (.consF Z (fun E => AOps.j Z Z .N) Z (.consF Z (fun E => AOps.z Z Z Z hb1 (.j Z Z .N)) Z (.consF Z (fun E => AOps.z Z Z Z hb1 (.j Z Z .N)) Z (.consF Z (fun E => AOps.z Z Z Z hb1 (S.idxPb Z Z Z (by simpa only [List.length_set] using m4 ha9) Z Z .N)) Z (.consF Z (fun E => AOps.z Z Z Z hb1 (S.loadP ha9 Z Z Z Z .N)) Z (.consF Z (fun E => AOps.z Z Z Z hb1 (S.nilCheckE Z Z (by simpa only [List.length_set] using f8 hen56) Z .N)) Z (.consF Z (fun E => AOps.z Z Z Z hb1 (S.fieldE Z Z Z (by simpa only [List.length_set] using f8 hen56) Z .N)) Z (.consF Z (fun E => AOps.z Z Z Z hb1 (.E Z Z (m5 Z hen56) Z Z Z .N)) Z (.consF Z (fun E => AOps.z Z Z Z hb1 (.j Z Z .N)) Z (.consF Z (fun E => AOps.z Z Z Z hb1 (.j Z Z .N)) Z (.consF Z (fun E => AOps.z Z Z Z hb1 (S.idxPb Z Z Z (by simpa only [List.length_set] using m4 ha16) Z Z .N)) Z (.consF Z (fun E => AOps.z Z Z Z hb1 (S.loadP ha16 Z Z Z Z .N)) Z (.consF Z (fun E => AOps.z Z Z Z hb1 (S.nilCheckE Z Z (by simpa only [List.length_set] using f8 hen57) Z .N)) Z (.consF Z (fun E => AOps.z Z Z Z hb1 (S.fieldE Z Z Z (by simpa only [List.length_set] using f8 hen57) Z .N)) Z (.consF Z (fun E => AOps.z Z Z Z hb1 (.E Z Z (m5 Z hen57) Z Z Z .N)) Z (.consF Z (fun E => AOps.z Z Z Z hb1 (.ab Z Z Z .N)) Z (.consF Z (fun E => AOps.z Z Z Z hb1 (.j Z Z .N)) Z (.consF Z (fun E => AOps.B Z Z Z hb2 .N) Z (.consF Z (fun E => AOps.B Z Z Z hb2 .N) Z (.consF Z (fun E => AOps.B Z Z Z hb2 .N) Z (.consF Z (fun E => AOps.B Z Z Z hb2 .N) Z (.consF Z (fun E => AOps.B Z Z Z hb2 .N) Z (.consF Z (fun E => AOps.B Z Z Z hb2 .N) Z (.consF Z (fun E => AOps.B Z Z Z hb2 .N) Z (.consF Z (fun E => AOps.B Z Z Z hb2 .N) Z (.consF Z (fun E => AOps.B Z Z Z hb2 .N) Z (.consF Z (fun E => AOps.B Z Z Z hb2 .N) Z (.consF Z (fun E => AOps.B Z Z Z hb2 .N) Z (.consF Z (fun E => AOps.B Z Z Z hb2 .N) Z (.consF Z (fun E => AOps.B Z Z Z hb2 .N) Z (.consF Z (fun E => AOps.B Z Z Z hb2 .N) Z (.consF Z (fun E => AOps.B Z Z Z hb2 .N) Z (.consF Z (fun E => AOps.z Z Z Z hb1 (.O Z hb2 Z Z .N)) Z (.consF Z (fun E => AOps.O Z hb1 Z Z .N) Z (.consF Z (fun E => AOps.v Z Z .N) Z ?_)))))))))))))))))))))))))))))))))))))))))))))))))
    refine i8.done ?_
    dsimp only [i5]
    refine b6 ?_
    simp only [E3 hb1, or_f hb1, E3 hb2, or_f hb2, Bool.false_or, Bool.true_or, Bool.false_and, Bool.true_and]
    exact Sub.env ⟨Z, Y⟩
 ·refine AWP.ret ?_
  obtain rfl := oi h
  exact ⟨⟨[(6, .c (bool ((decide (en56.key < en57.key)) || ((decide (en56.key = en57.key)) && (decide (en56.time < en57.time))))))], [.one (prow 1 l), pool 4 b9 l4]⟩, Sub.env ⟨Z, Y⟩, Done.ret Z ⟨Z, Z⟩⟩
theorem H5 {iv : Int} {kv : Int} {l : List Int} {l4 : List d4} {r : (List Int) × (List d4)} (h : l7 iv kv l l4 = some r) : FnOk prog 141 [.c (.own 0 0 l.length), .c (int iv), .c (int kv)] (V9 iv kv l l4) (fun tt ss => tt = .tup [] ∧ ss = [.one (prow 1 r.1), pool 4 b9 r.2]) := by
 refine FnOk.enter (rs := []) func141 Z ntmps141 results141 Z trivial (by kernel_rfl) Z ?_
 refine AWP.weak ?_
 unfold l7 at h
 refine AWP.q ?_
 obtain ⟨a12, ha12, a16, ha16, h⟩ := b2 h
 refine AWP.drawEI [13, 15] mixed Z Z Z ?_
 refine d6.consN Z Z (fun E => AOps.j Z Z .N) Z (.consN Z Z (fun E => AOps.j Z Z .N) Z (.consN Z Z (fun E => AOps.j Z Z .N) Z (.consN Z Z (fun E => AOps.j Z Z .N) Z (.consN Z Z (fun E => AOps.j Z Z .N) Z (.consN Z Z (fun E => AOps.j Z Z .N) Z (.consN Z Z (fun E => S.idxPb Z Z Z (by simpa only [List.length_set] using m4 ha12) Z Z .N) Z (.consN Z Z (fun E => S.loadP ha12 Z Z Z Z .N) Z (.consN Z Z (fun E => AOps.j Z Z .N) Z (.consN Z Z (fun E => AOps.j Z Z .N) Z (.consN Z Z (fun E => S.idxPb Z Z Z (by simpa only [List.length_set] using m4 ha16) Z Z .N) Z (.consN Z Z (fun E => S.loadP ha16 Z Z Z Z .N) Z (.consN Z Z (fun E => S.idxPb Z Z Z (by simpa only [List.length_set] using m4 ha16) Z Z .N) Z ?_))))))))))))
 apply d6.consE (v := .undef); exact Z; exact Z; intro E
 refine S.storeP (a := a12) (by simpa only [List.length_set] using f8 ha16) Z Z Z Z .N
 exact Z
 exact Z
 refine d6.consN Z Z (fun E => S.idxPb Z Z (by simp only [List.length_set]) (by simpa only [List.length_set] using m4 ha12) Z Z .N) Z ?_
 apply d6.consE (v := .undef); exact Z; exact Z; intro E
 refine S.storeP (a := a16) (by simpa only [List.length_set] using f8 ha12) Z Z Z Z .N
 exact Z
 exact Z
 refine d6.done Z ?_ ?_
 ·refine d5.cons Z Z ?_ ?_
  refine b7.go Z Z (fun E => AOps.j Z Z .N) ?_
  refine b7.skip Z (b7.skip Z (b7.nil))
  refine d5.cons Z Z ?_ ?_
  refine b7.go Z Z (fun E => AOps.j Z Z .N) ?_
  refine b7.skip Z (b7.skip Z (b7.nil))
  refine d5.cons Z Z ?_ ?_
  refine b7.go Z Z (fun E => AOps.j Z Z .N) ?_
  refine b7.go Z Z (fun E => AOps.j Z Z .N) ?_
  refine b7.skip Z (b7.nil)
  refine d5.cons Z Z ?_ ?_
  refine b7.go Z Z (fun E => AOps.j Z Z .N) ?_
  refine b7.go Z Z (fun E => AOps.j Z Z .N) ?_
  refine b7.skip Z (b7.nil)
  refine d5.cons Z Z ?_ ?_
  refine b7.go Z Z (fun E => AOps.j Z Z .N) ?_
  refine b7.skip Z (b7.skip Z (b7.nil))
  refine d5.cons Z Z ?_ ?_
  refine b7.go Z Z (fun E => AOps.j Z Z .N) ?_
  refine b7.skip Z (b7.skip Z (b7.nil))
  refine d5.cons Z Z ?_ ?_
  refine b7.go Z Z (fun E => S.idxPb Z Z Z (by simpa only [List.length_set] using m4 ha12) Z Z .N) ?_
  refine b7.skip Z (b7.skip Z (b7.nil))
  refine d5.cons Z Z ?_ ?_
  refine b7.go Z Z (fun E => S.loadP ha12 Z Z Z Z .N) ?_
  refine b7.skip Z (b7.skip Z (b7.nil))
  refine d5.cons Z Z ?_ ?_
  refine b7.go Z Z (fun E => AOps.j Z Z .N) ?_
  refine b7.skip Z (b7.skip Z (b7.nil))
  refine d5.cons Z Z ?_ ?_
  refine b7.go Z Z (fun E => AOps.j Z Z .N) ?_
  refine b7.skip Z (b7.skip Z (b7.nil))
  refine d5.cons Z Z ?_ ?_
  refine b7.go Z Z (fun E => S.idxPb Z Z Z (by simpa only [List.length_set] using m4 ha16) Z Z .N) ?_
  refine b7.skip Z (b7.skip Z (b7.nil))
  refine d5.cons Z Z ?_ ?_
  refine b7.go Z Z (fun E => S.loadP ha16 Z Z Z Z .N) ?_
  refine b7.skip Z (b7.skip Z (b7.nil))
  refine d5.cons Z Z ?_ ?_
  refine b7.go Z Z (fun E => S.idxPb Z Z Z (by simpa only [List.length_set] using m4 ha16) Z Z .N) ?_
  refine b7.skip Z (b7.skip Z (b7.nil))
  refine d5.skip Z ?_
  refine d5.cons Z Z ?_ ?_
  refine b7.skip Z ?_
  refine b7.go Z Z (fun E => S.idxPb Z Z (by simp only [List.length_set]) (by simpa only [List.length_set] using m4 ha12) Z Z .N) ?_
  refine b7.skip Z (b7.nil)
  refine d5.skip Z (d5.nil)
 dsimp only [i5]
 refine b6 ?_
 obtain ⟨ha57, hha57, ha58, hha58, en59, hen59, h⟩ := b3 h
 obtain ⟨en60, hen60, h⟩ := bind_some h
 refine AWP.drawEI [12, 15] mixed Z Z Z ?_
 refine d6.consN Z Z (fun E => AOps.j Z Z .N) Z (.consN Z Z (fun E => AOps.j Z Z .N) Z (.consN Z Z (fun E => S.idxPb Z Z (by simp only [List.length_set]) (by simpa only [List.length_set] using m4 ha16) Z Z .N) Z (.consN Z Z (fun E => S.loadP hha57 Z Z Z Z .N) Z (.consN Z Z (fun E => AOps.j Z Z .N) Z (.consN Z Z (fun E => AOps.j Z Z .N) Z (.consN Z Z (fun E => S.idxPb Z Z (by simp only [List.length_set]) (by simpa only [List.length_set] using m4 ha12) Z Z .N) Z (.consN Z Z (fun E => S.loadP hha58 Z Z Z Z .N) Z (.consN Z Z (fun E => AOps.j Z Z .N) Z (.consN Z Z (fun E => AOps.j Z Z .N) Z (.consN Z Z (fun E => S.nilCheckE Z Z (by simpa only [List.length_set] using f8 hen59) Z .N) Z (.consN Z Z (fun E => S.fieldE Z Z Z (by simpa only [List.length_set] using f8 hen59) Z .N) Z ?_)))))))))))
 apply d6.consE (v := .undef); exact Z; exact Z; intro E
 refine S.storeE (e' := (⟨en59.item, en59.key, en59.time, iv⟩ : d4)) hen59 Z Z Z Z Z Z .N
 exact Z
 exact Z
 refine d6.consN Z Z (fun E => S.nilCheckE Z Z (by simpa only [List.length_set] using f8 hen60) Z .N) Z (.consN Z Z (fun E => S.fieldE Z Z Z (by simpa only [List.length_set] using f8 hen60) Z .N) Z ?_)
 apply d6.consE (v := .undef); exact Z; exact Z; intro E
 refine S.storeE (e' := (⟨en60.item, en60.key, en60.time, kv⟩ : d4)) hen60 Z Z Z Z Z Z .N
 exact Z
 exact Z
 refine d6.done Z ?_ ?_
 ·refine d5.cons Z Z ?_ ?_
  refine b7.go Z Z (fun E => AOps.j Z Z .N) ?_
  refine b7.skip Z (b7.skip Z (b7.nil))
  refine d5.cons Z Z ?_ ?_
  refine b7.go Z Z (fun E => AOps.j Z Z .N) ?_
  refine b7.skip Z (b7.skip Z (b7.nil))
  refine d5.cons Z Z ?_ ?_
  refine b7.go Z Z (fun E => S.idxPb Z Z (by simp only [List.length_set]) (by simpa only [List.length_set] using m4 ha16) Z Z .N) ?_
  refine b7.skip Z (b7.skip Z (b7.nil))
  refine d5.cons Z Z ?_ ?_
  refine b7.go Z Z (fun E => S.loadP hha57 Z Z Z Z .N) ?_
  refine b7.skip Z (b7.skip Z (b7.nil))
  refine d5.cons Z Z ?_ ?_
  refine b7.go Z Z (fun E => AOps.j Z Z .N) ?_
  refine b7.skip Z (b7.skip Z (b7.nil))
  refine d5.cons Z Z ?_ ?_
  refine b7.go Z Z (fun E => AOps.j Z Z .N) ?_
  refine b7.skip Z (b7.skip Z (b7.nil))
  refine d5.cons Z Z ?_ ?_
  refine b7.go Z Z (fun E => S.idxPb Z Z (by simp only [List.length_set]) (by simpa only [List.length_set] using m4 ha12) Z Z .N) ?_
  refine b7.skip Z (b7.skip Z (b7.nil))
  refine d5.cons Z Z ?_ ?_
  refine b7.go Z Z (fun E => S.loadP hha58 Z Z Z Z .N) ?_
  refine b7.skip Z (b7.skip Z (b7.nil))
  refine d5.cons Z Z ?_ ?_
  refine b7.go Z Z (fun E => AOps.j Z Z .N) ?_
  refine b7.skip Z (b7.skip Z (b7.nil))
  refine d5.cons Z Z ?_ ?_
  refine b7.go Z Z (fun E => AOps.j Z Z .N) ?_
  refine b7.go Z Z (fun E => AOps.j Z Z .N) ?_
  refine b7.skip Z (b7.nil)
  refine d5.cons Z Z ?_ ?_
  refine b7.go Z Z (fun E => S.nilCheckE Z Z (by simpa only [List.length_set] using f8 hen59) Z .N) ?_
  refine b7.skip Z (b7.skip Z (b7.nil))
  refine d5.cons Z Z ?_ ?_
  refine b7.go Z Z (fun E => S.fieldE Z Z Z (by simpa only [List.length_set] using f8 hen59) Z .N) ?_
  refine b7.skip Z (b7.skip Z (b7.nil))
  refine d5.skip Z ?_
  refine d5.cons Z Z ?_ ?_
  refine b7.skip Z ?_
  refine b7.go Z Z (fun E => S.nilCheckE Z Z (by simpa only [List.length_set] using f8 hen60) Z .N) ?_
  refine b7.skip Z (b7.nil)
  refine d5.cons Z Z ?_ ?_
  refine b7.skip Z ?_
  refine b7.go Z Z (fun E => S.fieldE Z Z Z (by simpa only [List.length_set] using f8 hen60) Z .N) ?_
  refine b7.skip Z (b7.nil)
  refine d5.skip Z (d5.nil)
 dsimp only [i5]
 obtain rfl := oi h
 exact ⟨⟨[], [.one (prow 1 ((l.set iv.toNat a12).set kv.toNat a16)), pool 4 b9 ((l4.set ha57.toNat (⟨en59.item, en59.key, en59.time, iv⟩ : d4)).set ha58.toNat (⟨en60.item, en60.key, en60.time, kv⟩ : d4))]⟩, Sub.env trivial, Done.normal Z ⟨Z, Z⟩⟩
theorem ad1 {i01 : Int} {nv : Int} {time : Int} {l : List Int} {l5 : List (Int × Int)} {l6 : List d4} {r : (List Int) × (List d4) × Bool} (h : w4 i01 nv time l l5 l6 = some r) : FnOk prog 93 [.c (.ifc 129 [.ptr 0 0 0] false), .c (int i01), .c (int nv)] (P0 i01 nv time l l5 l6) (fun tt ss => tt = .c (bool r.2.2) ∧ ss = [.one (.cells 3 [[.own 1 0 r.1.length, .map 2, int time]]), .one (prow 3 r.1), .one (pmap 3 vU l5), pool 4 b9 r.2.1]) := by
 refine FnOk.enter (rs := [.t 6]) func93 Z ntmps93 results93 Z ⟨trivial, Y⟩ (by kernel_rfl) Z ?_
 refine AWP.weak ?_
 unfold w4 at h
 refine AWP.q (.u (.v Z Z (.nil (b6 (.q (.u (.j Z Z (.v Z Z (.nil (b6 (.q (.aa ?_))))))))))))
 obtain ⟨⟨c63, c64, iv65⟩, ho1, h⟩ := bind_some h
 try dsimp only at h
 refine AWP.loopS ho1 (fun (c60, c61, iv62) => ⟨[(0, .c (.ifc 129 [.ptr 0 0 0] false)), (1, .c (int i01)), (2, .c (int nv)), (7, .c (int iv62))], [.one (.cells 3 [[.own 1 0 c60.length, .map 2, int time]]), .one (prow 3 c60), .one (pmap 3 vU l5), pool 4 b9 c61]⟩) (fun (c63, c64, iv65) e st => e = .exit 0 ∧ Sub (P0 i01 nv time l l5 l6) st ⟨[(1, .c (int i01)), (7, .c (int iv65))], [.one (.cells 3 [[.own 1 0 c63.length, .map 2, int time]]), .one (prow 3 c63), .one (pmap 3 vU l5), pool 4 b9 c64]⟩) ?_ ?_ ?_
 ·try dsimp only
  exact Sub.env ⟨Z, Z, Z, Z, Y⟩
 ·intro s o h
  obtain ⟨c60, c61, iv62⟩ := s
  unfold s6 at h
  try dsimp only at h ⊢
  refine AWP.aa (.q (.u (.j Z Z (S.mul Z Z Z (S.add Z Z Z (.v Z Z (.nil (b6 (.q (.seqJ (⟨[(0, .c (.ifc 129 [.ptr 0 0 0] false)), (1, .c (int i01)), (2, .c (int nv)), (7, .c (int iv62)), (8, .c (int (w64 ((w64 (2 * iv62)) + 1)))), (21, .c (bool ((decide (nv ≤ w64 ((w64 (2 * iv62)) + 1))) || (decide (w64 ((w64 (2 * iv62)) + 1) < 0)))))], [.one (.cells 3 [[.own 1 0 c60.length, .map 2, int time]]), .one (prow 3 c60), .one (pmap 3 vU l5), pool 4 b9 c61]⟩) ?_ ?_))))))))))
  ·rcases bft (decide (nv ≤ w64 ((w64 (2 * iv62)) + 1))) with hb1 | hb1
   ·refine AWP.u (.j Z Z (.j Z Z (.geq Z Z Z (.j Z Z (.B Z Z Z hb1 (.B Z Z Z hb1 (.U Z hb1 Z Z (.nil (b6 ?_)))))))))
    simp only [s5 hb1, or_t hb1, Bool.false_or, Bool.true_or, Bool.false_and, Bool.true_and]
    exact Sub.env ⟨Z, Z, Z, Z, Z, Z, Y⟩
   ·refine AWP.u (.j Z Z (.j Z Z (.geq Z Z Z (.j Z Z (.z Z Z Z hb1 (.j Z Z (.z Z Z Z hb1 (.J Z Z Z (.O Z hb1 Z Z (.nil (b6 ?_)))))))))))
    simp only [E3 hb1, or_f hb1, Bool.false_or, Bool.true_or, Bool.false_and, Bool.true_and]
    exact Sub.env ⟨Z, Z, Z, Z, Z, Z, Y⟩
  ·refine AWP.ad Z h (fun hc66 h => ?_) (fun hc66 h => ?_)
   ·refine AWP.exit (e7 (S3 Z ?_))
    obtain rfl := oi h
    refine e7 ⟨_, Z, Z, ?_⟩
    exact Sub.env ⟨Z, Z, Y⟩
   ·refine AWP.skip (b6 (.q (.u (.j Z Z (.v Z Z (.nil (b6 ?_)))))))
    obtain ⟨j67, hx68, h⟩ := bind_some h
    refine AWP.seqJ (⟨[(0, .c (.ifc 129 [.ptr 0 0 0] false)), (1, .c (int i01)), (2, .c (int nv)), (7, .c (int iv62)), (9, .c (int j67))], [.one (.cells 3 [[.own 1 0 c60.length, .map 2, int time]]), .one (prow 3 c60), .one (pmap 3 vU l5), pool 4 b9 c61]⟩) ?_ ?_
    ·refine AWP.q (.u (.j Z Z (S.add Z Z Z (.v Z Z (.nil (b6 ?_))))))
     obtain ⟨t69, hx70, hx68⟩ := bind_some hx68
     refine AWP.seqJ (⟨[(0, .c (.ifc 129 [.ptr 0 0 0] false)), (1, .c (int i01)), (2, .c (int nv)), (7, .c (int iv62)), (9, .c (int (w64 ((w64 (2 * iv62)) + 1)))), (10, .c (int (w64 ((w64 ((w64 (2 * iv62)) + 1)) + 1)))), (33, .c (bool t69))], [.one (.cells 3 [[.own 1 0 c60.length, .map 2, int time]]), .one (prow 3 c60), .one (pmap 3 vU l5), pool 4 b9 c61]⟩) ?_ ?_
     ·rcases bft (decide (w64 ((w64 ((w64 (2 * iv62)) + 1)) + 1) < nv)) with hb71 | hb71
      ·replace hx70 := L8 hb71 hx70
       obtain ⟨a32, ha32, hx70⟩ := bind_some hx70
       refine AWP.u (.j Z Z (.j Z Z (.J Z Z Z (.j Z Z (.z Z Z Z hb71 (.j Z Z (.z Z Z Z hb71 (.j Z Z (.z Z Z Z hb71 (.j Z Z (.z Z Z Z hb71 (S.invokeV (r2 := .c (bool a32)) (σ'' := [.one (.cells 3 [[.own 1 0 c60.length, .map 2, int time]]), .one (prow 3 c60), .one (pmap 3 vU l5), pool 4 b9 c61]) Z Z Z Z Z Z Z (FnOk.lend [1, 3] (u5 ha32) Z Z Z Z Z Z (by exact ⟨(.one (g9 Z)), (.any k7), Y⟩) Z (by exact ⟨(.live Z (.one (f9 fun _ => Z))), (.live Z RenE.pool), Y⟩) Z Z (by exact ⟨(.old Z Z Z), (.new 0 Z Z (.one (f9 fun _ => Z))), (.old Z Z Z), (.new 1 Z Z RenE.pool), Y⟩)) (.U Z hb71 Z Z (.nil ?_))))))))))))))
       obtain rfl := oi hx70
       refine b6 (Sub.env ⟨Z, Z, Z, Z, Z, Z, Z, Y⟩)
      ·replace hx70 := L5 hb71 hx70
       refine AWP.u (.j Z Z (.j Z Z (.J Z Z Z (.j Z Z (.B Z Z Z hb71 (.B Z Z Z hb71 (.B Z Z Z hb71 (.B Z Z Z hb71 (.O Z hb71 Z Z (.nil ?_))))))))))
       obtain rfl := oi hx70
       refine b6 (Sub.env ⟨Z, Z, Z, Z, Z, Z, Z, Y⟩)
     ·refine AWP.ad Z hx68 (fun hc72 hx68 => ?_) (fun hc72 hx68 => ?_)
      ·refine AWP.u (.j Z Z (.v Z Z (.nil ?_)))
       obtain rfl := oi hx68
       refine b6 (Sub.env ⟨Z, Z, Z, Z, Z, Y⟩)
      ·refine AWP.skip ?_
       obtain rfl := oi hx68
       refine b6 (Sub.env ⟨Z, Z, Z, Z, Z, Y⟩)
    ·refine AWP.q (.q ?_)
     obtain ⟨a38, ha38, h⟩ := bind_some h
     refine AWP.u (.j Z Z (.j Z Z (.j Z Z (S.invokeV (r2 := .c (bool a38)) (σ'' := [.one (.cells 3 [[.own 1 0 c60.length, .map 2, int time]]), .one (prow 3 c60), .one (pmap 3 vU l5), pool 4 b9 c61]) Z Z Z Z Z Z Z (FnOk.lend [1, 3] (u5 ha38) Z Z Z Z Z Z (by exact ⟨(.one (g9 Z)), (.any k7), Y⟩) Z (by exact ⟨(.live Z (.one (f9 fun _ => Z))), (.live Z RenE.pool), Y⟩) Z Z (by exact ⟨(.old Z Z Z), (.new 0 Z Z (.one (f9 fun _ => Z))), (.old Z Z Z), (.new 1 Z Z RenE.pool), Y⟩)) (.ae Z Z (.nil (b6 (.ad Z h (fun hc73 h => ?_) (fun hc73 h => ?_)))))))))
     ·refine AWP.exit (e7 (S3 Z ?_))
      obtain rfl := oi h
      refine e7 ⟨_, Z, Z, ?_⟩
      exact Sub.env ⟨Z, Z, Y⟩
     ·refine AWP.skip (b6 (.q ?_))
      obtain ⟨a43, ha43, u74, hu74, h⟩ := b2 h
      refine AWP.u (.j Z Z (.j Z Z (.j Z Z (S.invokeV (r2 := .tup []) (σ'' := [.one (.cells 3 [[.own 1 0 c60.length, .map 2, int time]]), .one (prow 3 a43.1), .one (pmap 3 vU l5), pool 4 b9 a43.2]) Z Z Z Z Z Z Z (FnOk.lend [1, 3] (H5 ha43) Z Z Z Z Z Z (by exact ⟨(.one (g9 Z)), (.any k7), Y⟩) Z (by exact ⟨(.live Z (.one (f9 fun _ => Z))), (.live Z RenE.pool), Y⟩) Z Z (by exact ⟨(.old Z Z Z), (.new 0 Z Z (.one (f9 fun _ => Z))), (.old Z Z Z), (.new 1 Z Z RenE.pool), Y⟩)) (.nil (b6 (.u (.j Z Z (.v Z Z (.nil (e9 ?_)))))))))))
      obtain rfl := oi h
      refine b6 ⟨_, Z, ?_⟩
      exact Sub.cut ⟨Z, Z, Z, Z, Y⟩ Z ⟨(.eq Z (by first | rfl | rw [(ab9 hu74)] | (simp only [List.length_set]; done))), (.one (g9 Z)), (.one (j5 Z)), (.any k7), Y⟩ Z
 ·intro e s hq
  obtain ⟨rfl, hs⟩ := hq
  refine ⟨_, hs, ?_⟩
  refine j7 (b6 (.q (.u (.j Z Z (.j Z Z (.gtr Z Z Z (.v Z Z (.nil (b6 (.ret ?_))))))))))
  obtain rfl := oi h
  exact ⟨⟨[(6, .c (bool (decide (i01 < iv65))))], [.one (.cells 3 [[.own 1 0 c63.length, .map 2, int time]]), .one (prow 3 c63), .one (pmap 3 vU l5), pool 4 b9 c64]⟩, Sub.env ⟨Z, Y⟩, Done.ret Z ⟨Z, Z⟩⟩
theorem R8 {j : Int} {time : Int} {l : List Int} {l4 : List (Int × Int)} {l5 : List d4} {r : (List Int) × (List d4)} (h : y9 j time l l4 l5 = some r) : FnOk prog 94 [.c (.ifc 129 [.ptr 0 0 0] false), .c (int j)] (S2 j time l l4 l5) (fun tt ss => tt = .tup [] ∧ ss = [.one (.cells 3 [[.own 1 0 r.1.length, .map 2, int time]]), .one (prow 3 r.1), .one (pmap 3 vU l4), pool 4 b9 r.2]) := by
 refine FnOk.enter (rs := []) func94 Z ntmps94 results94 Z trivial (by kernel_rfl) Z ?_
 refine AWP.weak ?_
 unfold y9 at h
 refine AWP.aa ?_
 obtain ⟨⟨c61, c62⟩, ho1, h⟩ := bind_some h
 try dsimp only at h
 refine AWP.loopS ho1 (fun (c58, c59, j60) => ⟨[(0, .c (.ifc 129 [.ptr 0 0 0] false)), (1, .c (int j60))], [.one (.cells 3 [[.own 1 0 c58.length, .map 2, int time]]), .one (prow 3 c58), .one (pmap 3 vU l4), pool 4 b9 c59]⟩) (fun (c61, c62) e st => e = .exit 0 ∧ Sub (S2 j time l l4 l5) st ⟨[], [.one (.cells 3 [[.own 1 0 c61.length, .map 2, int time]]), .one (prow 3 c61), .one (pmap 3 vU l4), pool 4 b9 c62]⟩) ?_ ?_ ?_
 ·try dsimp only
  exact Sub.env ⟨Z, Z, Y⟩
 ·intro s o h
  obtain ⟨c58, c59, j60⟩ := s
  unfold C7 at h
  try dsimp only at h ⊢
  refine AWP.aa (.q ?_)
  obtain ⟨u7, hu7, h⟩ := bind_some h
  refine AWP.u (.j Z Z (S.sub Z Z Z (S.quo hu7 Z Z Z (.v Z Z (.nil (b6 (.q ?_)))))))
  obtain ⟨t63, hx64, h⟩ := bind_some h
  refine AWP.seqJ (⟨[(0, .c (.ifc 129 [.ptr 0 0 0] false)), (1, .c (int j60)), (4, .c (int (w64 ((w64 (j60 - 1)).tdiv 2)))), (17, .c (bool t63))], [.one (.cells 3 [[.own 1 0 c58.length, .map 2, int time]]), .one (prow 3 c58), .one (pmap 3 vU l4), pool 4 b9 c59]⟩) ?_ ?_
  ·rcases bft (decide (w64 ((w64 (j60 - 1)).tdiv 2) = j60)) with hb65 | hb65
   ·replace hx64 := L8 hb65 hx64
    refine AWP.u (.j Z Z (.j Z Z (.ab Z Z Z (.j Z Z (.B Z Z Z hb65 (.B Z Z Z hb65 (.B Z Z Z hb65 (.B Z Z Z hb65 (.B Z Z Z hb65 (.U Z hb65 Z Z (.nil ?_)))))))))))
    obtain rfl := oi hx64
    refine b6 (Sub.env ⟨Z, Z, Z, Z, Y⟩)
   ·replace hx64 := L5 hb65 hx64
    obtain ⟨a15, ha15, hx64⟩ := bind_some hx64
    refine AWP.u (.j Z Z (.j Z Z (.ab Z Z Z (.j Z Z (.z Z Z Z hb65 (.j Z Z (.z Z Z Z hb65 (.j Z Z (.z Z Z Z hb65 (.j Z Z (.z Z Z Z hb65 (S.invokeV (r2 := .c (bool a15)) (σ'' := [.one (.cells 3 [[.own 1 0 c58.length, .map 2, int time]]), .one (prow 3 c58), .one (pmap 3 vU l4), pool 4 b9 c59]) Z Z Z Z Z Z Z (FnOk.lend [1, 3] (u5 ha15) Z Z Z Z Z Z (by exact ⟨(.one (g9 Z)), (.any k7), Y⟩) Z (by exact ⟨(.live Z (.one (f9 fun _ => Z))), (.live Z RenE.pool), Y⟩) Z Z (by exact ⟨(.old Z Z Z), (.new 0 Z Z (.one (f9 fun _ => Z))), (.old Z Z Z), (.new 1 Z Z RenE.pool), Y⟩)) (.z Z Z Z hb65 (.ae Z Z (.O Z hb65 Z Z (.nil ?_))))))))))))))))
    obtain rfl := oi hx64
    refine b6 (Sub.env ⟨Z, Z, Z, Z, Y⟩)
  ·refine AWP.ad Z h (fun hc66 h => ?_) (fun hc66 h => ?_)
   ·refine AWP.exit (e7 (S3 Z ?_))
    obtain rfl := oi h
    refine e7 ⟨_, Z, Z, ?_⟩
    exact Sub.env trivial
   ·refine AWP.skip (b6 (.q ?_))
    obtain ⟨a21, ha21, u67, hu67, h⟩ := b2 h
    refine AWP.u (.j Z Z (.j Z Z (.j Z Z (S.invokeV (r2 := .tup []) (σ'' := [.one (.cells 3 [[.own 1 0 c58.length, .map 2, int time]]), .one (prow 3 a21.1), .one (pmap 3 vU l4), pool 4 b9 a21.2]) Z Z Z Z Z Z Z (FnOk.lend [1, 3] (H5 ha21) Z Z Z Z Z Z (by exact ⟨(.one (g9 Z)), (.any k7), Y⟩) Z (by exact ⟨(.live Z (.one (f9 fun _ => Z))), (.live Z RenE.pool), Y⟩) Z Z (by exact ⟨(.old Z Z Z), (.new 0 Z Z (.one (f9 fun _ => Z))), (.old Z Z Z), (.new 1 Z Z RenE.pool), Y⟩)) (.nil (b6 (.u (.j Z Z (.v Z Z (.nil (e9 ?_)))))))))))
    obtain rfl := oi h
    refine b6 ⟨_, Z, ?_⟩
    exact Sub.cut ⟨Z, Z, Y⟩ Z ⟨(.eq Z (by first | rfl | rw [(ab9 hu67)] | (simp only [List.length_set]; done))), (.one (g9 Z)), (.one (j5 Z)), (.any k7), Y⟩ Z
 ·intro e s hq
  obtain ⟨rfl, hs⟩ := hq
  refine ⟨_, hs, ?_⟩
  refine j7 ?_
  obtain rfl := oi h
  exact ⟨⟨[], [.one (.cells 3 [[.own 1 0 c61.length, .map 2, int time]]), .one (prow 3 c61), .one (pmap 3 vU l4), pool 4 b9 c62]⟩, Sub.env trivial, Done.normal Z ⟨Z, Z⟩⟩
theorem R3 {iv : Int} {time : Int} {l : List Int} {l4 : List (Int × Int)} {l5 : List d4} {r : (List Int) × (List d4)} (h : x5 iv time l l4 l5 = some r) : FnOk prog 75 [.c (.ifc 129 [.ptr 0 0 0] false), .c (int iv)] (ae2 iv time l l4 l5) (fun tt ss => tt = .tup [] ∧ ss = [.one (.cells 3 [[.own 1 0 r.1.length, .map 2, int time]]), .one (prow 3 r.1), .one (pmap 3 vU l4), pool 4 b9 r.2]) := by
 refine FnOk.enter (rs := []) func75 Z ntmps75 results75 Z trivial (by kernel_rfl) Z ?_
 refine AWP.weak ?_
 unfold x5 at h
 refine AWP.q ?_
 obtain ⟨a7, ha7, a8, ha8, h⟩ := b2 h
 refine AWP.u (.j Z Z (.j Z Z (.j Z Z (S.invokeV (r2 := .c (int (l.length : Int))) (σ'' := [.one (.cells 3 [[.own 1 0 l.length, .map 2, int time]]), .one (prow 3 l), .one (pmap 3 vU l4), pool 4 b9 l5]) Z Z Z Z Z Z Z (FnOk.lend [1, 3] (B2 ha7) Z Z Z Z Z Z (by exact ⟨(.one (g9 Z)), (.any k7), Y⟩) Z (by exact ⟨(.live Z (.one (f9 fun _ => Z))), (.live Z RenE.pool), Y⟩) Z Z (by exact ⟨(.old Z Z Z), (.new 0 Z Z (.one (f9 fun _ => Z))), (.old Z Z Z), (.new 1 Z Z RenE.pool), Y⟩)) (.callF (r2 := .c (bool a8.2.2)) (σ'' := [.one (.cells 3 [[.own 1 0 a8.1.length, .map 2, int time]]), .one (prow 3 a8.1), .one (pmap 3 vU l4), pool 4 b9 a8.2.1]) Z Z Z (FnOk.lend [0, 1, 2, 3] (ad1 ha8) Z Z Z Z Z Z (by exact ⟨(.one Z), (.one (g9 Z)), (.one (j5 Z)), (.any k7), Y⟩) Z (by exact ⟨(.live Z (.one Z)), (.live Z (.one (f9 fun _ => Z))), (.live Z (.one (j8 fun _ => Z))), (.live Z RenE.pool), Y⟩) Z Z (by exact ⟨(.new 0 Z Z (.one Z)), (.new 1 Z Z (.one (f9 fun _ => Z))), (.new 2 Z Z (.one (j8 fun _ => Z))), (.new 3 Z Z RenE.pool), Y⟩)) (.ae Z Z (.nil (b6 (.ad Z h (fun hc58 h => ?_) (fun hc58 h => ?_))))))))))
 ·obtain ⟨a12, ha12, h⟩ := bind_some h
  refine AWP.u (.j Z Z (.j Z Z (.callF (r2 := .tup []) (σ'' := [.one (.cells 3 [[.own 1 0 a12.1.length, .map 2, int time]]), .one (prow 3 a12.1), .one (pmap 3 vU l4), pool 4 b9 a12.2]) Z Z Z (FnOk.lend [0, 1, 2, 3] (R8 ha12) Z Z Z Z Z Z (by exact ⟨(.one Z), (.one (g9 Z)), (.one (j5 Z)), (.any k7), Y⟩) Z (by exact ⟨(.live Z (.one Z)), (.live Z (.one (f9 fun _ => Z))), (.live Z (.one (j8 fun _ => Z))), (.live Z RenE.pool), Y⟩) Z Z (by exact ⟨(.new 0 Z Z (.one Z)), (.new 1 Z Z (.one (f9 fun _ => Z))), (.new 2 Z Z (.one (j8 fun _ => Z))), (.new 3 Z Z RenE.pool), Y⟩)) (.nil ?_))))
  obtain rfl := oi h
  exact ⟨⟨[], [.one (.cells 3 [[.own 1 0 a12.1.length, .map 2, int time]]), .one (prow 3 a12.1), .one (pmap 3 vU l4), pool 4 b9 a12.2]⟩, Sub.env trivial, Done.normal Z ⟨Z, Z⟩⟩
 ·refine AWP.skip ?_
  obtain rfl := oi h
  exact ⟨⟨[], [.one (.cells 3 [[.own 1 0 a8.1.length, .map 2, int time]]), .one (prow 3 a8.1), .one (pmap 3 vU l4), pool 4 b9 a8.2.1]⟩, Sub.env trivial, Done.normal Z ⟨Z, Z⟩⟩
theorem T2 {xv : Int} {time : Int} {l : List d4} {l4 : List Int} {l5 : List (Int × Int)} {r : (List d4) × (List Int)} (h : w6 xv time l l4 l5 = some r) : FnOk prog 143 [.c (.ptr 0 0 0), .c (.ifc 124 [.ptr (1, [xv.toNat]) 0 0] false)] (T4 xv time l l4 l5) (fun tt ss => tt = .tup [] ∧ ss = [.one (.cells 3 [[.own 6 0 r.2.length, .map 3, int time]]), pool 4 b9 r.1, .dead, .one (pmap 1 vU l5), .dead, .dead, .one (prow 1 r.2)]) := by
 refine FnOk.enter (rs := []) func143 Z ntmps143 results143 Z trivial (by kernel_rfl) Z ?_
 refine AWP.weak ?_
 unfold w6 at h
 refine AWP.j (env' := [(0, .c (.ptr 0 0 0)), (1, .c (.ifc 124 [.ptr (1, [xv.toNat]) 0 0] false))]) (σ' := [.one (.cells 3 [[.own 4 0 l4.length, .map 3, int time]]), pool 4 b9 l, .dead, .one (pmap 1 vU l5), .one (prow 1 l4)]) 4 2 Z Z Z ⟨Z, Z, Y⟩ Z ⟨⟨Z, Z⟩, (n9.pool Z), trivial, ⟨j5 Z, t1 Z G4⟩, ⟨g9 Z, t1 Z G5⟩, Y⟩ (.q (.u (.j Z Z (S.assert Z Z Z (.v Z Z (.nil (b6 (.q ?_))))))))
 obtain ⟨en58, hen58, h⟩ := bind_some h
 refine AWP.u (.j Z Z (.j Z Z (.aj Z Z Z (.E Z Z Z Z Z Z (.lenOwnB Z Z Z (fun hl11 => S.nilCheckE Z Z (by simpa only [List.length_set] using f8 hen58) Z (S.fieldE Z Z Z (by simpa only [List.length_set] using f8 hen58) Z (S.storeE (e' := (⟨en58.item, en58.key, en58.time, (l4.length : Int)⟩ : d4)) hen58 Z Z Z Z Z Z (.nil (b6 ?_))))))))))
 obtain ⟨a20, ha20, h⟩ := bind_some h
 refine AWP.u (.j Z Z (.j Z Z (.aj Z Z Z (.E Z Z Z Z Z Z (.j Z Z (W.lit1 Z Z Z Z Z Z Z Z Z (S.appendP ha20 Z Z Z Z Z Z Z Z Z Z Z Z (.aj Z Z Z (W.store Z Z Z Z Z (.nil ?_))))))))))
 obtain rfl := oi h
 exact ⟨⟨[], [.one (.cells 3 [[.own 6 0 a20.length, .map 3, int time]]), pool 4 b9 (l.set xv.toNat (⟨en58.item, en58.key, en58.time, (l4.length : Int)⟩ : d4)), .dead, .one (pmap 1 vU l5), .dead, .dead, .one (prow 1 a20)]⟩, Sub.cut trivial Z ⟨.one Z, (.any k7), .dead, (.one (j5 Z)), .dead, .dead, (.one (g9 Z)), Y⟩ Z, Done.normal Z ⟨Z, Z⟩⟩
theorem P7 {xv : Int} {time : Int} {l : List d4} {l4 : List Int} {l5 : List (Int × Int)} {r : (List d4) × (List Int)} (h : v7 xv time l l4 l5 = some r) : FnOk prog 76 [.c (.ifc 129 [.ptr 0 0 0] false), .c (.ifc 124 [.ptr (1, [xv.toNat]) 0 0] false)] (ad8 xv time l l4 l5) (fun tt ss => tt = .tup [] ∧ ss = [.one (.cells 3 [[.own 6 0 r.2.length, .map 3, int time]]), pool 4 b9 r.1, .dead, .one (pmap 1 vU l5), .dead, .dead, .one (prow 1 r.2)]) := by
 refine FnOk.enter (rs := []) func76 Z ntmps76 results76 Z trivial (by kernel_rfl) Z ?_
 refine AWP.weak ?_
 unfold v7 at h
 refine AWP.q ?_
 obtain ⟨a6, ha6, h⟩ := bind_some h
 refine AWP.u (.j Z Z (.j Z Z (S.invokeP (r2 := .tup []) (σ'' := [.one (.cells 3 [[.own 6 0 a6.2.length, .map 3, int time]]), pool 4 b9 a6.1, .dead, .one (pmap 1 vU l5), .dead, .dead, .one (prow 1 a6.2)]) Z Z Z (FnOk.lend [0, 1, 2, 3] (T2 ha6) Z Z Z Z Z Z (by exact ⟨(.one Z), (.any k7), (.one (g9 Z)), (.one (j5 Z)), Y⟩) Z (by exact ⟨(.live Z (.one Z)), (.live Z RenE.pool), (.live Z (.one (f9 fun _ => Z))), (.live Z (.one (j8 fun _ => Z))), Y⟩) Z Z (by exact ⟨(.new 0 Z Z (.one Z)), (.new 1 Z Z RenE.pool), .dead, (.new 3 Z Z (.one (j8 fun _ => Z))), .dead, .dead, (.new 6 Z Z (.one (f9 fun _ => Z))), Y⟩)) (.nil (b6 ?_)))))
 obtain ⟨a9, ha9, a11, ha11, h⟩ := b2 h
 refine AWP.u (.j Z Z (.j Z Z (S.invokeV (r2 := .c (int (a6.2.length : Int))) (σ'' := [.one (.cells 3 [[.own 6 0 a6.2.length, .map 3, int time]]), pool 4 b9 a6.1, .dead, .one (pmap 1 vU l5), .dead, .dead, .one (prow 1 a6.2)]) Z Z Z Z Z Z Z (FnOk.lend [6, 1] (B2 ha9) Z Z Z Z Z Z (by exact ⟨(.one (g9 Z)), (.any k7), Y⟩) Z (by exact ⟨(.live Z (.one (f9 fun _ => Z))), (.live Z RenE.pool), Y⟩) Z Z (by exact ⟨(.old Z Z Z), (.new 1 Z Z RenE.pool), .dead, (.old Z Z Z), .dead, .dead, (.new 0 Z Z (.one (f9 fun _ => Z))), Y⟩)) (S.sub Z Z Z (.callF (r2 := .tup []) (σ'' := [.one (.cells 3 [[.own 6 0 a11.1.length, .map 3, int time]]), pool 4 b9 a11.2, .dead, .one (pmap 1 vU l5), .dead, .dead, .one (prow 1 a11.1)]) Z Z Z (FnOk.lend [0, 6, 3, 1] (R8 ha11) Z Z Z Z Z Z (by exact ⟨(.one Z), (.one (g9 Z)), (.one (j5 Z)), (.any k7), Y⟩) Z (by exact ⟨(.live Z (.one Z)), (.live Z (.one (f9 fun _ => Z))), (.live Z (.one (j8 fun _ => Z))), (.live Z RenE.pool), Y⟩) Z Z (by exact ⟨(.new 0 Z Z (.one Z)), (.new 3 Z Z RenE.pool), .dead, (.new 2 Z Z (.one (j8 fun _ => Z))), .dead, .dead, (.new 1 Z Z (.one (f9 fun _ => Z))), Y⟩)) (.nil ?_))))))
 obtain rfl := oi h
 exact ⟨⟨[], [.one (.cells 3 [[.own 6 0 a11.1.length, .map 3, int time]]), pool 4 b9 a11.2, .dead, .one (pmap 1 vU l5), .dead, .dead, .one (prow 1 a11.1)]⟩, Sub.env trivial, Done.normal Z ⟨Z, Z⟩⟩
theorem V4 {item : Int} {key : Int} {time : Int} {l : List Int} {l5 : List (Int × Int)} {l6 : List d4} {r : (List (Int × Int)) × (List Int) × (List d4)} (h : m9 item key time l l5 l6 = some r) : FnOk prog 61 [.c (.ptr 0 0 0), .c (.imm (.val (.int .u32 item))), .c (int key)] (W0 item key time l l5 l6) (fun tt ss => tt = .tup [] ∧ ss = [.one (.cells 3 [[.own 4 0 r.2.1.length, .map 2, int (w64 (time + 1))]]), .dead, .one (pmap 5 vU r.1), .dead, .one (prow 5 r.2.1), pool 4 b9 r.2.2]) := by
 refine FnOk.enter (rs := []) func61 Z ntmps61 results61 Z trivial (by kernel_rfl) Z ?_
 refine AWP.weak ?_
 unfold m9 at h
 refine AWP.j (env' := [(0, .c (.ptr 0 0 0)), (1, .c (.imm (.val (.int .u32 item)))), (2, .c (int key))]) (σ' := [.one (.cells 3 [[.own 4 0 l.length, .map 2, int time]]), .dead, .one (pmap 3 vU l5), pool 4 b9 l6, .one (prow 3 l)]) 4 1 Z Z Z ⟨Z, Z, Z, Y⟩ Z ⟨⟨Z, Z⟩, trivial, ⟨j5 Z, t1 Z G4⟩, (n9.pool Z), ⟨g9 Z, t1 Z G5⟩, Y⟩ (.moveM (env' := [(0, .c (.ptr 0 0 0)), (1, .c (.imm (.val (.int .u32 item)))), (2, .c (int key))]) (σ' := [.one (.cells 3 [[.own 4 0 l.length, .map 2, int time]]), .dead, .one (pmap 5 vU l5), .dead, .one (prow 5 l), pool 4 b9 l6]) 5 3 Z Z Z ⟨Z, Z, Z, Y⟩ Z ⟨(.one Z Z), .dead, (.one (j5 Z) (B6 Z Z (j8 fun _ => Z))), .dead, (.one (g9 Z) (B6 Z Z (f9 fun _ => Z))), (EntR.pool Z Z), Y⟩ ?_)
 refine AWP.q (.u (.j Z Z (.aj Z Z Z (W.fieldAddr Z Z Z Z (.E Z Z Z Z Z Z (S.add Z Z Z (.aj Z Z Z (W.fieldAddr Z Z Z Z (W.store Z Z Z Z Z (.nil (b6 (.q (.q (.u (.j Z Z (.aj Z Z Z (W.fieldAddr Z Z Z Z (.E Z Z Z Z Z Z (.j Z Z (S.lookupOkP (fk := vU) (k := item) C2 Z Z Z Z Z (.j Z Z (.ac Z Z Z (.ac Z Z Z (.v Z Z (.v Z Z (.nil (b6 (.q (.u (.j Z Z (.nil (b6 (.ad Z h (fun hc60 h => ?_) (fun hc60 h => ?_))))))))))))))))))))))))))))))))))
 ·obtain ⟨ap61, hap61, h⟩ := bind_some h
  refine AWP.sub (s' := ⟨[(0, .c (.ptr 0 0 0)), (1, .c (.imm (.val (.int .u32 item)))), (2, .c (int key)), (6, .c (.ptr (5, [ap61.toNat]) 0 0)), (7, .c (bool (Option.isSome (mget l5 item)))), (9, .c (.ptr 0 0 0)), (10, .c (.ptr 0 0 0)), (11, .c (.ptr 0 0 2)), (12, .c (int time)), (13, .c (int (w64 (time + 1)))), (14, .c (.ptr 0 0 0)), (15, .c (.ptr 0 0 2)), (17, .c (.ptr 0 0 0)), (18, .c (.ptr 0 0 0)), (19, .c (.ptr 0 0 1)), (20, .c (.map 2)), (21, .c (.imm (.val (.int .u32 item)))), (23, .c (.ptr (5, [ap61.toNat]) 0 0)), (24, .c (bool (Option.isSome (mget l5 item)))), (25, .c (bool (Option.isSome (mget l5 item))))], [.one (.cells 3 [[.own 4 0 l.length, .map 2, int (w64 (time + 1))]]), .dead, .one (pmap 5 vU l5), .dead, .one (prow 5 l), pool 4 b9 l6]⟩) (Sub.env ⟨Z, Z, Z, (af1 hap61), Z, Z, Z, Z, Z, Z, Z, Z, Z, Z, Z, Z, Z, (af1 hap61), Z, Z, Y⟩) (.q ?_)
  obtain ⟨en62, hen62, h⟩ := bind_some h
  refine AWP.u (.j Z Z (.j Z Z (.j Z Z (.j Z Z (.aj Z Z Z (W.fieldAddr Z Z Z Z (.E Z Z Z Z Z Z (S.nilCheckE Z Z (by simpa only [List.length_set] using f8 hen62) Z (S.fieldE Z Z Z (by simpa only [List.length_set] using f8 hen62) Z (S.storeE (e' := (⟨en62.item, key, en62.time, en62.fat⟩ : d4)) hen62 Z Z Z Z Z Z (S.nilCheckE Z Z (by simpa only [List.length_set] using f8 hen62) Z (S.fieldE Z Z Z (by simpa only [List.length_set] using f8 hen62) Z (S.storeE (e' := (⟨en62.item, key, w64 (time + 1), en62.fat⟩ : d4)) (S0 hen62) Z Z Z Z Z Z (.nil (b6 (.q ?_))))))))))))))))
  obtain ⟨a45, ha45, h⟩ := bind_some h
  refine AWP.drawEI [8] mixed Z Z Z ?_
  refine d6.consN Z Z (fun E => AOps.j Z Z .N) Z (.consN Z Z (fun E => AOps.aj Z Z Z .N) Z (.consN Z Z (fun E => W.fieldAddr Z Z Z Z .N) Z (.consN Z Z (fun E => S.mkIfc Z Z Z .N) Z (.consN Z Z (fun E => AOps.j Z Z .N) Z (.consN Z Z (fun E => S.nilCheckE Z Z (by simpa only [List.length_set] using f8 hen62) Z .N) Z (.consN Z Z (fun E => S.fieldE Z Z Z (by simpa only [List.length_set] using f8 hen62) Z .N) Z (.consN Z Z (fun E => AOps.E Z Z (m5 Z (S0 (S0 hen62))) Z Z Z .N) Z ?_)))))))
  apply d6.consE; exact Z; exact Z; intro E
  refine AOps.callF (r2 := .tup []) (σ'' := [.one (.cells 3 [[.own 4 0 a45.1.length, .map 2, int (w64 (time + 1))]]), .dead, .one (pmap 5 vU l5), .dead, .one (prow 5 a45.1), pool 4 b9 a45.2]) Z Z Z (FnOk.lend [0, 4, 2, 5] (R3 ha45) Z Z Z Z Z Z (by exact ⟨(.one Z), (.one (g9 Z)), (.one (j5 Z)), (.any k7), Y⟩) Z (by exact ⟨(.live Z (.one Z)), (.live Z (.one (f9 fun _ => Z))), (.live Z (.one (j8 fun _ => Z))), (.live Z RenE.pool), Y⟩) Z Z (by exact ⟨(.new 0 Z Z (.one Z)), .dead, (.new 2 Z Z (.one (j8 fun _ => Z))), .dead, (.new 1 Z Z (.one (f9 fun _ => Z))), (.new 3 Z Z RenE.pool), Y⟩)) .N
  exact Z
  exact Z
  refine d6.done Z ?_ ?_
  ·refine d5.cons Z Z ?_ ?_
   refine b7.go Z Z (fun E => AOps.j Z Z .N) ?_
   refine b7.skip Z (b7.nil)
   refine d5.cons Z Z ?_ ?_
   refine b7.go Z Z (fun E => AOps.aj Z Z Z .N) ?_
   refine b7.skip Z (b7.nil)
   refine d5.cons Z Z ?_ ?_
   refine b7.go Z Z (fun E => W.fieldAddr Z Z Z Z .N) ?_
   refine b7.skip Z (b7.nil)
   refine d5.cons Z Z ?_ ?_
   refine b7.go Z Z (fun E => S.mkIfc Z Z Z .N) ?_
   refine b7.skip Z (b7.nil)
   refine d5.cons Z Z ?_ ?_
   refine b7.go Z Z (fun E => AOps.j Z Z .N) ?_
   refine b7.skip Z (b7.nil)
   refine d5.cons Z Z ?_ ?_
   refine b7.go Z Z (fun E => S.nilCheckE Z Z (by simpa only [List.length_set] using f8 hen62) Z .N) ?_
   refine b7.skip Z (b7.nil)
   refine d5.cons Z Z ?_ ?_
   refine b7.go Z Z (fun E => S.fieldE Z Z Z (by simpa only [List.length_set] using f8 hen62) Z .N) ?_
   refine b7.skip Z (b7.nil)
   refine d5.cons Z Z ?_ ?_
   refine b7.go Z Z (fun E => AOps.E Z Z (m5 Z (S0 (S0 hen62))) Z Z Z .N) ?_
   refine b7.skip Z (b7.nil)
   refine d5.skip Z (d5.nil)
  dsimp only [i5]
  refine b6 (.ret (e6 ?_))
  obtain rfl := oi h
  exact ⟨⟨[], [.one (.cells 3 [[.own 4 0 a45.1.length, .map 2, int (w64 (time + 1))]]), .dead, .one (pmap 5 vU l5), .dead, .one (prow 5 a45.1), pool 4 b9 a45.2]⟩, Sub.env trivial, Done.ret Z ⟨Z, Z⟩⟩
 ·refine AWP.skip (b6 (.q ?_))
  obtain ⟨u63, hu63, u64, hu64, h⟩ := b2 h
  refine AWP.u (.j Z Z (.j Z Z (.j Z Z (.aj Z Z Z (W.fieldAddr Z Z Z Z (.E Z Z Z Z Z Z (W.build Z Z Z Z (W.box Z Z Z Z Z Z (.sub (Sub.move (env' := [(0, .c (.ptr 0 0 0)), (1, .c (.imm (.val (.int .u32 item)))), (2, .c (int key)), (7, .c (bool (Option.isSome (mget l5 item)))), (9, .c (.ptr 0 0 0)), (10, .c (.ptr 0 0 0)), (11, .c (.ptr 0 0 2)), (12, .c (int time)), (13, .c (int (w64 (time + 1)))), (14, .c (.ptr 0 0 0)), (15, .c (.ptr 0 0 2)), (17, .c (.ptr 0 0 0)), (18, .c (.ptr 0 0 0)), (19, .c (.ptr 0 0 1)), (20, .c (.map 2)), (21, .c (.imm (.val (.int .u32 item)))), (24, .c (bool (Option.isSome (mget l5 item)))), (25, .c (bool (Option.isSome (mget l5 item)))), (46, .c (.imm (.val (.int .u32 item)))), (47, .c (int key)), (48, .c (.ptr 0 0 0)), (49, .c (.ptr 0 0 0)), (50, .c (.ptr 0 0 2)), (51, .c (int (w64 (time + 1)))), (52, .agg [.imm (.val (.int .u32 item)), int key, int (w64 (time + 1)), int 0]), (53, .c (.ptr (5, [(l6.length : Int).toNat]) 0 0))]) (σ' := [.one (.cells 3 [[.own 4 0 l.length, .map 2, int (w64 (time + 1))]]), .dead, .one (pmap 5 vU l5), .dead, .one (prow 5 l), pool 4 b9 (l6 ++ [(⟨item, key, w64 (time + 1), 0⟩ : d4)])]) (5, [l6.length]) (6, []) Z Z Z ⟨Z, Z, Z, Z, Z, Z, Z, Z, Z, Z, Z, Z, Z, Z, Z, Z, Z, Z, Z, Z, Z, Z, Z, Z, Z, ptr_adopt, Y⟩ Z ⟨⟨Z, Z⟩, trivial, ⟨j5 Z, U6 Z (pmap_adopt hu63) aa0⟩, trivial, ⟨g9 Z, U6 Z (prow_adopt hu64) aa0⟩, (n9.adopt Z Z), Y⟩) (.v Z Z (.nil (b6 (.q (.u (.j Z Z (.aj Z Z Z (W.fieldAddr Z Z Z Z (.E Z Z Z Z Z Z (.j Z Z (.j Z Z (S.mapUpdateP (fk := vU) (k := item) (a := (l6.length : Int)) C2 Z Z Z Z Z (.nil (b6 ?_)))))))))))))))))))))))
  obtain ⟨a66, ha66, h⟩ := bind_some h
  refine AWP.u (.j Z Z (.aj Z Z Z (W.fieldAddr Z Z Z Z (S.mkIfc Z Z Z (.j Z Z (S.mkIfc Z Z Z (.callF (r2 := .tup []) (σ'' := [.one (.cells 3 [[.own 8 0 a66.2.length, .map 2, int (w64 (time + 1))]]), .dead, .one (pmap 5 vU (mset l5 item (l6.length : Int))), .dead, .dead, pool 4 b9 a66.1, .dead, .dead, .one (prow 5 a66.2)]) Z Z Z (FnOk.lend [0, 5, 4, 2] (P7 ha66) Z Z Z Z Z Z (by exact ⟨(.one Z), (.any k7), (.one (g9 Z)), (.one (j5 Z)), Y⟩) Z (by exact ⟨(.live Z (.one Z)), (.live Z RenE.pool), (.live Z (.one (f9 fun _ => Z))), (.live Z (.one (j8 fun _ => Z))), Y⟩) Z Z (by exact ⟨(.new 0 Z Z (.one Z)), .dead, (.new 3 Z Z (.one (j8 fun _ => Z))), .dead, .dead, (.new 1 Z Z RenE.pool), .dead, .dead, (.new 6 Z Z (.one (f9 fun _ => Z))), Y⟩)) (.nil ?_))))))))
  obtain rfl := oi h
  exact ⟨⟨[], [.one (.cells 3 [[.own 4 0 a66.2.length, .map 2, int (w64 (time + 1))]]), .dead, .one (pmap 5 vU (mset l5 item (l6.length : Int))), .dead, .one (prow 5 a66.2), pool 4 b9 a66.1]⟩, (Sub.move (env' := []) (σ' := [.one (.cells 3 [[.own 4 0 a66.2.length, .map 2, int (w64 (time + 1))]]), .dead, .one (pmap 5 vU (mset l5 item (l6.length : Int))), .dead, .one (prow 5 a66.2), pool 4 b9 a66.1, .dead, .dead]) 4 8 Z Z Z trivial Z ⟨⟨Z, Z⟩, trivial, ⟨j5 Z, t1 Z G4⟩, trivial, ⟨g9 Z, t1 Z G5⟩, (n9.pool Z), trivial, trivial, Y⟩).trans (Sub.cut trivial Z ⟨.one Z, .dead, (.one (j5 Z)), .dead, (.one (g9 Z)), (.any k7), Y⟩ Z), Done.normal Z ⟨Z, Z⟩⟩
theorem W5 {time : Int} {l : List Int} {l3 : List (Int × Int)} {l4 : List d4} {r : Unit} (h : y6 time l l3 l4 = some r) : FnOk prog 63 [.c (.ptr 0 0 0)] (X4 time l l3 l4) (fun tt ss => tt = .c (int (l.length : Int)) ∧ ss = [.one (.cells 3 [[.own 1 0 l.length, .map 2, int time]]), .one (prow 3 l), .one (pmap 3 vU l3), pool 4 b9 l4]) := by
 refine FnOk.enter (rs := [.t 2]) func63 Z ntmps63 results63 Z ⟨trivial, Y⟩ (by kernel_rfl) Z ?_
 refine AWP.weak ?_
 unfold y6 at h
 refine AWP.q (.u (.v Z Z (.nil (b6 (.q (.u (.j Z Z (.aj Z Z Z (W.fieldAddr Z Z Z Z (.E Z Z Z Z Z Z (.lenOwnB Z Z Z (fun hl7 => .v Z Z (.nil (b6 (.ret ?_)))))))))))))))
 obtain rfl := oi h
 exact ⟨⟨[(2, .c (int (l.length : Int)))], [.one (.cells 3 [[.own 1 0 l.length, .map 2, int time]]), .one (prow 3 l), .one (pmap 3 vU l3), pool 4 b9 l4]⟩, Sub.env ⟨Z, Y⟩, Done.ret Z ⟨Z, Z⟩⟩
end Ab
end
