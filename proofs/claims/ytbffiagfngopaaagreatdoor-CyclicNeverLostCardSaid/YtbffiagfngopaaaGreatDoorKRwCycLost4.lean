/-
  Texts that the proof stands on.
-/
import Derived.Test.YtbffiagfngopaaaGreatDoorKRwCycLost3
set_option linter.all false
section
namespace Ab
open Go Go.Proofs
set_option maxHeartbeats 4000000
set_option linter.all false
attribute [local irreducible] AWP AOps thn inB Done PureOk FreshOk Sub
theorem strips_IsSet_ok {l : List Int} {nv : Int} {r : Bool} (h : strips_IsSet l nv = some r) : PureOk Tryz.prog 79 [.c (row 1 intI l), .c (int nv)] (.c (bool r)) := by
 unfold PureOk
 refine FnOk.enter (rs := [.t 4]) Tryz.func79 rfl Tryz.ntmps79 Tryz.results79 rfl ⟨trivial, trivial⟩ (by kernel_rfl) rfl ?_
 unfold strips_IsSet at h
 refine AWP.seq (.region (.assign rfl rfl (.nil (thn_normal (.seq (.seq (.region (.move rfl rfl (S.len rfl rfl (fun hl8 => .move rfl rfl (.nil (thn_normal (.block ?_)))))))))))))
 obtain ⟨oo, ho1, h⟩ := bind_some h
 refine AWP.rngS ho1 (fun t3 _ => ⟨[(0, .c (row 1 intI l)), (1, .c (int nv)), (7, .c (row 1 intI l)), (8, .c (int (l.length : Int))), (9, .c (int t3))], []⟩) (fun o e st => match o with | .inl _ => e = .exit 0 ∧ Sub [] st ⟨[], []⟩ | .inr x => e = .ret ∧ Done [.t 4] (fun t _ => t = .c (bool x)) .ret st) ?_ ?_ ?_ ?_
 ·try dsimp only
  exact Sub.env ⟨rfl, rfl, rfl, rfl, rfl, trivial⟩
 ·intro t3 s hlot3 hltt3 _
  try dsimp only
  refine AWP.seq (.region (.lss rfl rfl rfl (.nil (thn_normal (.seq (.condNP rfl hltt3 (.exit (thn_exit (thn_exit ⟨rfl, ?_⟩)))))))))
  exact Sub.env trivial
 ·intro t3 s o hlot3 hltt3 h
  unfold strips_IsSet_l1 at h
  try dsimp only at h ⊢
  refine AWP.seq (.region (.lss rfl rfl rfl (.nil (thn_normal (.seq (.condP rfl hltt3 (.skip (thn_normal (.seq (.block (.seq ?_)))))))))))
  obtain ⟨a12, ha12, h⟩ := bind_some h
  refine AWP.region (.move rfl rfl (S.idx ha12 rfl rfl rfl rfl (.loadI rfl rfl rfl rfl (.assign rfl rfl (.assign rfl rfl (.nil (thn_normal ?_)))))))
  obtain ⟨t4, hx5, h⟩ := bind_some h
  refine AWP.seqJ (⟨[(0, .c (row 1 intI l)), (1, .c (int nv)), (7, .c (row 1 intI l)), (8, .c (int (l.length : Int))), (9, .c (int t3)), (33, .c (bool t4))], []⟩) ?_ ?_
  ·rcases Bool.eq_false_or_eq_true (decide (a12 < 0)) with hb6 | hb6
   ·replace hx5 := iteDT hb6 hx5
    refine AWP.region (.move rfl rfl (.lss rfl rfl rfl (.move rfl rfl (.guardF rfl rfl rfl hb6 (.guardF rfl rfl rfl hb6 (.guardF rfl rfl rfl hb6 (.pickT rfl hb6 rfl rfl (.move rfl rfl (.guardF rfl rfl rfl rfl (.guardF rfl rfl rfl rfl (.guardF rfl rfl rfl rfl (.guardSkip rfl rfl rfl (.guardSkip rfl rfl rfl (.guardSkip rfl rfl rfl (.guardSkip rfl rfl rfl (.guardSkip rfl rfl rfl (.guardSkip rfl rfl rfl (.guardSkip rfl rfl rfl (.guardF rfl rfl rfl rfl (.pickT rfl rfl rfl rfl (.nil ?_)))))))))))))))))))))
    have ej := Option.some.inj hx5
    subst ej
    refine thn_normal (Sub.env ⟨rfl, rfl, rfl, rfl, rfl, rfl, trivial⟩)
   ·replace hx5 := iteDF hb6 hx5
    rcases Bool.eq_false_or_eq_true (decide (nv ≤ a12)) with hb7 | hb7
    ·replace hx5 := iteDT hb7 hx5
     refine AWP.region (.move rfl rfl (.lss rfl rfl rfl (.move rfl rfl (.guardT rfl rfl rfl hb6 (.move rfl rfl (.guardT rfl rfl rfl hb6 (.move rfl rfl (.guardT rfl rfl rfl hb6 (.geq rfl rfl rfl (.pickF rfl hb6 rfl rfl (.move rfl rfl (.guardF rfl rfl rfl hb7 (.guardF rfl rfl rfl hb7 (.guardF rfl rfl rfl hb7 (.guardSkip rfl rfl rfl (.guardSkip rfl rfl rfl (.guardSkip rfl rfl rfl (.guardSkip rfl rfl rfl (.guardSkip rfl rfl rfl (.guardSkip rfl rfl rfl (.guardSkip rfl rfl rfl (.guardF rfl rfl rfl hb7 (.pickT rfl hb7 rfl rfl (.nil ?_))))))))))))))))))))))))
     have ej := Option.some.inj hx5
     subst ej
     refine thn_normal (Sub.env ⟨rfl, rfl, rfl, rfl, rfl, rfl, trivial⟩)
    ·replace hx5 := iteDF hb7 hx5
     rcases Bool.eq_false_or_eq_true (decide (0 < t3)) with hb8 | hb8
     ·replace hx5 := iteDT hb8 hx5
      obtain ⟨a29, ha29, hx5⟩ := bind_some hx5
      refine AWP.region (.move rfl rfl (.lss rfl rfl rfl (.move rfl rfl (.guardT rfl rfl rfl hb6 (.move rfl rfl (.guardT rfl rfl rfl hb6 (.move rfl rfl (.guardT rfl rfl rfl hb6 (.geq rfl rfl rfl (.pickF rfl hb6 rfl rfl (.move rfl rfl (.guardT rfl rfl rfl hb7 (.move rfl rfl (.guardT rfl rfl rfl hb7 (.gtr rfl rfl rfl (.guardT rfl rfl rfl hb7 (.move rfl rfl (.guardT rfl rfl rfl hb8 (.move rfl rfl (.guardT rfl rfl rfl hb8 (.move rfl rfl (.guardT rfl rfl rfl hb8 (.move rfl rfl (.guardT rfl rfl rfl hb8 (.sub' rfl rfl rfl (by omega) (.guardT rfl rfl rfl hb8 (S.idx ha29 rfl rfl rfl rfl (.guardT rfl rfl rfl hb8 (.loadI rfl rfl rfl rfl (.guardT rfl rfl rfl hb8 (.leq rfl rfl rfl (.guardT rfl rfl rfl hb7 (.pickT rfl hb8 rfl rfl (.pickF rfl hb7 rfl rfl (.nil ?_)))))))))))))))))))))))))))))))))))
      have ej := Option.some.inj hx5
      subst ej
      refine thn_normal (Sub.env ⟨rfl, rfl, rfl, rfl, rfl, rfl, trivial⟩)
     ·replace hx5 := iteDF hb8 hx5
      refine AWP.region (.move rfl rfl (.lss rfl rfl rfl (.move rfl rfl (.guardT rfl rfl rfl hb6 (.move rfl rfl (.guardT rfl rfl rfl hb6 (.move rfl rfl (.guardT rfl rfl rfl hb6 (.geq rfl rfl rfl (.pickF rfl hb6 rfl rfl (.move rfl rfl (.guardT rfl rfl rfl hb7 (.move rfl rfl (.guardT rfl rfl rfl hb7 (.gtr rfl rfl rfl (.guardT rfl rfl rfl hb7 (.move rfl rfl (.guardF rfl rfl rfl hb8 (.guardF rfl rfl rfl hb8 (.guardF rfl rfl rfl hb8 (.guardF rfl rfl rfl hb8 (.guardF rfl rfl rfl hb8 (.guardF rfl rfl rfl hb8 (.guardF rfl rfl rfl hb8 (.guardT rfl rfl rfl hb7 (.pickF rfl hb8 rfl rfl (.pickF rfl hb7 rfl rfl (.nil ?_))))))))))))))))))))))))))))
      have ej := Option.some.inj hx5
      subst ej
      refine thn_normal (Sub.env ⟨rfl, rfl, rfl, rfl, rfl, rfl, trivial⟩)
  ·refine AWP.iteB rfl h (fun hc9 h => ?_) (fun hc9 h => ?_)
   ·refine AWP.seq (.region (.assign rfl rfl (.nil (thn_normal (.ret (inB_ret (thn_ret ?_)))))))
    have ej := Option.some.inj h
    subst ej
    refine thn_ret ⟨_, rfl, rfl, ?_⟩
    exact Done.ret rfl rfl
   ·refine AWP.skip (inB_normal (thn_normal (.region (.add rfl rfl rfl (by omega) (.move rfl rfl (.nil ?_))))))
    have ej := Option.some.inj h
    subst ej
    refine thn_normal ⟨_, rfl, ?_⟩
    exact Sub.env ⟨rfl, rfl, rfl, rfl, rfl, trivial⟩
 ·intro e s hq
  rcases oo with u | x
  ·try dsimp only at h hq
   obtain ⟨rfl, hs⟩ := hq
   refine ⟨_, hs, ?_⟩
   refine inB_exit (thn_normal (.seq (.region (.assign rfl rfl (.nil (thn_normal (.ret ?_)))))))
   have ej := Option.some.inj h
   subst ej
   exact Done.ret rfl rfl
  ·try dsimp only at h hq
   obtain ⟨rfl, hs⟩ := hq
   refine ⟨_, Sub.refl _ _, ?_⟩
   refine inB_ret (thn_ret ?_)
   have ej := Option.some.inj h
   subst ej
   exact hs
theorem cmp_isNaN_int_ok {xv : Int} {r : Bool} (h : cmp_isNaN_int xv = some r) : PureOk Tryz.prog 113 [.c (int xv)] (.c (bool r)) := by
 unfold PureOk
 refine FnOk.enter (rs := [.t 2]) Tryz.func113 rfl Tryz.ntmps113 Tryz.results113 rfl ⟨trivial, trivial⟩ (by kernel_rfl) rfl ?_
 unfold cmp_isNaN_int at h
 refine AWP.seq (.region (.assign rfl rfl (.nil (thn_normal (.seq (.region (.move rfl rfl (.move rfl rfl (.neq rfl rfl rfl (.assign rfl rfl (.nil (thn_normal (.ret ?_)))))))))))))
 have ej := Option.some.inj h
 subst ej
 exact Done.ret rfl rfl
theorem cmp_Less_int_ok {xv : Int} {yv : Int} {r : Bool} (h : cmp_Less_int xv yv = some r) : PureOk Tryz.prog 105 [.c (int xv), .c (int yv)] (.c (bool r)) := by
 unfold PureOk
 refine FnOk.enter (rs := [.t 4]) Tryz.func105 rfl Tryz.ntmps105 Tryz.results105 rfl ⟨trivial, trivial⟩ (by kernel_rfl) rfl ?_
 unfold cmp_Less_int at h
 refine AWP.seq (.region (.assign rfl rfl (.nil (thn_normal ?_))))
 obtain ⟨t3, hx4, h⟩ := bind_some h
 refine AWP.seqJ (⟨[(4, .c (bool t3))], []⟩) ?_ ?_
 ·obtain ⟨a6, ha6, hx4⟩ := bind_some hx4
  rcases Bool.eq_false_or_eq_true (a6) with hb5 | hb5
  ·replace hx4 := iteBT hb5 hx4
   obtain ⟨a9, ha9, hx4⟩ := bind_some hx4
   rcases Bool.eq_false_or_eq_true (!a9) with hb6 | hb6
   ·replace hx4 := iteBT hb6 hx4
    refine AWP.region (.move rfl rfl (.callR rfl rfl rfl rfl (cmp_isNaN_int_ok ha6) rfl (.move rfl rfl (.guardT rfl rfl rfl hb5 (.move rfl rfl (.guardT rfl rfl rfl hb5 (.callR rfl rfl rfl rfl (cmp_isNaN_int_ok ha9) rfl (.guardT rfl rfl rfl hb5 (.not rfl rfl (.pickT rfl hb5 rfl rfl (.move rfl rfl (.guardF rfl rfl rfl hb6 (.guardF rfl rfl rfl hb6 (.guardF rfl rfl rfl hb6 (.pickT rfl hb6 rfl rfl (.assign rfl rfl (.nil ?_)))))))))))))))))
    have ej := Option.some.inj hx4
    subst ej
    refine thn_normal (Sub.env ⟨rfl, trivial⟩)
   ·replace hx4 := iteBF hb6 hx4
    refine AWP.region (.move rfl rfl (.callR rfl rfl rfl rfl (cmp_isNaN_int_ok ha6) rfl (.move rfl rfl (.guardT rfl rfl rfl hb5 (.move rfl rfl (.guardT rfl rfl rfl hb5 (.callR rfl rfl rfl rfl (cmp_isNaN_int_ok ha9) rfl (.guardT rfl rfl rfl hb5 (.not rfl rfl (.pickT rfl hb5 rfl rfl (.move rfl rfl (.guardT rfl rfl rfl hb6 (.move rfl rfl (.guardT rfl rfl rfl hb6 (.move rfl rfl (.guardT rfl rfl rfl hb6 (.lss rfl rfl rfl (.pickF rfl hb6 rfl rfl (.assign rfl rfl (.nil ?_))))))))))))))))))))
    have ej := Option.some.inj hx4
    subst ej
    refine thn_normal (Sub.env ⟨rfl, trivial⟩)
  ·replace hx4 := iteBF hb5 hx4
   refine AWP.region (.move rfl rfl (.callR rfl rfl rfl rfl (cmp_isNaN_int_ok ha6) rfl (.move rfl rfl (.guardF rfl rfl rfl hb5 (.guardF rfl rfl rfl hb5 (.guardF rfl rfl rfl hb5 (.pickF rfl hb5 rfl rfl (.move rfl rfl (.guardT rfl rfl rfl rfl (.move rfl rfl (.guardT rfl rfl rfl rfl (.move rfl rfl (.guardT rfl rfl rfl rfl (.lss rfl rfl rfl (.pickF rfl rfl rfl rfl (.assign rfl rfl (.nil ?_)))))))))))))))))
   have ej := Option.some.inj hx4
   subst ej
   refine thn_normal (Sub.env ⟨rfl, trivial⟩)
 ·refine AWP.ret ?_
  have ej := Option.some.inj h
  subst ej
  exact Done.ret rfl rfl
theorem slices_isNaN_int_ok {xv : Int} {r : Bool} (h : slices_isNaN_int xv = some r) : PureOk Tryz.prog 106 [.c (int xv)] (.c (bool r)) := by
 unfold PureOk
 refine FnOk.enter (rs := [.t 2]) Tryz.func106 rfl Tryz.ntmps106 Tryz.results106 rfl ⟨trivial, trivial⟩ (by kernel_rfl) rfl ?_
 unfold slices_isNaN_int at h
 refine AWP.seq (.region (.assign rfl rfl (.nil (thn_normal (.seq (.region (.move rfl rfl (.move rfl rfl (.neq rfl rfl rfl (.assign rfl rfl (.nil (thn_normal (.ret ?_)))))))))))))
 have ej := Option.some.inj h
 subst ej
 exact Done.ret rfl rfl
theorem slices_BinarySearch_int_int_ok {xv : List Int} {target : Int} {r : Int × Bool} (h : slices_BinarySearch_int_int xv target = some r) : PureOk Tryz.prog 89 [.c (row 1 intI xv), .c (int target)] (.tup [.c (int r.1), .c (bool r.2)]) := by
 unfold PureOk
 refine FnOk.enter (rs := [.t 4, .t 5]) Tryz.func89 rfl Tryz.ntmps89 Tryz.results89 rfl ⟨trivial, trivial, trivial⟩ (by kernel_rfl) rfl ?_
 unfold slices_BinarySearch_int_int at h
 refine AWP.seq (.region (.assign rfl rfl (.assign rfl rfl (.nil (thn_normal (.seq (.region (.move rfl rfl (S.len rfl rfl (fun hl11 => .assign rfl rfl (.nil (thn_normal (.seq (.region (.move rfl rfl (.assign rfl rfl (.assign rfl rfl (.nil (thn_normal (.seq (.block ?_)))))))))))))))))))))
 obtain ⟨iv5, ho1, h⟩ := bind_some h
 refine AWP.loopS ho1 (fun (iv3, j4) => ⟨[(0, .c (row 1 intI xv)), (1, .c (int target)), (6, .c (int (xv.length : Int))), (7, .c (int iv3)), (8, .c (int j4))], []⟩) (fun iv5 e st => e = .exit 0 ∧ Sub [] st ⟨[(0, .c (row 1 intI xv)), (1, .c (int target)), (6, .c (int (xv.length : Int))), (7, .c (int iv5))], []⟩) ?_ ?_ ?_
 ·try dsimp only
  exact Sub.env ⟨rfl, rfl, rfl, rfl, rfl, trivial⟩
 ·intro s o h
  obtain ⟨iv3, j4⟩ := s
  unfold slices_BinarySearch_int_int_l1 at h
  try dsimp only at h ⊢
  refine AWP.seq (.seq (.region (.move rfl rfl (.move rfl rfl (.lss rfl rfl rfl (.nil (thn_normal (.ite rfl h (fun hc6 h => ?_) (fun hc6 h => ?_)))))))))
  ·refine AWP.skip (thn_normal (.block (.seq (.region (.move rfl rfl (.move rfl rfl (S.add rfl rfl rfl (.convInt rfl rfl (.shr rfl rfl rfl (by decide) rfl (.convInt rfl rfl (.assign rfl rfl (.nil (thn_normal (.seq ?_))))))))))))))
   obtain ⟨a24, ha24, h⟩ := bind_some h
   obtain ⟨a27, ha27, h⟩ := bind_some h
   refine AWP.region (.move rfl rfl (.move rfl rfl (S.idx ha24 rfl rfl rfl rfl (.loadI rfl rfl rfl rfl (.move rfl rfl (.callR rfl rfl rfl rfl (cmp_Less_int_ok ha27) rfl (.nil (thn_normal (.iteB rfl h (fun hc7 h => ?_) (fun hc7 h => ?_))))))))))
   ·refine AWP.region (.move rfl rfl (S.add rfl rfl rfl (.assign rfl rfl (.nil (inB_normal ?_)))))
    have ej := Option.some.inj h
    subst ej
    refine thn_normal ⟨_, rfl, ?_⟩
    exact Sub.env ⟨rfl, rfl, rfl, rfl, rfl, trivial⟩
   ·refine AWP.region (.move rfl rfl (.assign rfl rfl (.nil (inB_normal ?_))))
    have ej := Option.some.inj h
    subst ej
    refine thn_normal ⟨_, rfl, ?_⟩
    exact Sub.env ⟨rfl, rfl, rfl, rfl, rfl, trivial⟩
  ·refine AWP.exit (thn_exit ?_)
   have ej := Option.some.inj h
   subst ej
   refine thn_exit ⟨_, rfl, rfl, ?_⟩
   exact Sub.env ⟨rfl, rfl, rfl, rfl, trivial⟩
 ·intro e s hq
  obtain ⟨rfl, hs⟩ := hq
  refine ⟨_, hs, ?_⟩
  refine inB_exit (thn_normal ?_)
  obtain ⟨t8, hx9, h⟩ := bind_some h
  refine AWP.seqJ (⟨[(4, .c (int iv5)), (5, .c (bool t8))], []⟩) ?_ ?_
  ·rcases Bool.eq_false_or_eq_true (decide (iv5 < (xv.length : Int))) with hb10 | hb10
   ·replace hx9 := iteDT hb10 hx9
    obtain ⟨a38, ha38, hx9⟩ := bind_some hx9
    rcases Bool.eq_false_or_eq_true (decide (a38 = target)) with hb11 | hb11
    ·replace hx9 := iteDT hb11 hx9
     refine AWP.region (.move rfl rfl (.move rfl rfl (.move rfl rfl (.lss rfl rfl rfl (.move rfl rfl (.guardT rfl rfl rfl hb10 (.move rfl rfl (.guardT rfl rfl rfl hb10 (.move rfl rfl (.guardT rfl rfl rfl hb10 (S.idx ha38 rfl rfl rfl rfl (.guardT rfl rfl rfl hb10 (.loadI rfl rfl rfl rfl (.guardT rfl rfl rfl hb10 (.move rfl rfl (.guardT rfl rfl rfl hb10 (.eql rfl rfl rfl (.guardT rfl rfl rfl hb10 (.move rfl rfl (.guardF rfl rfl rfl hb11 (.guardF rfl rfl rfl hb11 (.guardF rfl rfl rfl hb11 (.guardF rfl rfl rfl hb11 (.guardF rfl rfl rfl hb11 (.guardF rfl rfl rfl hb11 (.guardSkip rfl rfl rfl (.guardSkip rfl rfl rfl (.guardF rfl rfl rfl hb11 (.guardT rfl rfl rfl hb10 (.pickT rfl hb11 rfl rfl (.pickT rfl hb10 rfl rfl (.assign rfl rfl (.assign rfl rfl (.nil ?_))))))))))))))))))))))))))))))))))
     have ej := Option.some.inj hx9
     subst ej
     refine thn_normal (Sub.env ⟨rfl, rfl, trivial⟩)
    ·replace hx9 := iteDF hb11 hx9
     obtain ⟨a45, ha45, hx9⟩ := bind_some hx9
     obtain ⟨a47, ha47, hx9⟩ := bind_some hx9
     rcases Bool.eq_false_or_eq_true (a47) with hb12 | hb12
     ·replace hx9 := iteBT hb12 hx9
      obtain ⟨a50, ha50, hx9⟩ := bind_some hx9
      refine AWP.region (.move rfl rfl (.move rfl rfl (.move rfl rfl (.lss rfl rfl rfl (.move rfl rfl (.guardT rfl rfl rfl hb10 (.move rfl rfl (.guardT rfl rfl rfl hb10 (.move rfl rfl (.guardT rfl rfl rfl hb10 (S.idx ha38 rfl rfl rfl rfl (.guardT rfl rfl rfl hb10 (.loadI rfl rfl rfl rfl (.guardT rfl rfl rfl hb10 (.move rfl rfl (.guardT rfl rfl rfl hb10 (.eql rfl rfl rfl (.guardT rfl rfl rfl hb10 (.move rfl rfl (.guardT rfl rfl rfl hb11 (.move rfl rfl (.guardT rfl rfl rfl hb11 (.move rfl rfl (.guardT rfl rfl rfl hb11 (S.idx ha45 rfl rfl rfl rfl (.guardT rfl rfl rfl hb11 (.loadI rfl rfl rfl rfl (.guardT rfl rfl rfl hb11 (.callR rfl rfl rfl rfl (slices_isNaN_int_ok ha47) rfl (.guardT rfl rfl rfl hb11 (.move rfl rfl (.guardT rfl rfl rfl hb12 (.move rfl rfl (.guardT rfl rfl rfl hb12 (.callR rfl rfl rfl rfl (slices_isNaN_int_ok ha50) rfl (.guardT rfl rfl rfl hb11 (.pickT rfl hb12 rfl rfl (.guardT rfl rfl rfl hb10 (.pickF rfl hb11 rfl rfl (.pickT rfl hb10 rfl rfl (.assign rfl rfl (.assign rfl rfl (.nil ?_)))))))))))))))))))))))))))))))))))))))))))
      have ej := Option.some.inj hx9
      subst ej
      refine thn_normal (Sub.env ⟨rfl, rfl, trivial⟩)
     ·replace hx9 := iteBF hb12 hx9
      refine AWP.region (.move rfl rfl (.move rfl rfl (.move rfl rfl (.lss rfl rfl rfl (.move rfl rfl (.guardT rfl rfl rfl hb10 (.move rfl rfl (.guardT rfl rfl rfl hb10 (.move rfl rfl (.guardT rfl rfl rfl hb10 (S.idx ha38 rfl rfl rfl rfl (.guardT rfl rfl rfl hb10 (.loadI rfl rfl rfl rfl (.guardT rfl rfl rfl hb10 (.move rfl rfl (.guardT rfl rfl rfl hb10 (.eql rfl rfl rfl (.guardT rfl rfl rfl hb10 (.move rfl rfl (.guardT rfl rfl rfl hb11 (.move rfl rfl (.guardT rfl rfl rfl hb11 (.move rfl rfl (.guardT rfl rfl rfl hb11 (S.idx ha45 rfl rfl rfl rfl (.guardT rfl rfl rfl hb11 (.loadI rfl rfl rfl rfl (.guardT rfl rfl rfl hb11 (.callR rfl rfl rfl rfl (slices_isNaN_int_ok ha47) rfl (.guardT rfl rfl rfl hb11 (.move rfl rfl (.guardF rfl rfl rfl hb12 (.guardF rfl rfl rfl hb12 (.guardT rfl rfl rfl hb11 (.pickF rfl hb12 rfl rfl (.guardT rfl rfl rfl hb10 (.pickF rfl hb11 rfl rfl (.pickT rfl hb10 rfl rfl (.assign rfl rfl (.assign rfl rfl (.nil ?_)))))))))))))))))))))))))))))))))))))))))
      have ej := Option.some.inj hx9
      subst ej
      refine thn_normal (Sub.env ⟨rfl, rfl, trivial⟩)
   ·replace hx9 := iteDF hb10 hx9
    refine AWP.region (.move rfl rfl (.move rfl rfl (.move rfl rfl (.lss rfl rfl rfl (.move rfl rfl (.guardF rfl rfl rfl hb10 (.guardF rfl rfl rfl hb10 (.guardF rfl rfl rfl hb10 (.guardF rfl rfl rfl hb10 (.guardF rfl rfl rfl hb10 (.guardF rfl rfl rfl hb10 (.guardF rfl rfl rfl hb10 (.guardSkip rfl rfl rfl (.guardSkip rfl rfl rfl (.guardSkip rfl rfl rfl (.guardSkip rfl rfl rfl (.guardSkip rfl rfl rfl (.guardSkip rfl rfl rfl (.guardSkip rfl rfl rfl (.guardSkip rfl rfl rfl (.guardSkip rfl rfl rfl (.guardF rfl rfl rfl hb10 (.pickF rfl hb10 rfl rfl (.assign rfl rfl (.assign rfl rfl (.nil ?_))))))))))))))))))))))))))
    have ej := Option.some.inj hx9
    subst ej
    refine thn_normal (Sub.env ⟨rfl, rfl, trivial⟩)
  ·refine AWP.ret ?_
   have ej := Option.some.inj h
   subst ej
   exact Done.ret rfl rfl
theorem strips_Meets_1_ok {xv : Int} {c2 : List Int} {r : Bool} (h : strips_Meets_1 xv c2 = some r) : PureOk Tryz.prog 128 [.c (int xv), .c (.imm (.ipt [.sl 1 (List.map intI c2)]))] (.c (bool r)) := by
 unfold PureOk
 refine FnOk.enter (rs := [.t 3]) Tryz.func128 rfl Tryz.ntmps128 Tryz.results128 rfl ⟨trivial, trivial⟩ (by kernel_rfl) rfl ?_
 unfold strips_Meets_1 at h
 refine AWP.seq (.region (.assign rfl rfl (.nil (thn_normal (.seq ?_)))))
 obtain ⟨a9, ha9, h⟩ := bind_some h
 refine AWP.region (.loadI rfl rfl rfl rfl (.move rfl rfl (.callR rfl rfl rfl rfl (slices_BinarySearch_int_int_ok ha9) rfl (.move rfl rfl (.extract rfl rfl rfl (.extract rfl rfl rfl (.assign rfl rfl (.assign rfl rfl (.nil (thn_normal (.seq (.region (.move rfl rfl (.assign rfl rfl (.nil (thn_normal (.ret ?_)))))))))))))))))
 have ej := Option.some.inj h
 subst ej
 exact Done.ret rfl rfl
theorem slices_IndexFunc_int_int_ok {sv : List Int} {fv : Int → Option Bool} {r : Int} {fvfv : FuncId} {cvfv : List C} (hcvfv : C.okL 0 cvfv = true) (hfv : ∀ {y1 : Int} {z : Bool}, fv y1 = some z → PureOk Tryz.prog fvfv ([.c (int y1)] ++ cvfv.map T.c) (.c (bool z))) (h : slices_IndexFunc_int_int sv fv = some r) : PureOk Tryz.prog 117 [.c (row 1 intI sv), .c (.fn fvfv cvfv)] (.c (int r)) := by
 unfold PureOk
 refine FnOk.enter (rs := [.t 4]) Tryz.func117 rfl Tryz.ntmps117 Tryz.results117 rfl ⟨trivial, trivial⟩ (by kernel_rfl) rfl ?_
 unfold slices_IndexFunc_int_int at h
 refine AWP.seq (.region (.assign rfl rfl (.nil (thn_normal (.seq (.seq (.region (.move rfl rfl (S.len rfl rfl (fun hl7 => .move rfl rfl (.nil (thn_normal (.block ?_)))))))))))))
 obtain ⟨oo, ho1, h⟩ := bind_some h
 refine AWP.rngS ho1 (fun t3 _ => ⟨[(0, .c (row 1 intI sv)), (1, .c (.fn fvfv cvfv)), (7, .c (int (sv.length : Int))), (8, .c (int t3))], []⟩) (fun o e st => match o with | .inl _ => e = .exit 0 ∧ Sub [] st ⟨[], []⟩ | .inr x => e = .ret ∧ Done [.t 4] (fun t _ => t = .c (int x)) .ret st) ?_ ?_ ?_ ?_
 ·try dsimp only
  exact Sub.env ⟨rfl, rfl, rfl, rfl, trivial⟩
 ·intro t3 s hlot3 hltt3 _
  try dsimp only
  refine AWP.seq (.region (.lss rfl rfl rfl (.nil (thn_normal (.seq (.condNP rfl hltt3 (.exit (thn_exit (thn_exit ⟨rfl, ?_⟩)))))))))
  exact Sub.env trivial
 ·intro t3 s o hlot3 hltt3 h
  unfold slices_IndexFunc_int_int_l1 at h
  try dsimp only at h ⊢
  refine AWP.seq (.region (.lss rfl rfl rfl (.nil (thn_normal (.seq (.condP rfl hltt3 (.skip (thn_normal (.seq (.block (.seq (.region (.move rfl rfl (.assign rfl rfl (.nil (thn_normal (.seq ?_)))))))))))))))))
  obtain ⟨a14, ha14, h⟩ := bind_some h
  obtain ⟨a16, ha16, h⟩ := bind_some h
  refine AWP.region (.move rfl rfl (.move rfl rfl (.move rfl rfl (S.idx ha14 rfl rfl rfl rfl (.loadI rfl rfl rfl rfl (.callR rfl rfl (okL_app rfl hcvfv) rfl (hfv ha16) rfl (.nil (thn_normal (.iteB rfl h (fun hc4 h => ?_) (fun hc4 h => ?_))))))))))
  ·refine AWP.seq (.region (.move rfl rfl (.assign rfl rfl (.nil (thn_normal (.ret (inB_ret (thn_ret ?_))))))))
   have ej := Option.some.inj h
   subst ej
   refine thn_ret ⟨_, rfl, rfl, ?_⟩
   exact Done.ret rfl rfl
  ·refine AWP.skip (inB_normal (thn_normal (.region (.add rfl rfl rfl (by omega) (.move rfl rfl (.nil ?_))))))
   have ej := Option.some.inj h
   subst ej
   refine thn_normal ⟨_, rfl, ?_⟩
   exact Sub.env ⟨rfl, rfl, rfl, rfl, trivial⟩
 ·intro e s hq
  rcases oo with u | x
  ·try dsimp only at h hq
   obtain ⟨rfl, hs⟩ := hq
   refine ⟨_, hs, ?_⟩
   refine inB_exit (thn_normal (.seq (.region (.assign rfl rfl (.nil (thn_normal (.ret ?_)))))))
   have ej := Option.some.inj h
   subst ej
   exact Done.ret rfl rfl
  ·try dsimp only at h hq
   obtain ⟨rfl, hs⟩ := hq
   refine ⟨_, Sub.refl _ _, ?_⟩
   refine inB_ret (thn_ret ?_)
   have ej := Option.some.inj h
   subst ej
   exact hs
theorem slices_ContainsFunc_int_int_ok {sv : List Int} {fv : Int → Option Bool} {r : Bool} {fvfv : FuncId} {cvfv : List C} (hcvfv : C.okL 0 cvfv = true) (hfv : ∀ {y1 : Int} {z : Bool}, fv y1 = some z → PureOk Tryz.prog fvfv ([.c (int y1)] ++ cvfv.map T.c) (.c (bool z))) (h : slices_ContainsFunc_int_int sv fv = some r) : PureOk Tryz.prog 103 [.c (row 1 intI sv), .c (.fn fvfv cvfv)] (.c (bool r)) := by
 unfold PureOk
 refine FnOk.enter (rs := [.t 4]) Tryz.func103 rfl Tryz.ntmps103 Tryz.results103 rfl ⟨trivial, trivial⟩ (by kernel_rfl) rfl ?_
 unfold slices_ContainsFunc_int_int at h
 refine AWP.seq (.region (.assign rfl rfl (.nil (thn_normal (.seq ?_)))))
 obtain ⟨a7, ha7, h⟩ := bind_some h
 refine AWP.region (.move rfl rfl (.move rfl rfl (.callR rfl rfl (by simp [T.okL, T.ok, C.ok, C.okL, hcvfv]) rfl (slices_IndexFunc_int_int_ok hcvfv hfv ha7) rfl (.geq rfl rfl rfl (.assign rfl rfl (.nil (thn_normal (.ret ?_))))))))
 have ej := Option.some.inj h
 subst ej
 exact Done.ret rfl rfl
theorem strips_Meets_ok {av : List Int} {bv : List Int} {r : Bool} (h : strips_Meets av bv = some r) : PureOk Tryz.prog 109 [.c (row 1 intI av), .c (row 1 intI bv)] (.c (bool r)) := by
 unfold PureOk
 refine FnOk.enter (rs := [.t 4]) Tryz.func109 rfl Tryz.ntmps109 Tryz.results109 rfl ⟨trivial, trivial⟩ (by kernel_rfl) rfl ?_
 unfold strips_Meets at h
 refine AWP.seq (.region (W.box rfl rfl rfl rfl rfl rfl (.assign rfl rfl (.nil (thn_normal (.seq ?_))))))
 obtain ⟨a7, ha7, h⟩ := bind_some h
 refine AWP.region (.move rfl rfl (.makeFunc rfl rfl (.callL rfl rfl (.cons (.c .imm) (.cons (.c (.fn (.cons (.ptr (es := [.sl 1 (List.map intI bv)]) rfl rfl (.cons .imm .nil)) .nil))) .nil)) rfl (slices_ContainsFunc_int_int_ok rfl (fun hy => strips_Meets_1_ok hy) ha7) rfl ?_)))
 refine AOps.assign rfl rfl (.nil (thn_normal (.ret ?_)))
 have ej := Option.some.inj h
 subst ej
 exact Done.ret rfl rfl
theorem open_operatorCode_ok {ov : TOpenOperator} {facts : Int} {r : Int} (h : open_operatorCode ov facts = some r) : PureOk Tryz.prog 92 [.agg [row 1 intI ov.pre, row 3 eTOutcome ov.outcomes, int ov.cost], .c (int facts)] (.c (int r)) := by
 unfold PureOk
 refine FnOk.enter (rs := [.t 4]) Tryz.func92 rfl Tryz.ntmps92 Tryz.results92 rfl ⟨trivial, trivial⟩ (by kernel_rfl) rfl ?_
 unfold open_operatorCode at h
 refine AWP.seq (.region (W.box rfl rfl rfl rfl rfl rfl (.assign rfl rfl (.nil (thn_normal (.seq (.block (.seq ?_))))))))
 obtain ⟨a11, ha11, h⟩ := bind_some h
 refine AWP.region (W.fieldAddr rfl rfl rfl rfl (.load rfl rfl rfl rfl rfl rfl (.move rfl rfl (.callR rfl rfl rfl rfl (strips_IsSet_ok ha11) rfl (.not rfl rfl (.assign rfl rfl (.nil (thn_normal (.iteB rfl h (fun hc3 h => ?_) (fun hc3 h => ?_))))))))))
 ·refine AWP.seq (.region (.assign rfl rfl (.nil (thn_normal (.ret (inB_ret (thn_ret ?_)))))))
  have ej := Option.some.inj h
  subst ej
  exact Done.ret rfl rfl
 ·refine AWP.seqJ (⟨[(1, .c (int facts)), (2, .c (.ptr 0 0 0)), (13, .c (bool ((decide (ov.cost < 0)) || (decide (100 < ov.cost)))))], [.one (.cells 3 [[row 1 intI ov.pre, row 3 eTOutcome ov.outcomes, int ov.cost]])]⟩) ?_ ?_
  ·rcases Bool.eq_false_or_eq_true (decide (ov.cost < 0)) with hb1 | hb1
   ·refine AWP.region (W.fieldAddr rfl rfl rfl rfl (.load rfl rfl rfl rfl rfl rfl (.lss rfl rfl rfl (.move rfl rfl (.guardF rfl rfl rfl hb1 (.guardF rfl rfl rfl hb1 (.guardF rfl rfl rfl hb1 (.pickT rfl hb1 rfl rfl (.assign rfl rfl (.nil (thn_normal ?_)))))))))))
    simp only [and_t hb1, or_t hb1, Bool.false_or, Bool.true_or, Bool.false_and, Bool.true_and]
    exact Sub.env ⟨rfl, rfl, rfl, trivial⟩
   ·refine AWP.region (W.fieldAddr rfl rfl rfl rfl (.load rfl rfl rfl rfl rfl rfl (.lss rfl rfl rfl (.move rfl rfl (.guardT rfl rfl rfl hb1 (W.fieldAddr rfl rfl rfl rfl (.guardT rfl rfl rfl hb1 (.load rfl rfl rfl rfl rfl rfl (.guardT rfl rfl rfl hb1 (.gtr rfl rfl rfl (.pickF rfl hb1 rfl rfl (.assign rfl rfl (.nil (thn_normal ?_))))))))))))))
    simp only [and_f hb1, or_f hb1, Bool.false_or, Bool.true_or, Bool.false_and, Bool.true_and]
    exact Sub.env ⟨rfl, rfl, rfl, trivial⟩
  ·refine AWP.iteB rfl h (fun hc4 h => ?_) (fun hc4 h => ?_)
   ·refine AWP.seq (.region (.assign rfl rfl (.nil (thn_normal (.ret (inB_ret (thn_ret ?_)))))))
    have ej := Option.some.inj h
    subst ej
    exact Done.ret rfl rfl
   ·refine AWP.seqJ (⟨[(1, .c (int facts)), (2, .c (.ptr 0 0 0)), (22, .c (bool ((decide ((ov.outcomes.length : Int) = 0)) || (decide (4 < (ov.outcomes.length : Int))))))], [.one (.cells 3 [[row 1 intI ov.pre, row 3 eTOutcome ov.outcomes, int ov.cost]])]⟩) ?_ ?_
    ·rcases Bool.eq_false_or_eq_true (decide ((ov.outcomes.length : Int) = 0)) with hb1 | hb1
     ·refine AWP.region (W.fieldAddr rfl rfl rfl rfl (.load rfl rfl rfl rfl rfl rfl (S.len rfl rfl (fun hl25 => .eql rfl rfl rfl (.move rfl rfl (.guardF rfl rfl rfl hb1 (.guardF rfl rfl rfl hb1 (.guardF rfl rfl rfl hb1 (.guardF rfl rfl rfl hb1 (.pickT rfl hb1 rfl rfl (.assign rfl rfl (.nil (thn_normal ?_)))))))))))))
      simp only [and_t hb1, or_t hb1, Bool.false_or, Bool.true_or, Bool.false_and, Bool.true_and]
      exact Sub.env ⟨rfl, rfl, rfl, trivial⟩
     ·refine AWP.region (W.fieldAddr rfl rfl rfl rfl (.load rfl rfl rfl rfl rfl rfl (S.len rfl rfl (fun hl25 => .eql rfl rfl rfl (.move rfl rfl (.guardT rfl rfl rfl hb1 (W.fieldAddr rfl rfl rfl rfl (.guardT rfl rfl rfl hb1 (.load rfl rfl rfl rfl rfl rfl ?_)))))))))
      refine AOps.guardT rfl rfl rfl hb1 ?_; refine S.len rfl rfl (fun hl30 => ?_)
      refine AOps.guardT rfl rfl rfl hb1 (.gtr rfl rfl rfl (.pickF rfl hb1 rfl rfl (.assign rfl rfl (.nil (thn_normal ?_)))))
      simp only [and_f hb1, or_f hb1, Bool.false_or, Bool.true_or, Bool.false_and, Bool.true_and]
      exact Sub.env ⟨rfl, rfl, rfl, trivial⟩
    ·refine AWP.iteB rfl h (fun hc5 h => ?_) (fun hc5 h => ?_)
     ·refine AWP.seq (.region (.assign rfl rfl (.nil (thn_normal (.ret (inB_ret (thn_ret ?_)))))))
      have ej := Option.some.inj h
      subst ej
      exact Done.ret rfl rfl
     ·refine AWP.skip (inB_normal (thn_normal (.seq (.seq (.region (W.fieldAddr rfl rfl rfl rfl (.load rfl rfl rfl rfl rfl rfl (S.len rfl rfl (fun hl35 => .move rfl rfl (.nil (thn_normal (.block ?_))))))))))))
      obtain ⟨oo, ho1, h⟩ := bind_some h
      refine AWP.rngS ho1 (fun t6 _ => ⟨[(1, .c (int facts)), (34, .c (row 3 eTOutcome ov.outcomes)), (35, .c (int (ov.outcomes.length : Int))), (36, .c (int t6))], []⟩) (fun o e st => match o with | .inl _ => e = .exit 1 ∧ Sub [] st ⟨[], []⟩ | .inr x => e = .ret ∧ Done [.t 4] (fun t _ => t = .c (int x)) .ret st) ?_ ?_ ?_ ?_
      ·try dsimp only
       exact Sub.cut ⟨rfl, rfl, rfl, rfl, trivial⟩ rfl trivial rfl
      ·intro t6 s hlot6 hltt6 _
       try dsimp only
       refine AWP.seq (.region (.lss rfl rfl rfl (.nil (thn_normal (.seq (.condNP rfl hltt6 (.exit (thn_exit (thn_exit ⟨rfl, ?_⟩)))))))))
       exact Sub.env trivial
      ·intro t6 s o hlot6 hltt6 h
       unfold open_operatorCode_l1 at h
       try dsimp only at h ⊢
       refine AWP.seq (.region (.lss rfl rfl rfl (.nil (thn_normal (.seq (.condP rfl hltt6 (.skip (thn_normal (.seq (.block (.seq ?_)))))))))))
       obtain ⟨a38, ha38, h⟩ := bind_some h
       refine AWP.region (S.idx ha38 rfl rfl rfl rfl (W.loadIAgg rfl rfl rfl rfl rfl (W.alloc rfl rfl rfl rfl (W.storeAgg rfl rfl rfl rfl rfl rfl rfl (.nil (thn_normal (.block ?_)))))))
       obtain ⟨t7, hx8, h⟩ := bind_some h
       refine AWP.seqJ (⟨[(1, .c (int facts)), (6, .c (.ptr 0 0 0)), (34, .c (row 3 eTOutcome ov.outcomes)), (35, .c (int (ov.outcomes.length : Int))), (36, .c (int t6)), (40, .c (bool t7))], [.one (.cells 3 [[row 1 intI a38.add, row 1 intI a38.del, int a38.weight]])]⟩) ?_ ?_
       ·obtain ⟨a44, ha44, hx8⟩ := bind_some hx8
        rcases Bool.eq_false_or_eq_true (!a44) with hb9 | hb9
        ·replace hx8 := iteBT hb9 hx8
         refine AWP.region (W.fieldAddr rfl rfl rfl rfl (.load rfl rfl rfl rfl rfl rfl (.move rfl rfl (.callR rfl rfl rfl rfl (strips_IsSet_ok ha44) rfl (.not rfl rfl (.move rfl rfl (.guardF rfl rfl rfl hb9 (.guardF rfl rfl rfl hb9 (.guardF rfl rfl rfl hb9 (.guardF rfl rfl rfl hb9 (.guardF rfl rfl rfl hb9 (.pickT rfl hb9 rfl rfl (.move rfl rfl (.guardF rfl rfl rfl rfl (.guardF rfl rfl rfl rfl (.guardF rfl rfl rfl rfl (.guardF rfl rfl rfl rfl (.guardF rfl rfl rfl rfl (.pickT rfl rfl rfl rfl (.assign rfl rfl (.nil ?_)))))))))))))))))))))
         have ej := Option.some.inj hx8
         subst ej
         refine thn_normal (Sub.env ⟨rfl, rfl, rfl, rfl, rfl, rfl, trivial⟩)
        ·replace hx8 := iteBF hb9 hx8
         obtain ⟨a50, ha50, hx8⟩ := bind_some hx8
         rcases Bool.eq_false_or_eq_true (!a50) with hb10 | hb10
         ·replace hx8 := iteBT hb10 hx8
          refine AWP.region (W.fieldAddr rfl rfl rfl rfl (.load rfl rfl rfl rfl rfl rfl (.move rfl rfl (.callR rfl rfl rfl rfl (strips_IsSet_ok ha44) rfl (.not rfl rfl (.move rfl rfl (.guardT rfl rfl rfl hb9 (W.fieldAddr rfl rfl rfl rfl (.guardT rfl rfl rfl hb9 (.load rfl rfl rfl rfl rfl rfl (.guardT rfl rfl rfl hb9 (.move rfl rfl (.guardT rfl rfl rfl hb9 (.callR rfl rfl rfl rfl (strips_IsSet_ok ha50) rfl (.guardT rfl rfl rfl hb9 (.not rfl rfl (.pickF rfl hb9 rfl rfl (.move rfl rfl (.guardF rfl rfl rfl hb10 (.guardF rfl rfl rfl hb10 (.guardF rfl rfl rfl hb10 (.guardF rfl rfl rfl hb10 (.guardF rfl rfl rfl hb10 (.pickT rfl hb10 rfl rfl (.assign rfl rfl (.nil ?_))))))))))))))))))))))))))
          have ej := Option.some.inj hx8
          subst ej
          refine thn_normal (Sub.env ⟨rfl, rfl, rfl, rfl, rfl, rfl, trivial⟩)
         ·replace hx8 := iteBF hb10 hx8
          obtain ⟨a58, ha58, hx8⟩ := bind_some hx8
          refine AWP.region (W.fieldAddr rfl rfl rfl rfl (.load rfl rfl rfl rfl rfl rfl (.move rfl rfl (.callR rfl rfl rfl rfl (strips_IsSet_ok ha44) rfl (.not rfl rfl (.move rfl rfl (.guardT rfl rfl rfl hb9 (W.fieldAddr rfl rfl rfl rfl (.guardT rfl rfl rfl hb9 (.load rfl rfl rfl rfl rfl rfl (.guardT rfl rfl rfl hb9 (.move rfl rfl (.guardT rfl rfl rfl hb9 (.callR rfl rfl rfl rfl (strips_IsSet_ok ha50) rfl (.guardT rfl rfl rfl hb9 (.not rfl rfl (.pickF rfl hb9 rfl rfl (.move rfl rfl (.guardT rfl rfl rfl hb10 (W.fieldAddr rfl rfl rfl rfl (.guardT rfl rfl rfl hb10 (.load rfl rfl rfl rfl rfl rfl (.guardT rfl rfl rfl hb10 (W.fieldAddr rfl rfl rfl rfl (.guardT rfl rfl rfl hb10 (.load rfl rfl rfl rfl rfl rfl (.guardT rfl rfl rfl hb10 (.callR rfl rfl rfl rfl (strips_Meets_ok ha58) rfl (.pickF rfl hb10 rfl rfl (.assign rfl rfl (.nil ?_)))))))))))))))))))))))))))))))
          have ej := Option.some.inj hx8
          subst ej
          refine thn_normal (Sub.env ⟨rfl, rfl, rfl, rfl, rfl, rfl, trivial⟩)
       ·refine AWP.iteB rfl h (fun hc11 h => ?_) (fun hc11 h => ?_)
        ·refine AWP.seq (.region (.assign rfl rfl (.nil (thn_normal (.ret (inB_ret (inB_ret (thn_ret ?_))))))))
         have ej := Option.some.inj h
         subst ej
         refine thn_ret ⟨_, rfl, rfl, ?_⟩
         exact Done.ret rfl rfl
        ·refine AWP.seqJ (⟨[(1, .c (int facts)), (34, .c (row 3 eTOutcome ov.outcomes)), (35, .c (int (ov.outcomes.length : Int))), (36, .c (int t6)), (60, .c (bool ((decide (a38.weight < 1)) || (decide (6 < a38.weight)))))], [.one (.cells 3 [[row 1 intI a38.add, row 1 intI a38.del, int a38.weight]])]⟩) ?_ ?_
         ·rcases Bool.eq_false_or_eq_true (decide (a38.weight < 1)) with hb1 | hb1
          ·refine AWP.region (W.fieldAddr rfl rfl rfl rfl (.load rfl rfl rfl rfl rfl rfl (.lss rfl rfl rfl (.move rfl rfl (.guardF rfl rfl rfl hb1 (.guardF rfl rfl rfl hb1 (.guardF rfl rfl rfl hb1 (.pickT rfl hb1 rfl rfl (.assign rfl rfl (.nil (thn_normal ?_)))))))))))
           simp only [and_t hb1, or_t hb1, Bool.false_or, Bool.true_or, Bool.false_and, Bool.true_and]
           exact Sub.env ⟨rfl, rfl, rfl, rfl, rfl, trivial⟩
          ·refine AWP.region (W.fieldAddr rfl rfl rfl rfl (.load rfl rfl rfl rfl rfl rfl (.lss rfl rfl rfl (.move rfl rfl (.guardT rfl rfl rfl hb1 (W.fieldAddr rfl rfl rfl rfl (.guardT rfl rfl rfl hb1 (.load rfl rfl rfl rfl rfl rfl (.guardT rfl rfl rfl hb1 (.gtr rfl rfl rfl (.pickF rfl hb1 rfl rfl (.assign rfl rfl (.nil (thn_normal ?_))))))))))))))
           simp only [and_f hb1, or_f hb1, Bool.false_or, Bool.true_or, Bool.false_and, Bool.true_and]
           exact Sub.env ⟨rfl, rfl, rfl, rfl, rfl, trivial⟩
         ·refine AWP.iteB rfl h (fun hc12 h => ?_) (fun hc12 h => ?_)
          ·refine AWP.seq (.region (.assign rfl rfl (.nil (thn_normal (.ret (inB_ret (inB_ret (thn_ret ?_))))))))
           have ej := Option.some.inj h
           subst ej
           refine thn_ret ⟨_, rfl, rfl, ?_⟩
           exact Done.ret rfl rfl
          ·refine AWP.skip (inB_normal (inB_normal (thn_normal (.region (.add rfl rfl rfl (by omega) (.move rfl rfl (.nil ?_)))))))
           have ej := Option.some.inj h
           subst ej
           refine thn_normal ⟨_, rfl, ?_⟩
           exact Sub.cut ⟨rfl, rfl, rfl, rfl, trivial⟩ rfl trivial rfl
      ·intro e s hq
       rcases oo with u | x
       ·try dsimp only at h hq
        obtain ⟨rfl, hs⟩ := hq
        refine ⟨_, hs, ?_⟩
        refine inB_exit (thn_normal (.seq (.region (.assign rfl rfl (.nil (thn_normal (.ret ?_)))))))
        have ej := Option.some.inj h
        subst ej
        exact Done.ret rfl rfl
       ·try dsimp only at h hq
        obtain ⟨rfl, hs⟩ := hq
        refine ⟨_, Sub.refl _ _, ?_⟩
        refine inB_ret (thn_ret ?_)
        have ej := Option.some.inj h
        subst ej
        exact hs
theorem open_Validate_ok {ov : TOpenTask} {r : TFault} (h : open_Validate ov = some r) : PureOk Tryz.prog 68 [.agg [int ov.facts, row 1 intI ov.init, row 1 intI ov.goal, row 3 eTOpenOperator ov.operators]] (.agg [int r.code, int r.index]) := by
 unfold PureOk
 refine FnOk.enter (rs := [.cell 2 28 2]) Tryz.func68 rfl Tryz.ntmps68 Tryz.results68 rfl ⟨rv _ rfl, trivial⟩ (by kernel_rfl) rfl ?_
 unfold open_Validate at h
 refine AWP.seq (.region (W.box rfl rfl rfl rfl rfl rfl (W.alloc rfl rfl rfl rfl (.nil (thn_normal (.seq (.block (.seqJ (⟨[(1, .c (.ptr 0 0 0)), (2, .c (.ptr 1 0 0)), (6, .c (bool ((decide (ov.facts < 0)) || (decide (24 < ov.facts)))))], [.one (.cells 4 [[int ov.facts, row 1 intI ov.init, row 1 intI ov.goal, row 3 eTOpenOperator ov.operators]]), .one (.cells 2 [[int 0, int 0]])]⟩) ?_ ?_))))))))
 ·rcases Bool.eq_false_or_eq_true (decide (ov.facts < 0)) with hb1 | hb1
  ·refine AWP.region (W.fieldAddr rfl rfl rfl rfl (.load rfl rfl rfl rfl rfl rfl (.lss rfl rfl rfl (.move rfl rfl (.guardF rfl rfl rfl hb1 (.guardF rfl rfl rfl hb1 (.guardF rfl rfl rfl hb1 (.pickT rfl hb1 rfl rfl (.assign rfl rfl (.nil (thn_normal ?_)))))))))))
   simp only [and_t hb1, or_t hb1, Bool.false_or, Bool.true_or, Bool.false_and, Bool.true_and]
   exact Sub.env ⟨rfl, rfl, rfl, trivial⟩
  ·refine AWP.region (W.fieldAddr rfl rfl rfl rfl (.load rfl rfl rfl rfl rfl rfl (.lss rfl rfl rfl (.move rfl rfl (.guardT rfl rfl rfl hb1 (W.fieldAddr rfl rfl rfl rfl (.guardT rfl rfl rfl hb1 (.load rfl rfl rfl rfl rfl rfl (.guardT rfl rfl rfl hb1 (.gtr rfl rfl rfl (.pickF rfl hb1 rfl rfl (.assign rfl rfl (.nil (thn_normal ?_))))))))))))))
   simp only [and_f hb1, or_f hb1, Bool.false_or, Bool.true_or, Bool.false_and, Bool.true_and]
   exact Sub.env ⟨rfl, rfl, rfl, trivial⟩
 ·refine AWP.iteB rfl h (fun hc2 h => ?_) (fun hc2 h => ?_)
  ·refine AWP.seq (.region (W.build rfl rfl rfl rfl (W.storeAgg rfl rfl rfl rfl rfl rfl rfl (.nil (thn_normal (.ret (inB_ret (thn_ret ?_))))))))
   have ej := Option.some.inj h
   subst ej
   exact Done.ret rfl rfl
  ·refine AWP.seq ?_
   obtain ⟨a21, ha21, h⟩ := bind_some h
   refine AWP.region (W.fieldAddr rfl rfl rfl rfl (.load rfl rfl rfl rfl rfl rfl (W.fieldAddr rfl rfl rfl rfl (.load rfl rfl rfl rfl rfl rfl (.callR rfl rfl rfl rfl (strips_IsSet_ok ha21) rfl (.not rfl rfl (.assign rfl rfl (.nil (thn_normal (.iteB rfl h (fun hc3 h => ?_) (fun hc3 h => ?_)))))))))))
   ·refine AWP.seq (.region (W.build rfl rfl rfl rfl (W.storeAgg rfl rfl rfl rfl rfl rfl rfl (.nil (thn_normal (.ret (inB_ret (thn_ret ?_))))))))
    have ej := Option.some.inj h
    subst ej
    exact Done.ret rfl rfl
   ·refine AWP.seq ?_
    obtain ⟨a29, ha29, h⟩ := bind_some h
    refine AWP.region (W.fieldAddr rfl rfl rfl rfl (.load rfl rfl rfl rfl rfl rfl (W.fieldAddr rfl rfl rfl rfl (.load rfl rfl rfl rfl rfl rfl (.callR rfl rfl rfl rfl (strips_IsSet_ok ha29) rfl (.not rfl rfl (.assign rfl rfl (.nil (thn_normal (.iteB rfl h (fun hc4 h => ?_) (fun hc4 h => ?_)))))))))))
    ·refine AWP.seq (.region (W.build rfl rfl rfl rfl (W.storeAgg rfl rfl rfl rfl rfl rfl rfl (.nil (thn_normal (.ret (inB_ret (thn_ret ?_))))))))
     have ej := Option.some.inj h
     subst ej
     exact Done.ret rfl rfl
    ·refine AWP.seq (.region (W.fieldAddr rfl rfl rfl rfl (.load rfl rfl rfl rfl rfl rfl (S.len rfl rfl (fun hl35 => .gtr rfl rfl rfl (.assign rfl rfl (.nil (thn_normal (.ite rfl h (fun hc5 h => ?_) (fun hc5 h => ?_))))))))))
     ·refine AWP.seq (.region (W.build rfl rfl rfl rfl (W.storeAgg rfl rfl rfl rfl rfl rfl rfl (.nil (thn_normal (.ret (inB_ret (thn_ret ?_))))))))
      have ej := Option.some.inj h
      subst ej
      exact Done.ret rfl rfl
     ·refine AWP.skip (inB_normal (thn_normal (.seq (.seq (.region (W.fieldAddr rfl rfl rfl rfl (.load rfl rfl rfl rfl rfl rfl (S.len rfl rfl (fun hl40 => .move rfl rfl (.nil (thn_normal (.block ?_))))))))))))
      obtain ⟨oo, ho1, h⟩ := bind_some h
      refine AWP.rngS ho1 (fun t6 _ => ⟨[(1, .c (.ptr 0 0 0)), (2, .c (.ptr 1 0 0)), (39, .c (row 3 eTOpenOperator ov.operators)), (40, .c (int (ov.operators.length : Int))), (41, .c (int t6))], [.one (.cells 4 [[int ov.facts, row 1 intI ov.init, row 1 intI ov.goal, row 3 eTOpenOperator ov.operators]]), .one (.cells 2 [[int 0, int 0]])]⟩) (fun o e st => match o with | .inl _ => e = .exit 1 ∧ Sub [] st ⟨[(2, .c (.ptr 1 0 0))], [.one (.cells 4 [[int ov.facts, row 1 intI ov.init, row 1 intI ov.goal, row 3 eTOpenOperator ov.operators]]), .one (.cells 2 [[int 0, int 0]])]⟩ | .inr x => e = .ret ∧ Done [.cell 2 28 2] (fun t _ => t = .agg [int x.code, int x.index]) .ret st) ?_ ?_ ?_ ?_
      ·try dsimp only
       exact Sub.env ⟨rfl, rfl, rfl, rfl, rfl, trivial⟩
      ·intro t6 s hlot6 hltt6 _
       try dsimp only
       refine AWP.seq (.region (.lss rfl rfl rfl (.nil (thn_normal (.seq (.condNP rfl hltt6 (.exit (thn_exit (thn_exit ⟨rfl, ?_⟩)))))))))
       exact Sub.env ⟨rfl, trivial⟩
      ·intro t6 s o hlot6 hltt6 h
       unfold open_Validate_l1 at h
       try dsimp only at h ⊢
       refine AWP.seq (.region (.lss rfl rfl rfl (.nil (thn_normal (.seq (.condP rfl hltt6 (.skip (thn_normal (.seq (.block (.seq ?_)))))))))))
       obtain ⟨a44, ha44, h⟩ := bind_some h
       refine AWP.region (.move rfl rfl (S.idx ha44 rfl rfl rfl rfl (W.loadIAgg rfl rfl rfl rfl rfl (W.alloc rfl rfl rfl rfl (.assign rfl rfl (W.storeAgg rfl rfl rfl rfl rfl rfl rfl (.nil (thn_normal (.seq ?_)))))))))
       obtain ⟨a49, ha49, h⟩ := bind_some h
       refine AWP.region (W.loadAgg rfl rfl rfl rfl rfl rfl rfl (W.fieldAddr rfl rfl rfl rfl (.load rfl rfl rfl rfl rfl rfl (.callR rfl rfl rfl rfl (open_operatorCode_ok ha49) rfl (.assign rfl rfl (.nil (thn_normal (.seq (.region (.move rfl rfl (.neq rfl rfl rfl (.nil (thn_normal (.iteN rfl h (fun hc7 h => ?_) (fun hc7 h => ?_)))))))))))))))
       ·refine AWP.seq (.region (.move rfl rfl (.move rfl rfl (W.build rfl rfl rfl rfl (W.storeAgg rfl rfl rfl rfl rfl rfl rfl (.nil (thn_normal (.ret (inB_ret (thn_ret ?_))))))))))
        have ej := Option.some.inj h
        subst ej
        refine thn_ret ⟨_, rfl, rfl, ?_⟩
        exact Done.ret rfl rfl
       ·refine AWP.skip (inB_normal (thn_normal (.region (.add rfl rfl rfl (by omega) (.move rfl rfl (.nil ?_))))))
        have ej := Option.some.inj h
        subst ej
        refine thn_normal ⟨_, rfl, ?_⟩
        exact Sub.cut ⟨rfl, rfl, rfl, rfl, rfl, trivial⟩ rfl ⟨.one rfl, .one rfl, trivial⟩ rfl
      ·intro e s hq
       rcases oo with u | x
       ·try dsimp only at h hq
        obtain ⟨rfl, hs⟩ := hq
        refine ⟨_, hs, ?_⟩
        refine inB_exit (thn_normal (.seq (.region (W.build rfl rfl rfl rfl (W.storeAgg rfl rfl rfl rfl rfl rfl rfl (.nil (thn_normal (.ret ?_))))))))
        have ej := Option.some.inj h
        subst ej
        exact Done.ret rfl rfl
       ·try dsimp only at h hq
        obtain ⟨rfl, hs⟩ := hq
        refine ⟨_, Sub.refl _ _, ?_⟩
        refine inB_ret (thn_ret ?_)
        have ej := Option.some.inj h
        subst ej
        exact hs
theorem internal_strconv_small_ok {iv : Int} {r : ByteArray} (h : internal_strconv_small iv = some r) : PureOk Tryz.prog 149 [.c (int iv)] (.c (.imm (.val (.string r)))) := by
 unfold PureOk
 refine FnOk.enter (rs := [.t 2]) Tryz.func149 rfl Tryz.ntmps149 Tryz.results149 rfl ⟨trivial, trivial⟩ (by kernel_rfl) rfl ?_
 unfold internal_strconv_small at h
 refine AWP.seq (.region (.assign rfl rfl (.nil (thn_normal (.seq (.seq (.region (.move rfl rfl (.lss rfl rfl rfl (.nil (thn_normal (.ite rfl h (fun hc2 h => ?_) (fun hc2 h => ?_)))))))))))))
 ·refine AWP.seq ?_
  obtain ⟨a8, ha8, h⟩ := bind_some h
  refine AWP.region (.move rfl rfl (.move rfl rfl (S.add rfl rfl rfl (S.subStr ha8 rfl rfl rfl rfl (.assign rfl rfl (.nil (thn_normal (.ret (thn_ret ?_)))))))))
  have ej := Option.some.inj h
  subst ej
  exact Done.ret rfl rfl
 ·refine AWP.skip (thn_normal (.seq ?_))
  obtain ⟨a14, ha14, h⟩ := bind_some h
  refine AWP.region (.move rfl rfl (S.mul rfl rfl rfl (.move rfl rfl (S.mul rfl rfl rfl (S.add rfl rfl rfl (S.subStr ha14 rfl rfl rfl rfl (.assign rfl rfl (.nil (thn_normal (.ret ?_))))))))))
  have ej := Option.some.inj h
  subst ej
  exact Done.ret rfl rfl
theorem internal_strconv_AppendUint_w1_ok {iv : Int} {base : Int} {l : List Int} {r : (List Int)} (h : internal_strconv_AppendUint_w1 iv base l = some r) : FnOk Tryz.prog 144 [.c (.own 0 0 l.length), .c (.imm (.val (.int .u64 iv))), .c (int base)] (internal_strconv_AppendUint_w1_s0 iv base l) (fun tt ss => tt = .c (.own 2 0 r.length) ∧ ss = [.dead, .dead, .one (vec 1 eU8 r)]) := by
 refine FnOk.enter (rs := [.t 6]) Tryz.func144 rfl Tryz.ntmps144 Tryz.results144 rfl ⟨trivial, trivial⟩ (by kernel_rfl) rfl ?_
 refine AWP.weak ?_
 unfold internal_strconv_AppendUint_w1 at h
 refine AWP.move (env' := [(0, .c (.own 1 0 l.length)), (1, .c (.imm (.val (.int .u64 iv)))), (2, .c (int base))]) (σ' := [.dead, .one (vec 1 eU8 l)]) 1 0 rfl rfl rfl ⟨rfl, rfl, rfl, trivial⟩ rfl ⟨trivial, ⟨Blk.im_ok _ _ _, vec_mv rfl⟩, trivial⟩ (.seq (.region (.assign rfl rfl (.nil (thn_normal (.seq (.seq (.region (.move rfl rfl (.eql rfl rfl rfl (.nil (thn_normal (.ite rfl h (fun hc55 h => ?_) (fun hc55 h => ?_))))))))))))))
 ·refine AWP.seq (.seq (.region (.move rfl rfl (.lss rfl rfl rfl (.nil (thn_normal (.ite rfl h (fun hc56 h => ?_) (fun hc56 h => ?_))))))))
  ·refine AWP.seq ?_
   obtain ⟨a16, ha16, h⟩ := bind_some h
   obtain ⟨a17, ha17, h⟩ := bind_some h
   refine AWP.region (.move rfl rfl (.move rfl rfl (.convInt rfl rfl (.callR rfl rfl rfl rfl (internal_strconv_small_ok ha16) rfl (S.appendStr ha17 rfl rfl rfl rfl rfl rfl rfl rfl rfl rfl (.assign rfl rfl (.nil (thn_normal (.ret (thn_ret (thn_ret ?_)))))))))))
   have ej := Option.some.inj h
   subst ej
   exact ⟨⟨[(6, .c (.own 2 0 a17.length))], [.dead, .dead, .one (vec 1 eU8 a17)]⟩, Sub.env ⟨rfl, trivial⟩, Done.ret rfl ⟨rfl, rfl⟩⟩
  ·cases h
 ·cases h
theorem internal_strconv_AppendInt_w1_ok {iv : Int} {base : Int} {l : List Int} {r : (List Int)} (h : internal_strconv_AppendInt_w1 iv base l = some r) : FnOk Tryz.prog 129 [.c (.own 0 0 l.length), .c (int iv), .c (int base)] (internal_strconv_AppendInt_w1_s0 iv base l) (fun tt ss => tt = .c (.own 3 0 r.length) ∧ ss = [.dead, .dead, .dead, .one (vec 1 eU8 r)]) := by
 refine FnOk.enter (rs := [.t 6]) Tryz.func129 rfl Tryz.ntmps129 Tryz.results129 rfl ⟨trivial, trivial⟩ (by kernel_rfl) rfl ?_
 refine AWP.weak ?_
 unfold internal_strconv_AppendInt_w1 at h
 refine AWP.move (env' := [(0, .c (.own 1 0 l.length)), (1, .c (int iv)), (2, .c (int base))]) (σ' := [.dead, .one (vec 1 eU8 l)]) 1 0 rfl rfl rfl ⟨rfl, rfl, rfl, trivial⟩ rfl ⟨trivial, ⟨Blk.im_ok _ _ _, vec_mv rfl⟩, trivial⟩ (.seq (.region (.assign rfl rfl (.nil (thn_normal (.seq (.region (.move rfl rfl (.convInt rfl rfl (.assign rfl rfl (.nil (thn_normal ?_))))))))))))
 obtain ⟨u, hx55, h⟩ := bind_some h
 refine AWP.seqJ (⟨[(0, .c (.own 1 0 l.length)), (2, .c (int base)), (7, .c (.imm (.val (.int .u64 ((IntKind.u64).wrap iv)))))], [.dead, .one (vec 1 eU8 l)]⟩) ?_ ?_
 ·refine AWP.seq (.region (.move rfl rfl (.lss rfl rfl rfl (.nil (thn_normal (.ite rfl hx55 (fun hc56 hx55 => ?_) (fun hc56 hx55 => ?_)))))))
  ·cases hx55
  ·refine AWP.skip ?_
   have ej := Option.some.inj hx55
   subst ej
   refine thn_normal (Sub.env ⟨rfl, rfl, rfl, trivial⟩)
 ·try dsimp only at h
  refine AWP.seq ?_
  obtain ⟨a20, ha20, h⟩ := bind_some h
  refine AWP.region (.move rfl rfl (.move rfl rfl (.move rfl rfl (.callF (r2 := .c (.own 3 0 a20.length)) (σ'' := [.dead, .dead, .dead, .one (vec 1 eU8 a20)]) rfl rfl rfl (FnOk.lend [1] (internal_strconv_AppendUint_w1_ok ha20) rfl rfl rfl rfl rfl rfl (by exact ⟨.vec, trivial⟩) rfl (by exact ⟨(.live rfl .vec), trivial⟩) rfl rfl (by exact ⟨.dead, .dead, .dead, (.new 2 rfl rfl .vec), trivial⟩)) (.assign rfl rfl (.nil (thn_normal (.ret ?_))))))))
  have ej := Option.some.inj h
  subst ej
  exact ⟨⟨[(6, .c (.own 3 0 a20.length))], [.dead, .dead, .dead, .one (vec 1 eU8 a20)]⟩, Sub.env ⟨rfl, trivial⟩, Done.ret rfl ⟨rfl, rfl⟩⟩
theorem strconv_AppendInt_w1_ok {iv : Int} {base : Int} {l : List Int} {r : (List Int)} (h : strconv_AppendInt_w1 iv base l = some r) : FnOk Tryz.prog 110 [.c (.own 0 0 l.length), .c (int iv), .c (int base)] (strconv_AppendInt_w1_s0 iv base l) (fun tt ss => tt = .c (.own 4 0 r.length) ∧ ss = [.dead, .dead, .dead, .dead, .one (vec 1 eU8 r)]) := by
 refine FnOk.enter (rs := [.t 6]) Tryz.func110 rfl Tryz.ntmps110 Tryz.results110 rfl ⟨trivial, trivial⟩ (by kernel_rfl) rfl ?_
 refine AWP.weak ?_
 unfold strconv_AppendInt_w1 at h
 refine AWP.move (env' := [(0, .c (.own 1 0 l.length)), (1, .c (int iv)), (2, .c (int base))]) (σ' := [.dead, .one (vec 1 eU8 l)]) 1 0 rfl rfl rfl ⟨rfl, rfl, rfl, trivial⟩ rfl ⟨trivial, ⟨Blk.im_ok _ _ _, vec_mv rfl⟩, trivial⟩ (.seq (.region (.assign rfl rfl (.nil (thn_normal (.seq ?_))))))
 obtain ⟨a10, ha10, h⟩ := bind_some h
 refine AWP.region (.move rfl rfl (.move rfl rfl (.move rfl rfl (.callF (r2 := .c (.own 4 0 a10.length)) (σ'' := [.dead, .dead, .dead, .dead, .one (vec 1 eU8 a10)]) rfl rfl rfl (FnOk.lend [1] (internal_strconv_AppendInt_w1_ok ha10) rfl rfl rfl rfl rfl rfl (by exact ⟨.vec, trivial⟩) rfl (by exact ⟨(.live rfl .vec), trivial⟩) rfl rfl (by exact ⟨.dead, .dead, .dead, .dead, (.new 3 rfl rfl .vec), trivial⟩)) (.assign rfl rfl (.nil (thn_normal (.ret ?_))))))))
 have ej := Option.some.inj h
 subst ej
 exact ⟨⟨[(6, .c (.own 4 0 a10.length))], [.dead, .dead, .dead, .dead, .one (vec 1 eU8 a10)]⟩, Sub.env ⟨rfl, trivial⟩, Done.ret rfl ⟨rfl, rfl⟩⟩
theorem belief_Key_ok {l : List (List Int)} {r : ByteArray} (h : belief_Key l = some r) : PureOk Tryz.prog 93 [.c (row 1 eLi64 l)] (.c (.imm (.val (.string r)))) := by
 unfold PureOk
 refine FnOk.enter (rs := [.t 2]) Tryz.func93 rfl Tryz.ntmps93 Tryz.results93 rfl ⟨trivial, trivial⟩ (by kernel_rfl) rfl ?_
 unfold belief_Key at h
 refine AWP.seq (.region (.assign rfl rfl (.nil (thn_normal (.seq (.region (.assign rfl rfl (.nil (thn_normal (.seq (.seq (.region (.move rfl rfl (S.len rfl rfl (fun hl9 => .move rfl rfl (.nil (thn_normal (.block (.virtV 1 eU8 3 rfl rfl rfl ?_)))))))))))))))))))
 obtain ⟨c2, ho1, h⟩ := bind_some h
 refine AWP.forS ho1 (fun t3 c2 => ⟨[(3, .c (.own 0 0 c2.length)), (8, .c (row 1 eLi64 l)), (9, .c (int (l.length : Int))), (10, .c (int t3))], [.one (vec 1 eU8 c2)]⟩) (fun c2 e st => e = .exit 0 ∧ Sub [] st ⟨[(3, .c (.own 0 0 c2.length))], [.one (vec 1 eU8 c2)]⟩) ?_ ?_ ?_ ?_
 ·try dsimp only
  exact Sub.env ⟨(own_len (by first | rfl | simp only [List.length_set])), rfl, rfl, rfl, trivial⟩
 ·intro t3 c2 hlot3 hltt3 _
  try dsimp only
  refine AWP.seq (.region (.lss rfl rfl rfl (.nil (thn_normal (.seq (.condNP rfl hltt3 (.exit (thn_exit (thn_exit ⟨rfl, ?_⟩)))))))))
  exact Sub.env ⟨rfl, trivial⟩
 ·intro t3 c2 o hlot3 hltt3 h
  unfold belief_Key_l1 at h
  try dsimp only at h ⊢
  refine AWP.seq (.region (.lss rfl rfl rfl (.nil (thn_normal (.seq (.condP rfl hltt3 (.skip (thn_normal (.seq (.block (.seq ?_)))))))))))
  obtain ⟨a12, ha12, h⟩ := bind_some h
  refine AWP.region (S.idx ha12 rfl rfl rfl rfl (.loadI rfl rfl rfl rfl (.assign rfl rfl (.nil (thn_normal (.seq (.seq (.region (.move rfl rfl (S.len rfl rfl (fun hl15 => .move rfl rfl (.nil (thn_normal (.block ?_))))))))))))))
  obtain ⟨c4, ho2, h⟩ := bind_some h
  refine AWP.forS ho2 (fun t5 c4 => ⟨[(3, .c (.own 0 0 c4.length)), (8, .c (row 1 eLi64 l)), (9, .c (int (l.length : Int))), (10, .c (int t3)), (14, .c (row 1 intI a12)), (15, .c (int (a12.length : Int))), (16, .c (int t5))], [.one (vec 1 eU8 c4)]⟩) (fun c4 e st => e = .exit 2 ∧ Sub [] st ⟨[(3, .c (.own 0 0 c4.length)), (8, .c (row 1 eLi64 l)), (9, .c (int (l.length : Int))), (10, .c (int t3))], [.one (vec 1 eU8 c4)]⟩) ?_ ?_ ?_ ?_
  ·try dsimp only
   exact Sub.env ⟨rfl, rfl, rfl, rfl, rfl, rfl, rfl, trivial⟩
  ·intro t5 c4 hlot5 hltt5 _
   try dsimp only
   refine AWP.seq (.region (.lss rfl rfl rfl (.nil (thn_normal (.seq (.condNP rfl hltt5 (.exit (thn_exit (thn_exit ⟨rfl, ?_⟩)))))))))
   exact Sub.env ⟨rfl, rfl, rfl, rfl, trivial⟩
  ·intro t5 c4 o hlot5 hltt5 h
   unfold belief_Key_l2 at h
   try dsimp only at h ⊢
   refine AWP.seq (.region (.lss rfl rfl rfl (.nil (thn_normal (.seq (.condP rfl hltt5 (.skip (thn_normal (.seq (.block (.seq ?_)))))))))))
   obtain ⟨a18, ha18, h⟩ := bind_some h
   refine AWP.region (S.idx ha18 rfl rfl rfl rfl (.loadI rfl rfl rfl rfl (.assign rfl rfl (.nil (thn_normal ?_)))))
   obtain ⟨a22, ha22, h⟩ := bind_some h
   obtain ⟨a24, ha24, h⟩ := bind_some h
   refine AWP.region (.move rfl rfl (.move rfl rfl (.callF (r2 := .c (.own 4 0 a22.length)) (σ'' := [.dead, .dead, .dead, .dead, .one (vec 1 eU8 a22)]) rfl rfl rfl (FnOk.lend [0] (strconv_AppendInt_w1_ok ha22) rfl rfl rfl rfl rfl rfl (by exact ⟨.vec, trivial⟩) rfl (by exact ⟨(.live rfl .vec), trivial⟩) rfl rfl (by exact ⟨.dead, .dead, .dead, .dead, (.new 4 rfl rfl .vec), trivial⟩)) (S.lit (f := eU8) (l := [44]) (ess := [[.imm (.val (.int .u8 44))]]) rfl rfl rfl rfl rfl rfl rfl ⟨⟨.inl rfl, trivial⟩, trivial⟩ rfl rfl rfl (S.append (f := eU8) ha24 rfl rfl rfl rfl rfl rfl (.own rfl rfl) rfl rfl rfl rfl (.assign rfl rfl (.nil (inB_normal (thn_normal (.move (env' := [(3, .c (.own 4 0 a24.length)), (8, .c (row 1 eLi64 l)), (9, .c (int (l.length : Int))), (10, .c (int t3)), (14, .c (row 1 intI a12)), (15, .c (int (a12.length : Int))), (16, .c (int t5))]) (σ' := [.dead, .dead, .dead, .dead, .one (vec 1 eU8 a24), .one (vec 1 eU8 [44])]) 4 6 rfl rfl rfl ⟨rfl, rfl, rfl, rfl, rfl, rfl, rfl, trivial⟩ rfl ⟨trivial, trivial, trivial, trivial, ⟨Blk.im_ok _ _ _, vec_mv rfl⟩, ⟨Blk.im_ok _ _ _, vec_mv rfl⟩, trivial⟩ (.region (.add rfl rfl rfl (by omega) (.move rfl rfl (.nil ?_))))))))))))))
   have ej := Option.some.inj h
   subst ej
   refine thn_normal ((Sub.move (env' := [(3, .c (.own 0 0 a24.length)), (8, .c (row 1 eLi64 l)), (9, .c (int (l.length : Int))), (10, .c (int t3)), (14, .c (row 1 intI a12)), (15, .c (int (a12.length : Int))), (16, .c (int (t5 + 1)))]) (σ' := [.one (vec 1 eU8 a24), .dead, .dead, .dead, .dead, .one (vec 1 eU8 [44])]) 0 4 rfl rfl rfl ⟨rfl, rfl, rfl, rfl, rfl, rfl, rfl, trivial⟩ rfl ⟨⟨Blk.im_ok _ _ _, vec_mv rfl⟩, trivial, trivial, trivial, trivial, ⟨Blk.im_ok _ _ _, vec_mv rfl⟩, trivial⟩).trans (Sub.cut ⟨rfl, rfl, rfl, rfl, rfl, rfl, rfl, trivial⟩ rfl ⟨.vec, trivial⟩ rfl))
  ·intro e s hq
   obtain ⟨rfl, hs⟩ := hq
   refine ⟨_, hs, ?_⟩
   refine inB_exit (thn_normal ?_)
   obtain ⟨a28, ha28, h⟩ := bind_some h
   refine AWP.region (.move rfl rfl (S.lit (f := eU8) (l := [59]) (ess := [[.imm (.val (.int .u8 59))]]) rfl rfl rfl rfl rfl rfl rfl ⟨⟨.inl rfl, trivial⟩, trivial⟩ rfl rfl rfl (S.append (f := eU8) ha28 rfl rfl rfl rfl rfl rfl (.own rfl rfl) rfl rfl rfl rfl (.assign rfl rfl (.nil (inB_normal (thn_normal (.move (env' := [(3, .c (.own 0 0 a28.length)), (8, .c (row 1 eLi64 l)), (9, .c (int (l.length : Int))), (10, .c (int t3))]) (σ' := [.one (vec 1 eU8 a28), .one (vec 1 eU8 [59])]) 0 2 rfl rfl rfl ⟨rfl, rfl, rfl, rfl, trivial⟩ rfl ⟨⟨Blk.im_ok _ _ _, vec_mv rfl⟩, ⟨Blk.im_ok _ _ _, vec_mv rfl⟩, trivial⟩ (.region (.add rfl rfl rfl (by omega) (.move rfl rfl (.nil ?_))))))))))))
   have ej := Option.some.inj h
   subst ej
   refine thn_normal (Sub.cut ⟨rfl, rfl, rfl, rfl, trivial⟩ rfl ⟨.vec, trivial⟩ rfl)
 ·intro e s hq
  obtain ⟨rfl, hs⟩ := hq
  refine ⟨_, hs, ?_⟩
  refine inB_exit (thn_normal (.seq (.region (.move rfl rfl (S.bytesStr rfl rfl rfl rfl (.assign rfl rfl (.nil (thn_normal (.ret ?_)))))))))
  have ej := Option.some.inj h
  subst ej
  exact Done.ret rfl rfl
theorem strips_Contains_ok {sv : List Int} {part : List Int} {r : Bool} (h : strips_Contains sv part = some r) : PureOk Tryz.prog 54 [.c (row 1 intI sv), .c (row 1 intI part)] (.c (bool r)) := by
 unfold PureOk
 refine FnOk.enter (rs := [.t 4]) Tryz.func54 rfl Tryz.ntmps54 Tryz.results54 rfl ⟨trivial, trivial⟩ (by kernel_rfl) rfl ?_
 unfold strips_Contains at h
 refine AWP.seq (.region (.assign rfl rfl (.nil (thn_normal (.seq (.region (.assign rfl rfl (.nil (thn_normal (.seq (.seq (.region (.move rfl rfl (S.len rfl rfl (fun hl9 => .move rfl rfl (.nil (thn_normal (.block ?_))))))))))))))))))
 obtain ⟨oo, ho1, h⟩ := bind_some h
 refine AWP.rngS ho1 (fun t4 iv3 => ⟨[(0, .c (row 1 intI sv)), (5, .c (int iv3)), (8, .c (row 1 intI part)), (9, .c (int (part.length : Int))), (10, .c (int t4))], []⟩) (fun o e st => match o with | .inl iv3 => e = .exit 0 ∧ Sub [] st ⟨[], []⟩ | .inr x => e = .ret ∧ Done [.t 4] (fun t _ => t = .c (bool x)) .ret st) ?_ ?_ ?_ ?_
 ·try dsimp only
  exact Sub.env ⟨rfl, rfl, rfl, rfl, rfl, trivial⟩
 ·intro t4 iv3 hlot4 hltt4 _
  try dsimp only
  refine AWP.seq (.region (.lss rfl rfl rfl (.nil (thn_normal (.seq (.condNP rfl hltt4 (.exit (thn_exit (thn_exit ⟨rfl, ?_⟩)))))))))
  exact Sub.env trivial
 ·intro t4 iv3 o hlot4 hltt4 h
  unfold strips_Contains_l1 at h
  try dsimp only at h ⊢
  refine AWP.seq (.region (.lss rfl rfl rfl (.nil (thn_normal (.seq (.condP rfl hltt4 (.skip (thn_normal (.seq (.block (.seq ?_)))))))))))
  obtain ⟨a12, ha12, h⟩ := bind_some h
  refine AWP.region (S.idx ha12 rfl rfl rfl rfl (.loadI rfl rfl rfl rfl (.assign rfl rfl (.nil (thn_normal (.seq (.block ?_)))))))
  obtain ⟨iv6, ho2, h⟩ := bind_some h
  refine AWP.loopS ho2 (fun iv5 => ⟨[(0, .c (row 1 intI sv)), (5, .c (int iv5)), (7, .c (int a12)), (8, .c (row 1 intI part)), (9, .c (int (part.length : Int))), (10, .c (int t4))], []⟩) (fun iv6 e st => e = .exit 2 ∧ Sub [] st ⟨[(0, .c (row 1 intI sv)), (5, .c (int iv6)), (7, .c (int a12)), (8, .c (row 1 intI part)), (9, .c (int (part.length : Int))), (10, .c (int t4))], []⟩) ?_ ?_ ?_
  ·try dsimp only
   exact Sub.env ⟨rfl, rfl, rfl, rfl, rfl, rfl, trivial⟩
  ·intro iv5 o h
   unfold strips_Contains_l2 at h
   try dsimp only at h ⊢
   refine AWP.seq ?_
   obtain ⟨t7, hx8, h⟩ := bind_some h
   refine AWP.seqJ (⟨[(0, .c (row 1 intI sv)), (5, .c (int iv5)), (7, .c (int a12)), (8, .c (row 1 intI part)), (9, .c (int (part.length : Int))), (10, .c (int t4)), (25, .c (bool t7))], []⟩) ?_ ?_
   ·rcases Bool.eq_false_or_eq_true (decide (iv5 < (sv.length : Int))) with hb9 | hb9
    ·replace hx8 := iteDT hb9 hx8
     obtain ⟨a21, ha21, hx8⟩ := bind_some hx8
     refine AWP.region (.move rfl rfl (.move rfl rfl (S.len rfl rfl (fun hl16 => .lss rfl rfl rfl (.move rfl rfl (.guardT rfl rfl rfl hb9 (.move rfl rfl (.guardT rfl rfl rfl hb9 (.move rfl rfl (.guardT rfl rfl rfl hb9 (S.idx ha21 rfl rfl rfl rfl (.guardT rfl rfl rfl hb9 (.loadI rfl rfl rfl rfl (.guardT rfl rfl rfl hb9 (.move rfl rfl (.guardT rfl rfl rfl hb9 (.lss rfl rfl rfl (.pickT rfl hb9 rfl rfl (.nil ?_)))))))))))))))))))
     have ej := Option.some.inj hx8
     subst ej
     refine thn_normal (Sub.env ⟨rfl, rfl, rfl, rfl, rfl, rfl, rfl, trivial⟩)
    ·replace hx8 := iteDF hb9 hx8
     refine AWP.region (.move rfl rfl (.move rfl rfl (S.len rfl rfl (fun hl16 => .lss rfl rfl rfl (.move rfl rfl (.guardF rfl rfl rfl hb9 (.guardF rfl rfl rfl hb9 (.guardF rfl rfl rfl hb9 (.guardF rfl rfl rfl hb9 (.guardF rfl rfl rfl hb9 (.guardF rfl rfl rfl hb9 (.pickF rfl hb9 rfl rfl (.nil ?_)))))))))))))
     have ej := Option.some.inj hx8
     subst ej
     refine thn_normal (Sub.env ⟨rfl, rfl, rfl, rfl, rfl, rfl, rfl, trivial⟩)
   ·refine AWP.iteB rfl h (fun hc10 h => ?_) (fun hc10 h => ?_)
    ·refine AWP.skip (thn_normal (.block (.region (.move rfl rfl (S.add rfl rfl rfl (.assign rfl rfl (.nil (inB_normal ?_))))))))
     have ej := Option.some.inj h
     subst ej
     refine thn_normal ⟨_, rfl, ?_⟩
     exact Sub.env ⟨rfl, rfl, rfl, rfl, rfl, rfl, trivial⟩
    ·refine AWP.exit (thn_exit ?_)
     have ej := Option.some.inj h
     subst ej
     refine thn_exit ⟨_, rfl, rfl, ?_⟩
     exact Sub.env ⟨rfl, rfl, rfl, rfl, rfl, rfl, trivial⟩
  ·intro e s hq
   obtain ⟨rfl, hs⟩ := hq
   refine ⟨_, hs, ?_⟩
   refine inB_exit (thn_normal ?_)
   obtain ⟨t11, hx12, h⟩ := bind_some h
   refine AWP.seqJ (⟨[(0, .c (row 1 intI sv)), (5, .c (int iv6)), (8, .c (row 1 intI part)), (9, .c (int (part.length : Int))), (10, .c (int t4)), (39, .c (bool t11))], []⟩) ?_ ?_
   ·rcases Bool.eq_false_or_eq_true (decide (iv6 = (sv.length : Int))) with hb13 | hb13
    ·replace hx12 := iteDT hb13 hx12
     refine AWP.region (.move rfl rfl (.move rfl rfl (S.len rfl rfl (fun hl30 => .eql rfl rfl rfl (.move rfl rfl (.guardF rfl rfl rfl hb13 (.guardF rfl rfl rfl hb13 (.guardF rfl rfl rfl hb13 (.guardF rfl rfl rfl hb13 (.guardF rfl rfl rfl hb13 (.guardF rfl rfl rfl hb13 (.pickT rfl hb13 rfl rfl (.nil ?_)))))))))))))
     have ej := Option.some.inj hx12
     subst ej
     refine thn_normal (Sub.env ⟨rfl, rfl, rfl, rfl, rfl, rfl, trivial⟩)
    ·replace hx12 := iteDF hb13 hx12
     obtain ⟨a35, ha35, hx12⟩ := bind_some hx12
     refine AWP.region (.move rfl rfl (.move rfl rfl (S.len rfl rfl (fun hl30 => .eql rfl rfl rfl (.move rfl rfl (.guardT rfl rfl rfl hb13 (.move rfl rfl (.guardT rfl rfl rfl hb13 (.move rfl rfl (.guardT rfl rfl rfl hb13 (S.idx ha35 rfl rfl rfl rfl (.guardT rfl rfl rfl hb13 (.loadI rfl rfl rfl rfl (.guardT rfl rfl rfl hb13 (.move rfl rfl (.guardT rfl rfl rfl hb13 (.neq rfl rfl rfl (.pickF rfl hb13 rfl rfl (.nil ?_)))))))))))))))))))
     have ej := Option.some.inj hx12
     subst ej
     refine thn_normal (Sub.env ⟨rfl, rfl, rfl, rfl, rfl, rfl, trivial⟩)
   ·refine AWP.iteB rfl h (fun hc14 h => ?_) (fun hc14 h => ?_)
    ·refine AWP.seq (.region (.assign rfl rfl (.nil (thn_normal (.ret (inB_ret (thn_ret ?_)))))))
     have ej := Option.some.inj h
     subst ej
     refine thn_ret ⟨_, rfl, rfl, ?_⟩
     exact Done.ret rfl rfl
    ·refine AWP.skip (inB_normal (thn_normal (.region (.add rfl rfl rfl (by omega) (.move rfl rfl (.nil ?_))))))
     have ej := Option.some.inj h
     subst ej
     refine thn_normal ⟨_, rfl, ?_⟩
     exact Sub.env ⟨rfl, rfl, rfl, rfl, rfl, trivial⟩
 ·intro e s hq
  rcases oo with iv3 | x
  ·try dsimp only at h hq
   obtain ⟨rfl, hs⟩ := hq
   refine ⟨_, hs, ?_⟩
   refine inB_exit (thn_normal (.seq (.region (.assign rfl rfl (.nil (thn_normal (.ret ?_)))))))
   have ej := Option.some.inj h
   subst ej
   exact Done.ret rfl rfl
  ·try dsimp only at h hq
   obtain ⟨rfl, hs⟩ := hq
   refine ⟨_, Sub.refl _ _, ?_⟩
   refine inB_ret (thn_ret ?_)
   have ej := Option.some.inj h
   subst ej
   exact hs
theorem open_Can_ok {ov : TOpenTask} {sv : List Int} {op : Int} {r : Bool} (h : open_Can ov sv op = some r) : PureOk Tryz.prog 60 [.agg [int ov.facts, row 1 intI ov.init, row 1 intI ov.goal, row 3 eTOpenOperator ov.operators], .c (row 1 intI sv), .c (int op)] (.c (bool r)) := by
 unfold PureOk
 refine FnOk.enter (rs := [.t 6]) Tryz.func60 rfl Tryz.ntmps60 Tryz.results60 rfl ⟨trivial, trivial⟩ (by kernel_rfl) rfl ?_
 unfold open_Can at h
 refine AWP.seq (.region (W.box rfl rfl rfl rfl rfl rfl (.assign rfl rfl (.nil (thn_normal (.seq ?_))))))
 obtain ⟨a11, ha11, h⟩ := bind_some h
 obtain ⟨a14, ha14, h⟩ := bind_some h
 refine AWP.region (.move rfl rfl (W.fieldAddr rfl rfl rfl rfl (.load rfl rfl rfl rfl rfl rfl (.move rfl rfl (S.idx ha11 rfl rfl rfl rfl (W.fieldAddrI rfl rfl rfl rfl (.loadI rfl rfl rfl rfl (.callR rfl rfl rfl rfl (strips_Contains_ok ha14) rfl (.assign rfl rfl (.nil (thn_normal (.ret ?_))))))))))))
 have ej := Option.some.inj h
 subst ej
 exact Done.ret rfl rfl
theorem strips_Update_ok {sv : List Int} {add : List Int} {del : List Int} {r : (List Int)} (h : strips_Update sv add del = some r) : FreshOk Tryz.prog 67 [.c (row 1 intI sv), .c (row 1 intI add), .c (row 1 intI del)] 1 (List.map intI r) := by
 unfold FreshOk
 refine FnOk.enter (rs := [.t 6]) Tryz.func67 rfl Tryz.ntmps67 Tryz.results67 rfl ⟨trivial, trivial⟩ (by kernel_rfl) rfl ?_
 unfold strips_Update at h
 refine AWP.seq (.region (.assign rfl rfl (.nil (thn_normal (.seq (.region (.assign rfl rfl (.nil (thn_normal (.seq (.seq (.region (.move rfl rfl (S.len rfl rfl (fun hl13 => .move rfl rfl (.nil (thn_normal (.block (.virtV 1 intI 7 rfl rfl rfl ?_)))))))))))))))))))
 obtain ⟨c4, ho1, h⟩ := bind_some h
 refine AWP.forS ho1 (fun t5 c4 => ⟨[(1, .c (row 1 intI add)), (2, .c (row 1 intI del)), (7, .c (.own 0 0 c4.length)), (12, .c (row 1 intI sv)), (13, .c (int (sv.length : Int))), (14, .c (int t5))], [.one (vec 1 intI c4)]⟩) (fun c4 e st => e = .exit 0 ∧ Sub [] st ⟨[(1, .c (row 1 intI add)), (7, .c (.own 0 0 c4.length))], [.one (vec 1 intI c4)]⟩) ?_ ?_ ?_ ?_
 ·try dsimp only
  exact Sub.env ⟨rfl, rfl, (own_len (by first | rfl | simp only [List.length_set])), rfl, rfl, rfl, trivial⟩
 ·intro t5 c4 hlot5 hltt5 _
  try dsimp only
  refine AWP.seq (.region (.lss rfl rfl rfl (.nil (thn_normal (.seq (.condNP rfl hltt5 (.exit (thn_exit (thn_exit ⟨rfl, ?_⟩)))))))))
  exact Sub.env ⟨rfl, rfl, trivial⟩
 ·intro t5 c4 o hlot5 hltt5 h
  unfold strips_Update_l1 at h
  try dsimp only at h ⊢
  refine AWP.seq (.region (.lss rfl rfl rfl (.nil (thn_normal (.seq (.condP rfl hltt5 (.skip (thn_normal ?_))))))))
  obtain ⟨c6, hx7, h⟩ := bind_some h
  refine AWP.seqJ (⟨[(1, .c (row 1 intI add)), (2, .c (row 1 intI del)), (7, .c (.own 2 0 c6.length)), (12, .c (row 1 intI sv)), (13, .c (int (sv.length : Int))), (14, .c (int t5))], [.dead, .dead, .one (vec 1 intI c6)]⟩) ?_ ?_
  ·refine AWP.block (.seq ?_)
   obtain ⟨a16, ha16, hx7⟩ := bind_some hx7
   refine AWP.region (S.idx ha16 rfl rfl rfl rfl (.loadI rfl rfl rfl rfl (.assign rfl rfl (.nil (thn_normal (.seq ?_))))))
   obtain ⟨a21, ha21, hx7⟩ := bind_some hx7
   refine AWP.region (.move rfl rfl (.move rfl rfl (.callR rfl rfl rfl rfl (slices_BinarySearch_int_int_ok ha21) rfl (.move rfl rfl (.extract rfl rfl rfl (.extract rfl rfl rfl (.assign rfl rfl (.assign rfl rfl (.nil (thn_normal (.seq (.region (.move rfl rfl (.not rfl rfl (.nil (thn_normal (.iteB rfl hx7 (fun hc8 hx7 => ?_) (fun hc8 hx7 => ?_))))))))))))))))))
   ·obtain ⟨a29, ha29, hx7⟩ := bind_some hx7
    refine AWP.region (.move rfl rfl (.move rfl rfl (S.lit (f := intI) (l := [a16]) (ess := [[int a16]]) rfl rfl rfl rfl rfl rfl rfl ⟨⟨.inl rfl, trivial⟩, trivial⟩ rfl rfl rfl (S.append (f := intI) ha29 rfl rfl rfl rfl rfl rfl (.own rfl rfl) rfl rfl rfl rfl (.assign rfl rfl (.nil (inB_normal ?_)))))))
    have ej := Option.some.inj hx7
    subst ej
    refine thn_normal (Sub.cut ⟨rfl, rfl, rfl, rfl, rfl, rfl, trivial⟩ rfl ⟨.dead, .dead, .vec, trivial⟩ rfl)
   ·refine AWP.skip (inB_normal ?_)
    have ej := Option.some.inj hx7
    subst ej
    refine thn_normal ((Sub.move (env' := [(1, .c (row 1 intI add)), (2, .c (row 1 intI del)), (7, .c (.own 2 0 c4.length)), (12, .c (row 1 intI sv)), (13, .c (int (sv.length : Int))), (14, .c (int t5))]) (σ' := [.dead, .dead, .one (vec 1 intI c4)]) 2 0 rfl rfl rfl ⟨rfl, rfl, rfl, rfl, rfl, rfl, trivial⟩ rfl ⟨trivial, trivial, ⟨Blk.im_ok _ _ _, vec_mv rfl⟩, trivial⟩).trans (Sub.env ⟨rfl, rfl, rfl, rfl, rfl, rfl, trivial⟩))
  ·refine AWP.region (.add rfl rfl rfl (by omega) (.move rfl rfl (.nil ?_)))
   have ej := Option.some.inj h
   subst ej
   refine thn_normal ((Sub.move (env' := [(1, .c (row 1 intI add)), (2, .c (row 1 intI del)), (7, .c (.own 0 0 c6.length)), (12, .c (row 1 intI sv)), (13, .c (int (sv.length : Int))), (14, .c (int (t5 + 1)))]) (σ' := [.one (vec 1 intI c6), .dead]) 0 2 rfl rfl rfl ⟨rfl, rfl, rfl, rfl, rfl, rfl, trivial⟩ rfl ⟨⟨Blk.im_ok _ _ _, vec_mv rfl⟩, trivial, trivial⟩).trans (Sub.cut ⟨rfl, rfl, rfl, rfl, rfl, rfl, trivial⟩ rfl ⟨.vec, trivial⟩ rfl))
 ·intro e s hq
  obtain ⟨rfl, hs⟩ := hq
  refine ⟨_, hs, ?_⟩
  refine inB_exit (thn_normal (.seq ?_))
  obtain ⟨a33, ha33, h⟩ := bind_some h
  refine AWP.region (.move rfl rfl (.move rfl rfl (S.append (f := intI) ha33 rfl rfl rfl rfl rfl rfl .row rfl rfl rfl rfl (.assign rfl rfl (.nil (thn_normal (.seq (.move (env' := [(7, .c (.own 0 0 a33.length))]) (σ' := [.one (vec 1 intI a33)]) 0 1 rfl rfl rfl ⟨rfl, trivial⟩ rfl ⟨⟨Blk.im_ok _ _ _, vec_mv rfl⟩, trivial⟩ ?_))))))))
  obtain ⟨a35, ha35, h⟩ := bind_some h
  refine AWP.region (.move rfl rfl (S.sort ha35 sortL_ok rfl rfl rfl rfl rfl rfl (.nil (thn_normal (.seq (.region (.move rfl rfl (S.compact compactL_ok rfl rfl (sortL_len ha35) rfl rfl rfl rfl rfl (.assign rfl rfl (.nil (thn_normal (.ret ?_))))))))))))
  have ej := Option.some.inj h
  subst ej
  exact Done.ret rfl (Fresh.mk rfl rfl)
theorem cmp_Compare_int_ok {xv : Int} {yv : Int} {r : Int} (h : cmp_Compare_int xv yv = some r) : PureOk Tryz.prog 95 [.c (int xv), .c (int yv)] (.c (int r)) := by
 unfold PureOk
 refine FnOk.enter (rs := [.t 4]) Tryz.func95 rfl Tryz.ntmps95 Tryz.results95 rfl ⟨trivial, trivial⟩ (by kernel_rfl) rfl ?_
 unfold cmp_Compare_int at h
 refine AWP.seq (.region (.assign rfl rfl (.nil (thn_normal (.seq ?_)))))
 obtain ⟨a8, ha8, h⟩ := bind_some h
 refine AWP.region (.move rfl rfl (.callR rfl rfl rfl rfl (cmp_isNaN_int_ok ha8) rfl (.assign rfl rfl (.nil (thn_normal (.seq ?_))))))
 obtain ⟨a10, ha10, h⟩ := bind_some h
 refine AWP.region (.move rfl rfl (.callR rfl rfl rfl rfl (cmp_isNaN_int_ok ha10) rfl (.assign rfl rfl (.nil (thn_normal (.seq (.seq (.region (.move rfl rfl (.nil (thn_normal (.iteB rfl h (fun hc3 h => ?_) (fun hc3 h => ?_)))))))))))))
 ·refine AWP.seq (.seq (.region (.move rfl rfl (.nil (thn_normal (.iteB rfl h (fun hc4 h => ?_) (fun hc4 h => ?_)))))))
  ·refine AWP.seq (.region (.assign rfl rfl (.nil (thn_normal (.ret (thn_ret (thn_ret ?_)))))))
   have ej := Option.some.inj h
   subst ej
   exact Done.ret rfl rfl
  ·refine AWP.skip (thn_normal (.seq (.region (.assign rfl rfl (.nil (thn_normal (.ret (thn_ret ?_))))))))
   have ej := Option.some.inj h
   subst ej
   exact Done.ret rfl rfl
 ·refine AWP.skip (thn_normal (.seq (.seq (.region (.move rfl rfl (.nil (thn_normal (.iteB rfl h (fun hc5 h => ?_) (fun hc5 h => ?_)))))))))
  ·refine AWP.seq (.region (.assign rfl rfl (.nil (thn_normal (.ret (thn_ret ?_))))))
   have ej := Option.some.inj h
   subst ej
   exact Done.ret rfl rfl
  ·refine AWP.skip (thn_normal (.seq (.seq (.region (.move rfl rfl (.move rfl rfl (.lss rfl rfl rfl (.nil (thn_normal (.ite rfl h (fun hc6 h => ?_) (fun hc6 h => ?_)))))))))))
   ·refine AWP.seq (.region (.assign rfl rfl (.nil (thn_normal (.ret (thn_ret ?_))))))
    have ej := Option.some.inj h
    subst ej
    exact Done.ret rfl rfl
   ·refine AWP.skip (thn_normal (.seq (.seq (.region (.move rfl rfl (.move rfl rfl (.gtr rfl rfl rfl (.nil (thn_normal (.ite rfl h (fun hc7 h => ?_) (fun hc7 h => ?_)))))))))))
    ·refine AWP.seq (.region (.assign rfl rfl (.nil (thn_normal (.ret (thn_ret ?_))))))
     have ej := Option.some.inj h
     subst ej
     exact Done.ret rfl rfl
    ·refine AWP.skip (thn_normal (.seq (.region (.assign rfl rfl (.nil (thn_normal (.ret ?_)))))))
     have ej := Option.some.inj h
     subst ej
     exact Done.ret rfl rfl
theorem slices_Compare_int_int_ok {s11 : List Int} {s22 : List Int} {r : Int} (h : slices_Compare_int_int s11 s22 = some r) : PureOk Tryz.prog 72 [.c (row 1 intI s11), .c (row 1 intI s22)] (.c (int r)) := by
 unfold PureOk
 refine FnOk.enter (rs := [.t 4]) Tryz.func72 rfl Tryz.ntmps72 Tryz.results72 rfl ⟨trivial, trivial⟩ (by kernel_rfl) rfl ?_
 unfold slices_Compare_int_int at h
 refine AWP.seq (.region (.assign rfl rfl (.nil (thn_normal (.seq (.seq (.region (.move rfl rfl (S.len rfl rfl (fun hl10 => .move rfl rfl (.nil (thn_normal (.block ?_)))))))))))))
 obtain ⟨oo, ho1, h⟩ := bind_some h
 refine AWP.rngS ho1 (fun t3 _ => ⟨[(0, .c (row 1 intI s11)), (1, .c (row 1 intI s22)), (9, .c (row 1 intI s11)), (10, .c (int (s11.length : Int))), (11, .c (int t3))], []⟩) (fun o e st => match o with | .inl _ => e = .exit 0 ∧ Sub [] st ⟨[(0, .c (row 1 intI s11)), (1, .c (row 1 intI s22))], []⟩ | .inr x => e = .ret ∧ Done [.t 4] (fun t _ => t = .c (int x)) .ret st) ?_ ?_ ?_ ?_
 ·try dsimp only
  exact Sub.env ⟨rfl, rfl, rfl, rfl, rfl, trivial⟩
 ·intro t3 s hlot3 hltt3 _
  try dsimp only
  refine AWP.seq (.region (.lss rfl rfl rfl (.nil (thn_normal (.seq (.condNP rfl hltt3 (.exit (thn_exit (thn_exit ⟨rfl, ?_⟩)))))))))
  exact Sub.env ⟨rfl, rfl, trivial⟩
 ·intro t3 s o hlot3 hltt3 h
  unfold slices_Compare_int_int_l1 at h
  try dsimp only at h ⊢
  refine AWP.seq (.region (.lss rfl rfl rfl (.nil (thn_normal (.seq (.condP rfl hltt3 (.skip (thn_normal (.seq (.block (.seq ?_)))))))))))
  obtain ⟨a14, ha14, h⟩ := bind_some h
  refine AWP.region (.move rfl rfl (S.idx ha14 rfl rfl rfl rfl (.loadI rfl rfl rfl rfl (.assign rfl rfl (.assign rfl rfl (.nil (thn_normal (.seq (.seq (.region (.move rfl rfl (.move rfl rfl (S.len rfl rfl (fun hl18 => .geq rfl rfl rfl (.nil (thn_normal (.ite rfl h (fun hc4 h => ?_) (fun hc4 h => ?_))))))))))))))))))
  ·refine AWP.seq (.region (.assign rfl rfl (.nil (thn_normal (.ret (thn_ret (inB_ret (thn_ret ?_))))))))
   have ej := Option.some.inj h
   subst ej
   refine thn_ret ⟨_, rfl, rfl, ?_⟩
   exact Done.ret rfl rfl
  ·refine AWP.skip (thn_normal (.seq ?_))
   obtain ⟨a22, ha22, h⟩ := bind_some h
   refine AWP.region (.move rfl rfl (.move rfl rfl (S.idx ha22 rfl rfl rfl rfl (.loadI rfl rfl rfl rfl (.assign rfl rfl (.nil (thn_normal (.seq ?_))))))))
   obtain ⟨a26, ha26, h⟩ := bind_some h
   refine AWP.region (.move rfl rfl (.move rfl rfl (.callR rfl rfl rfl rfl (cmp_Compare_int_ok ha26) rfl (.assign rfl rfl (.nil (thn_normal (.seq (.region (.move rfl rfl (.neq rfl rfl rfl (.nil (thn_normal (.iteN rfl h (fun hc5 h => ?_) (fun hc5 h => ?_))))))))))))))
   ·refine AWP.seq (.region (.move rfl rfl (.assign rfl rfl (.nil (thn_normal (.ret (inB_ret (thn_ret ?_))))))))
    have ej := Option.some.inj h
    subst ej
    refine thn_ret ⟨_, rfl, rfl, ?_⟩
    exact Done.ret rfl rfl
   ·refine AWP.skip (inB_normal (thn_normal (.region (.add rfl rfl rfl (by omega) (.move rfl rfl (.nil ?_))))))
    have ej := Option.some.inj h
    subst ej
    refine thn_normal ⟨_, rfl, ?_⟩
    exact Sub.env ⟨rfl, rfl, rfl, rfl, rfl, trivial⟩
 ·intro e s hq
  rcases oo with u | x
  ·try dsimp only at h hq
   obtain ⟨rfl, hs⟩ := hq
   refine ⟨_, hs, ?_⟩
   refine inB_exit (thn_normal (.seq (.seq (.region (.move rfl rfl (S.len rfl rfl (fun hl32 => .move rfl rfl (S.len rfl rfl (fun hl34 => .lss rfl rfl rfl (.nil (thn_normal (.ite rfl h (fun hc6 h => ?_) (fun hc6 h => ?_)))))))))))))
   ·refine AWP.seq (.region (.assign rfl rfl (.nil (thn_normal (.ret (thn_ret ?_))))))
    have ej := Option.some.inj h
    subst ej
    exact Done.ret rfl rfl
   ·refine AWP.skip (thn_normal (.seq (.region (.assign rfl rfl (.nil (thn_normal (.ret ?_)))))))
    have ej := Option.some.inj h
    subst ej
    exact Done.ret rfl rfl
  ·try dsimp only at h hq
   obtain ⟨rfl, hs⟩ := hq
   refine ⟨_, Sub.refl _ _, ?_⟩
   refine inB_ret (thn_ret ?_)
   have ej := Option.some.inj h
   subst ej
   exact hs
theorem slices_Equal_int_int_ok {s11 : List Int} {s22 : List Int} {r : Bool} (h : slices_Equal_int_int s11 s22 = some r) : PureOk Tryz.prog 82 [.c (row 1 intI s11), .c (row 1 intI s22)] (.c (bool r)) := by
 unfold PureOk
 refine FnOk.enter (rs := [.t 4]) Tryz.func82 rfl Tryz.ntmps82 Tryz.results82 rfl ⟨trivial, trivial⟩ (by kernel_rfl) rfl ?_
 unfold slices_Equal_int_int at h
 refine AWP.seq (.region (.assign rfl rfl (.nil (thn_normal (.seq (.seq (.region (.move rfl rfl (S.len rfl rfl (fun hl7 => .move rfl rfl (S.len rfl rfl (fun hl9 => .neq rfl rfl rfl (.nil (thn_normal (.iteN rfl h (fun hc3 h => ?_) (fun hc3 h => ?_))))))))))))))))
 ·refine AWP.seq (.region (.assign rfl rfl (.nil (thn_normal (.ret (thn_ret ?_))))))
  have ej := Option.some.inj h
  subst ej
  exact Done.ret rfl rfl
 ·refine AWP.skip (thn_normal (.seq (.seq (.region (.move rfl rfl (S.len rfl rfl (fun hl12 => .move rfl rfl (.nil (thn_normal (.block ?_))))))))))
  obtain ⟨oo, ho1, h⟩ := bind_some h
  refine AWP.rngS ho1 (fun t4 _ => ⟨[(0, .c (row 1 intI s11)), (1, .c (row 1 intI s22)), (12, .c (int (s11.length : Int))), (13, .c (int t4))], []⟩) (fun o e st => match o with | .inl _ => e = .exit 0 ∧ Sub [] st ⟨[], []⟩ | .inr x => e = .ret ∧ Done [.t 4] (fun t _ => t = .c (bool x)) .ret st) ?_ ?_ ?_ ?_
  ·try dsimp only
   exact Sub.env ⟨rfl, rfl, rfl, rfl, trivial⟩
  ·intro t4 s hlot4 hltt4 _
   try dsimp only
   refine AWP.seq (.region (.lss rfl rfl rfl (.nil (thn_normal (.seq (.condNP rfl hltt4 (.exit (thn_exit (thn_exit ⟨rfl, ?_⟩)))))))))
   exact Sub.env trivial
  ·intro t4 s o hlot4 hltt4 h
   unfold slices_Equal_int_int_l1 at h
   try dsimp only at h ⊢
   refine AWP.seq (.region (.lss rfl rfl rfl (.nil (thn_normal (.seq (.condP rfl hltt4 (.skip (thn_normal (.seq (.block (.seq (.region (.move rfl rfl (.assign rfl rfl (.nil (thn_normal (.seq ?_)))))))))))))))))
   obtain ⟨a18, ha18, h⟩ := bind_some h
   obtain ⟨a22, ha22, h⟩ := bind_some h
   refine AWP.drawI mixed rfl ?_
   apply DrawSeq.consF; exact rfl; intro E
   refine AOps.move rfl rfl (.nil ⟨rfl, rfl⟩)
   exact rfl
   apply DrawSeq.consF; exact rfl; intro E
   refine AOps.move rfl rfl (.nil ⟨rfl, rfl⟩)
   exact rfl
   apply DrawSeq.consF; exact rfl; intro E
   refine S.idx ha18 rfl rfl rfl rfl (.nil ⟨rfl, rfl⟩)
   exact rfl
   apply DrawSeq.consF; exact rfl; intro E
   refine AOps.loadI rfl rfl rfl rfl (.nil ⟨rfl, rfl⟩)
   exact rfl
   apply DrawSeq.consF; exact rfl; intro E
   refine AOps.move rfl rfl (.nil ⟨rfl, rfl⟩)
   exact rfl
   apply DrawSeq.consF; exact rfl; intro E
   refine AOps.move rfl rfl (.nil ⟨rfl, rfl⟩)
   exact rfl
   apply DrawSeq.consF; exact rfl; intro E
   refine S.idx ha22 rfl rfl rfl rfl (.nil ⟨rfl, rfl⟩)
   exact rfl
   apply DrawSeq.consF; exact rfl; intro E
   refine AOps.loadI rfl rfl rfl rfl (.nil ⟨rfl, rfl⟩)
   exact rfl
   apply DrawSeq.consF; exact rfl; intro E
   refine AOps.neq rfl rfl rfl (.nil ⟨rfl, rfl⟩)
   exact rfl
   refine DrawSeq.done ?_
   dsimp only [envEnd]
   refine thn_normal (.iteN rfl h (fun hc5 h => ?_) (fun hc5 h => ?_))
   ·refine AWP.seq (.region (.assign rfl rfl (.nil (thn_normal (.ret (inB_ret (thn_ret ?_)))))))
    have ej := Option.some.inj h
    subst ej
    refine thn_ret ⟨_, rfl, rfl, ?_⟩
    exact Done.ret rfl rfl
   ·refine AWP.skip (inB_normal (thn_normal (.region (.add rfl rfl rfl (by omega) (.move rfl rfl (.nil ?_))))))
    have ej := Option.some.inj h
    subst ej
    refine thn_normal ⟨_, rfl, ?_⟩
    exact Sub.env ⟨rfl, rfl, rfl, rfl, trivial⟩
  ·intro e s hq
   rcases oo with u | x
   ·try dsimp only at h hq
    obtain ⟨rfl, hs⟩ := hq
    refine ⟨_, hs, ?_⟩
    refine inB_exit (thn_normal (.seq (.region (.assign rfl rfl (.nil (thn_normal (.ret ?_)))))))
    have ej := Option.some.inj h
    subst ej
    exact Done.ret rfl rfl
   ·try dsimp only at h hq
    obtain ⟨rfl, hs⟩ := hq
    refine ⟨_, Sub.refl _ _, ?_⟩
    refine inB_ret (thn_ret ?_)
    have ej := Option.some.inj h
    subst ej
    exact hs
theorem slices_BinarySearchFunc_int_int_int_ok {xv : List (List Int)} {target : List Int} {cmp : (List Int) → (List Int) → Option Int} {r : Int × Bool} {fvcmp : FuncId} {cvcmp : List C} (hcvcmp : C.okL 0 cvcmp = true) (hcmp : ∀ {y1 : List Int} {y2 : List Int} {z : Int}, cmp y1 y2 = some z → PureOk Tryz.prog fvcmp ([.c (row 1 intI y1), .c (row 1 intI y2)] ++ cvcmp.map T.c) (.c (int z))) (h : slices_BinarySearchFunc_int_int_int xv target cmp = some r) : PureOk Tryz.prog 71 [.c (row 1 eLi64 xv), .c (row 1 intI target), .c (.fn fvcmp cvcmp)] (.tup [.c (int r.1), .c (bool r.2)]) := by
 unfold PureOk
 refine FnOk.enter (rs := [.t 6, .t 7]) Tryz.func71 rfl Tryz.ntmps71 Tryz.results71 rfl ⟨trivial, trivial, trivial⟩ (by kernel_rfl) rfl ?_
 unfold slices_BinarySearchFunc_int_int_int at h
 refine AWP.seq (.region (.assign rfl rfl (.assign rfl rfl (.nil (thn_normal (.seq (.region (.move rfl rfl (S.len rfl rfl (fun hl13 => .assign rfl rfl (.nil (thn_normal (.seq (.region (.move rfl rfl (.assign rfl rfl (.assign rfl rfl (.nil (thn_normal (.seq (.block ?_)))))))))))))))))))))
 obtain ⟨iv6, ho1, h⟩ := bind_some h
 refine AWP.loopS ho1 (fun (iv4, j5) => ⟨[(0, .c (row 1 eLi64 xv)), (1, .c (row 1 intI target)), (2, .c (.fn fvcmp cvcmp)), (8, .c (int (xv.length : Int))), (9, .c (int iv4)), (10, .c (int j5))], []⟩) (fun iv6 e st => e = .exit 0 ∧ Sub [] st ⟨[(0, .c (row 1 eLi64 xv)), (1, .c (row 1 intI target)), (2, .c (.fn fvcmp cvcmp)), (8, .c (int (xv.length : Int))), (9, .c (int iv6))], []⟩) ?_ ?_ ?_
 ·try dsimp only
  exact Sub.env ⟨rfl, rfl, rfl, rfl, rfl, rfl, trivial⟩
 ·intro s o h
  obtain ⟨iv4, j5⟩ := s
  unfold slices_BinarySearchFunc_int_int_int_l1 at h
  try dsimp only at h ⊢
  refine AWP.seq (.seq (.region (.move rfl rfl (.move rfl rfl (.lss rfl rfl rfl (.nil (thn_normal (.ite rfl h (fun hc7 h => ?_) (fun hc7 h => ?_)))))))))
  ·refine AWP.skip (thn_normal (.block (.seq (.region (.move rfl rfl (.move rfl rfl (S.add rfl rfl rfl (.convInt rfl rfl (.shr rfl rfl rfl (by decide) rfl (.convInt rfl rfl (.assign rfl rfl (.nil (thn_normal (.seq ?_))))))))))))))
   obtain ⟨a27, ha27, h⟩ := bind_some h
   obtain ⟨a30, ha30, h⟩ := bind_some h
   refine AWP.region (.move rfl rfl (.move rfl rfl (.move rfl rfl (S.idx ha27 rfl rfl rfl rfl (.loadI rfl rfl rfl rfl (.move rfl rfl (.callR rfl rfl (okL_app rfl hcvcmp) rfl (hcmp ha30) rfl (.lss rfl rfl rfl (.nil (thn_normal (.ite rfl h (fun hc8 h => ?_) (fun hc8 h => ?_))))))))))))
   ·refine AWP.region (.move rfl rfl (S.add rfl rfl rfl (.assign rfl rfl (.nil (inB_normal ?_)))))
    have ej := Option.some.inj h
    subst ej
    refine thn_normal ⟨_, rfl, ?_⟩
    exact Sub.env ⟨rfl, rfl, rfl, rfl, rfl, rfl, trivial⟩
   ·refine AWP.region (.move rfl rfl (.assign rfl rfl (.nil (inB_normal ?_))))
    have ej := Option.some.inj h
    subst ej
    refine thn_normal ⟨_, rfl, ?_⟩
    exact Sub.env ⟨rfl, rfl, rfl, rfl, rfl, rfl, trivial⟩
  ·refine AWP.exit (thn_exit ?_)
   have ej := Option.some.inj h
   subst ej
   refine thn_exit ⟨_, rfl, rfl, ?_⟩
   exact Sub.env ⟨rfl, rfl, rfl, rfl, rfl, trivial⟩
 ·intro e s hq
  obtain ⟨rfl, hs⟩ := hq
  refine ⟨_, hs, ?_⟩
  refine inB_exit (thn_normal ?_)
  obtain ⟨t9, hx10, h⟩ := bind_some h
  refine AWP.seqJ (⟨[(6, .c (int iv6)), (7, .c (bool t9))], []⟩) ?_ ?_
  ·rcases Bool.eq_false_or_eq_true (decide (iv6 < (xv.length : Int))) with hb11 | hb11
   ·replace hx10 := iteDT hb11 hx10
    obtain ⟨a43, ha43, hx10⟩ := bind_some hx10
    obtain ⟨a46, ha46, hx10⟩ := bind_some hx10
    refine AWP.region (.move rfl rfl (.move rfl rfl (.move rfl rfl (.lss rfl rfl rfl (.move rfl rfl (.guardT rfl rfl rfl hb11 (.move rfl rfl (.guardT rfl rfl rfl hb11 (.move rfl rfl (.guardT rfl rfl rfl hb11 (.move rfl rfl (.guardT rfl rfl rfl hb11 (S.idx ha43 rfl rfl rfl rfl (.guardT rfl rfl rfl hb11 (.loadI rfl rfl rfl rfl (.guardT rfl rfl rfl hb11 (.move rfl rfl (.guardT rfl rfl rfl hb11 (.callR rfl rfl (okL_app rfl hcvcmp) rfl (hcmp ha46) rfl (.guardT rfl rfl rfl hb11 (.eql rfl rfl rfl (.pickT rfl hb11 rfl rfl (.assign rfl rfl (.assign rfl rfl (.nil ?_)))))))))))))))))))))))))
    have ej := Option.some.inj hx10
    subst ej
    refine thn_normal (Sub.env ⟨rfl, rfl, trivial⟩)
   ·replace hx10 := iteDF hb11 hx10
    refine AWP.region (.move rfl rfl (.move rfl rfl (.move rfl rfl (.lss rfl rfl rfl (.move rfl rfl (.guardF rfl rfl rfl hb11 (.guardF rfl rfl rfl hb11 (.guardF rfl rfl rfl hb11 (.guardF rfl rfl rfl hb11 (.guardF rfl rfl rfl hb11 (.guardF rfl rfl rfl hb11 (.guardF rfl rfl rfl hb11 (.guardF rfl rfl rfl hb11 (.pickF rfl hb11 rfl rfl (.assign rfl rfl (.assign rfl rfl (.nil ?_)))))))))))))))))
    have ej := Option.some.inj hx10
    subst ej
    refine thn_normal (Sub.env ⟨rfl, rfl, trivial⟩)
  ·refine AWP.ret ?_
   have ej := Option.some.inj h
   subst ej
   exact Done.ret rfl rfl
theorem slices_CompactFunc_int_int_w_ok {l : List (List Int)} {r : (List (List Int))} (h : slices_CompactFunc_int_int_w l = some r) : FnOk Tryz.prog 100 [.c (.own 0 0 l.length), .c (.fn 82 [])] (slices_CompactFunc_int_int_w_s0 l) (fun tt ss => tt = .c (.own 1 0 r.length) ∧ ss = [.dead, .one (vec 1 eLi64 r)]) := by
 refine FnOk.enter (rs := [.t 4]) Tryz.func100 rfl Tryz.ntmps100 Tryz.results100 rfl ⟨trivial, trivial⟩ (by kernel_rfl) rfl ?_
 refine AWP.weak ?_
 unfold slices_CompactFunc_int_int_w at h
 refine AWP.move (env' := [(0, .c (.own 1 0 l.length)), (1, .c (.fn 82 []))]) (σ' := [.dead, .one (vec 1 eLi64 l)]) 1 0 rfl rfl rfl ⟨rfl, rfl, trivial⟩ rfl ⟨trivial, ⟨Blk.im_ok _ _ _, vec_mv rfl⟩, trivial⟩ (.seq (.region (.assign rfl rfl (.nil (thn_normal (.seq (.seq (.region (.move rfl rfl (S.lenO rfl rfl rfl (fun hl9 => .lss rfl rfl rfl (.nil (thn_normal (.ite rfl h (fun hc53 h => ?_) (fun hc53 h => ?_)))))))))))))))
 ·refine AWP.seq (.region (.move rfl rfl (.assign rfl rfl (.nil (thn_normal (.ret (thn_ret ?_)))))))
  have ej := Option.some.inj h
  subst ej
  exact ⟨⟨[(4, .c (.own 1 0 l.length))], [.dead, .one (vec 1 eLi64 l)]⟩, Sub.env ⟨rfl, trivial⟩, Done.ret rfl ⟨rfl, rfl⟩⟩
 ·refine AWP.skip (thn_normal (.seq (.seq (.region (.assign rfl rfl (.nil (thn_normal (.block ?_))))))))
  obtain ⟨oo, ho1, h⟩ := bind_some h
  refine AWP.rngS ho1 (fun kv54 _ => ⟨[(0, .c (.own 1 0 l.length)), (1, .c (.fn 82 [])), (5, .c (int kv54))], [.dead, .one (vec 1 eLi64 l)]⟩) (fun o e st => match o with | .inl _ => e = .exit 0 ∧ Sub (slices_CompactFunc_int_int_w_s0 l) st ⟨[(0, .c (.own 1 0 l.length))], [.dead, .one (vec 1 eLi64 l)]⟩ | .inr x => e = .ret ∧ ∃ J, Sub (slices_CompactFunc_int_int_w_s0 l) st J ∧ Done [.t 4] (fun tt ss => tt = .c (.own 1 0 x.length) ∧ ss = [.dead, .one (vec 1 eLi64 x)]) .ret J) ?_ ?_ ?_ ?_
  ·try dsimp only
   exact Sub.env ⟨rfl, rfl, rfl, trivial⟩
  ·intro kv54 s hlokv54 hltkv54 _
   try dsimp only
   refine AWP.seq (.seq (.region (.move rfl rfl (.move rfl rfl (S.lenO rfl rfl rfl (fun hl14 => .lss rfl rfl rfl (.nil (thn_normal (.condNP rfl hltkv54 (.exit (thn_exit (thn_exit ⟨rfl, ?_⟩))))))))))))
   exact Sub.env ⟨rfl, trivial⟩
  ·intro kv54 s o hlokv54 hltkv54 h
   unfold slices_CompactFunc_int_int_w_l1 at h
   try dsimp only at h ⊢
   refine AWP.seq (.seq (.region (.move rfl rfl (.move rfl rfl (S.lenO rfl rfl rfl (fun hl14 => .lss rfl rfl rfl (.nil (thn_normal (.condP rfl hltkv54 (.skip (thn_normal (.seq (.block (.seq ?_))))))))))))))
   obtain ⟨a21, ha21, h⟩ := bind_some h
   obtain ⟨a26, ha26, h⟩ := bind_some h
   obtain ⟨a28, ha28, h⟩ := bind_some h
   refine AWP.drawI mixed rfl ?_
   apply DrawSeq.consF; exact rfl; intro E
   refine AOps.move rfl rfl (.nil ⟨rfl, rfl⟩)
   exact rfl
   apply DrawSeq.consF; exact rfl; intro E
   refine AOps.move rfl rfl (.nil ⟨rfl, rfl⟩)
   exact rfl
   apply DrawSeq.consF; exact rfl; intro E
   refine AOps.move rfl rfl (.nil ⟨rfl, rfl⟩)
   exact rfl
   apply DrawSeq.consF; exact rfl; intro E
   refine S.idxO ha21 rfl rfl rfl rfl rfl (.nil ⟨rfl, rfl⟩)
   exact rfl
   apply DrawSeq.consF; exact rfl; intro E
   refine S.loadO ha21 rfl rfl rfl rfl rfl (.nil ⟨rfl, rfl⟩)
   exact rfl
   apply DrawSeq.consF; exact rfl; intro E
   refine AOps.move rfl rfl (.nil ⟨rfl, rfl⟩)
   exact rfl
   apply DrawSeq.consF; exact rfl; intro E
   refine AOps.move rfl rfl (.nil ⟨rfl, rfl⟩)
   exact rfl
   apply DrawSeq.consF; exact rfl; intro E
   refine AOps.sub' rfl rfl rfl (by omega) (.nil ⟨rfl, rfl⟩)
   exact rfl
   apply DrawSeq.consF; exact rfl; intro E
   refine S.idxO ha26 rfl rfl rfl rfl rfl (.nil ⟨rfl, rfl⟩)
   exact rfl
   apply DrawSeq.consF; exact rfl; intro E
   refine S.loadO ha26 rfl rfl rfl rfl rfl (.nil ⟨rfl, rfl⟩)
   exact rfl
   apply DrawSeq.consF; exact rfl; intro E
   refine AOps.callR rfl rfl rfl rfl (slices_Equal_int_int_ok ha28) rfl (.nil ⟨rfl, rfl⟩)
   exact rfl
   refine DrawSeq.done ?_
   dsimp only [envEnd]
   refine thn_normal (.iteB rfl h (fun hc55 h => ?_) (fun hc55 h => ?_))
   ·refine AWP.seq ?_
    obtain ⟨u31, hu31, h⟩ := bind_some h
    refine AWP.region (.move rfl rfl (.move rfl rfl (S.vFrom (vw_full l) hu31 rfl rfl rfl rfl rfl rfl (.assign rfl rfl (.nil (thn_normal (.seq (.seq (.region (.assign rfl rfl (.nil (thn_normal (.block ?_)))))))))))))
    obtain ⟨⟨c56, kv57⟩, ho2, h⟩ := bind_some h
    try dsimp only at h
    refine AWP.forS ho2 (fun k258 (c56, kv57) => ⟨[(0, .c (.own 1 0 c56.length)), (1, .c (.fn 82 [])), (5, .c (int kv57)), (6, .c (.own 1 ((0 + kv54).toNat) (((l.length : Int) - kv54).toNat))), (7, .c (int k258))], [.dead, .one (vec 1 eLi64 c56)]⟩) (fun (c56, kv57) e st => e = .exit 2 ∧ Sub (slices_CompactFunc_int_int_w_s0 l) st ⟨[(0, .c (.own 1 0 c56.length)), (5, .c (int kv57))], [.dead, .one (vec 1 eLi64 c56)]⟩) ?_ ?_ ?_ ?_
    ·try dsimp only
     exact Sub.env ⟨rfl, rfl, rfl, rfl, rfl, trivial⟩
    ·intro k258 s hlok258 hltk258 _
     obtain ⟨c56, kv57⟩ := s
     try dsimp only
     refine AWP.seq (.seq (.region (.move rfl rfl (.move rfl rfl (S.lenV (vw_get (vw_cut (vw_full l) hu31)).2.1 rfl rfl rfl (fun hl34 => .lss rfl rfl rfl (.nil (thn_normal (.condNP rfl hltk258 (.exit (thn_exit (thn_exit ⟨rfl, ?_⟩))))))))))))
     exact Sub.env ⟨rfl, rfl, trivial⟩
    ·intro k258 s o hlok258 hltk258 h
     obtain ⟨c56, kv57⟩ := s
     unfold slices_CompactFunc_int_int_w_l2 at h
     try dsimp only at h ⊢
     refine AWP.seq (.seq (.region (.move rfl rfl (.move rfl rfl (S.lenV (vw_get (vw_cut (vw_full l) hu31)).2.1 rfl rfl rfl (fun hl34 => .lss rfl rfl rfl (.nil (thn_normal (.condP rfl hltk258 (.skip (thn_normal ?_)))))))))))
     obtain ⟨⟨c59, kv60⟩, hx61, h⟩ := bind_some h
     refine AWP.seqJ (⟨[(0, .c (.own 1 0 c59.length)), (1, .c (.fn 82 [])), (5, .c (int kv60)), (6, .c (.own 1 ((0 + kv54).toNat) (((l.length : Int) - kv54).toNat))), (7, .c (int k258))], [.dead, .one (vec 1 eLi64 c59)]⟩) ?_ ?_
     ·refine AWP.block (.seq ?_)
      obtain ⟨a41, ha41, hx61⟩ := bind_some hx61
      obtain ⟨a46, ha46, hx61⟩ := bind_some hx61
      obtain ⟨a48, ha48, hx61⟩ := bind_some hx61
      refine AWP.drawI mixed rfl ?_
      apply DrawSeq.consF; exact rfl; intro E
      refine AOps.move rfl rfl (.nil ⟨rfl, rfl⟩)
      exact rfl
      apply DrawSeq.consF; exact rfl; intro E
      refine AOps.move rfl rfl (.nil ⟨rfl, rfl⟩)
      exact rfl
      apply DrawSeq.consF; exact rfl; intro E
      refine AOps.move rfl rfl (.nil ⟨rfl, rfl⟩)
      exact rfl
      apply DrawSeq.consF; exact rfl; intro E
      refine S.idxV ha41 rfl rfl rfl rfl (.nil ⟨rfl, rfl⟩)
      exact rfl
      apply DrawSeq.consF; exact rfl; intro E
      refine S.loadO (ixV_ix ha41) rfl rfl rfl rfl rfl (.nil ⟨rfl, rfl⟩)
      exact rfl
      apply DrawSeq.consF; exact rfl; intro E
      refine AOps.move rfl rfl (.nil ⟨rfl, rfl⟩)
      exact rfl
      apply DrawSeq.consF; exact rfl; intro E
      refine AOps.move rfl rfl (.nil ⟨rfl, rfl⟩)
      exact rfl
      apply DrawSeq.consF; exact rfl; intro E
      refine AOps.sub' rfl rfl rfl (by omega) (.nil ⟨rfl, rfl⟩)
      exact rfl
      apply DrawSeq.consF; exact rfl; intro E
      refine S.idxV ha46 rfl rfl rfl rfl (.nil ⟨rfl, rfl⟩)
      exact rfl
      apply DrawSeq.consF; exact rfl; intro E
      refine S.loadO (ixV_ix ha46) rfl rfl rfl rfl rfl (.nil ⟨rfl, rfl⟩)
      exact rfl
      apply DrawSeq.consF; exact rfl; intro E
      refine AOps.callR rfl rfl rfl rfl (slices_Equal_int_int_ok ha48) rfl (.nil ⟨rfl, rfl⟩)
      exact rfl
      apply DrawSeq.consF; exact rfl; intro E
      refine AOps.not rfl rfl (.nil ⟨rfl, rfl⟩)
      exact rfl
      refine DrawSeq.done ?_
      dsimp only [envEnd]
      refine thn_normal (.iteB rfl hx61 (fun hc62 hx61 => ?_) (fun hc62 hx61 => ?_))
      ·refine AWP.seq ?_
       obtain ⟨a54, ha54, hx61⟩ := bind_some hx61
       obtain ⟨a56, ha56, hx61⟩ := bind_some hx61
       refine AWP.region (.move rfl rfl (.move rfl rfl (.move rfl rfl (.move rfl rfl (S.idxV ha54 rfl rfl rfl rfl (S.loadO (ixV_ix ha54) rfl rfl rfl rfl rfl (S.idxO ha56 rfl rfl rfl rfl rfl (S.storeO1 (f := eLi64) (a' := a54) (ix_lt ha56) (fun _ => ⟨_, rfl⟩) rfl rfl rfl rfl rfl ?_))))))))
       refine AOps.nil (thn_normal (.region (.move rfl rfl (S.add rfl rfl rfl (.assign rfl rfl (.nil (inB_normal ?_)))))))
       have ej := Option.some.inj hx61
       simp only [Prod.mk.injEq] at ej
       obtain ⟨ej0, ej1⟩ := ej
       subst ej0
       subst ej1
       refine thn_normal (Sub.env ⟨(own_len (by first | rfl | simp only [List.length_set])), rfl, rfl, rfl, rfl, trivial⟩)
      ·refine AWP.skip (inB_normal ?_)
       have ej := Option.some.inj hx61
       simp only [Prod.mk.injEq] at ej
       obtain ⟨ej0, ej1⟩ := ej
       subst ej0
       subst ej1
       refine thn_normal (Sub.env ⟨rfl, rfl, rfl, rfl, rfl, trivial⟩)
     ·try dsimp only at h
      refine AWP.region (.move rfl rfl (.add rfl rfl rfl (by omega) (.assign rfl rfl (.nil ?_))))
      have ej := Option.some.inj h
      subst ej
      refine thn_normal (Sub.env ⟨rfl, rfl, rfl, rfl, rfl, trivial⟩)
    ·intro e s hq
     obtain ⟨rfl, hs⟩ := hq
     refine ⟨_, hs, ?_⟩
     refine inB_exit (thn_normal (.seq ?_))
     obtain ⟨u61, hu61, h⟩ := bind_some h
     refine AWP.region (.move rfl rfl (.move rfl rfl (S.vFrom (vw_full c56) hu61 rfl rfl rfl rfl rfl rfl (S.clear (a0 := []) rfl rfl rfl (fun _ _ _ _ => .imm .slNil) (vw_cut (vw_full c56) hu61) rfl rfl rfl rfl rfl ?_))))
     refine AOps.nil (thn_normal (.seq ?_))
     obtain ⟨u64, hu64, h⟩ := bind_some h
     refine AWP.region (.move rfl rfl (.move rfl rfl ?_))
     refine S.vTo (vw_full (clrL c56 (0 + kv57) ((c56.length : Int) - kv57) [])) hu64 rfl rfl (by rw [Int.toNat_natCast]; exact (clrL_len (vw_cut (vw_full c56) hu61)).symm) rfl rfl rfl ?_
     refine AOps.assign rfl rfl (.nil (thn_normal (.reown (env' := [(4, .c (.own 2 0 ((viewL (clrL c56 (0 + kv57) ((c56.length : Int) - kv57) []) 0 kv57).length)))]) 4 (vw_to (vw_full (clrL c56 (0 + kv57) ((c56.length : Int) - kv57) [])) hu64) rfl rfl rfl rfl rfl rfl rfl rfl (by exact ⟨.inl ⟨rfl, rfl⟩, trivial⟩) (.ret (inB_ret (thn_ret ?_))))))
     have ej := Option.some.inj h
     subst ej
     refine thn_ret ⟨_, rfl, rfl, ?_⟩
     exact ⟨⟨[(4, .c (.own 1 0 ((viewL (clrL c56 (0 + kv57) ((c56.length : Int) - kv57) []) 0 kv57).length)))], [.dead, .one (vec 1 eLi64 (viewL (clrL c56 (0 + kv57) ((c56.length : Int) - kv57) []) 0 kv57))]⟩, (Sub.move (env' := [(4, .c (.own 1 0 ((viewL (clrL c56 (0 + kv57) ((c56.length : Int) - kv57) []) 0 kv57).length)))]) (σ' := [.dead, .one (vec 1 eLi64 (viewL (clrL c56 (0 + kv57) ((c56.length : Int) - kv57) []) 0 kv57))]) 1 2 rfl rfl rfl ⟨rfl, trivial⟩ rfl ⟨trivial, ⟨Blk.im_ok _ _ _, vec_mv rfl⟩, trivial⟩).trans (Sub.env ⟨rfl, trivial⟩), Done.ret rfl ⟨rfl, rfl⟩⟩
   ·refine AWP.skip (inB_normal (thn_normal (.region (.move rfl rfl (.add rfl rfl rfl (by omega) (.assign rfl rfl (.nil ?_)))))))
    have ej := Option.some.inj h
    subst ej
    refine thn_normal ⟨_, rfl, ?_⟩
    exact Sub.env ⟨rfl, rfl, rfl, trivial⟩
  ·intro e s hq
   rcases oo with u | x
   ·try dsimp only at h hq
    obtain ⟨rfl, hs⟩ := hq
    refine ⟨_, hs, ?_⟩
    refine inB_exit (thn_normal (.seq (.region (.move rfl rfl (.assign rfl rfl (.nil (thn_normal (.ret ?_))))))))
    have ej := Option.some.inj h
    subst ej
    exact ⟨⟨[(4, .c (.own 1 0 l.length))], [.dead, .one (vec 1 eLi64 l)]⟩, Sub.env ⟨rfl, trivial⟩, Done.ret rfl ⟨rfl, rfl⟩⟩
   ·try dsimp only at h hq
    obtain ⟨rfl, hs⟩ := hq
    refine ⟨_, Sub.refl _ _, ?_⟩
    refine inB_ret (thn_ret ?_)
    have ej := Option.some.inj h
    subst ej
    exact hs
theorem belief_Normal_w_ok {l : List (List Int)} {r : (List (List Int))} (h : belief_Normal_w l = some r) : FnOk Tryz.prog 83 [.c (.own 0 0 l.length)] (belief_Normal_w_s0 l) (fun tt ss => tt = .c (.own 2 0 r.length) ∧ ss = [.dead, .dead, .one (vec 1 eLi64 r)]) := by
 refine FnOk.enter (rs := [.t 2]) Tryz.func83 rfl Tryz.ntmps83 Tryz.results83 rfl ⟨trivial, trivial⟩ (by kernel_rfl) rfl ?_
 refine AWP.weak ?_
 unfold belief_Normal_w at h
 refine AWP.move (env' := [(0, .c (.own 1 0 l.length))]) (σ' := [.dead, .one (vec 1 eLi64 l)]) 1 0 rfl rfl rfl ⟨rfl, trivial⟩ rfl ⟨trivial, ⟨Blk.im_ok _ _ _, vec_mv rfl⟩, trivial⟩ (.seq (.region (.assign rfl rfl (.nil (thn_normal (.seq ?_))))))
 obtain ⟨a4, ha4, h⟩ := bind_some h
 refine AWP.region (.move rfl rfl (S.sortF (fun x => .sl 1 (List.map intI x)) ha4 rfl (fun hy => slices_Compare_int_int_ok hy) sortF_LLi64_ok (⟨_, Tryz.func72, rfl, rfl⟩) rfl rfl rfl rfl rfl rfl ?_))
 refine AOps.nil (thn_normal (.seq ?_))
 obtain ⟨a6, ha6, h⟩ := bind_some h
 refine AWP.region (.move rfl rfl ?_)
 refine AOps.callF (r2 := .c (.own 2 0 a6.length)) (σ'' := [.dead, .dead, .one (vec 1 eLi64 a6)]) rfl rfl rfl (FnOk.lend [1] (slices_CompactFunc_int_int_w_ok ha6) rfl rfl rfl rfl rfl rfl (by exact ⟨.vec, trivial⟩) (by rw [(sortFL_len ha4)] <;> rfl) (by exact ⟨(.live rfl .vec), trivial⟩) rfl rfl (by exact ⟨.dead, .dead, (.new 1 rfl rfl .vec), trivial⟩)) ?_
 refine AOps.assign rfl rfl (.nil (thn_normal (.ret ?_)))
 have ej := Option.some.inj h
 subst ej
 exact ⟨⟨[(2, .c (.own 2 0 a6.length))], [.dead, .dead, .one (vec 1 eLi64 a6)]⟩, Sub.env ⟨rfl, trivial⟩, Done.ret rfl ⟨rfl, rfl⟩⟩
theorem open_Results_ok {ov : TOpenTask} {sv : List Int} {op : Int} {r : (List (List Int)) × (List Int)} (h : open_Results ov sv op = some r) : PureOk Tryz.prog 61 [.agg [int ov.facts, row 1 intI ov.init, row 1 intI ov.goal, row 3 eTOpenOperator ov.operators], .c (row 1 intI sv), .c (int op)] (.tup [.c (row 1 eLi64 r.1), .c (row 1 intI r.2)]) := by
 unfold PureOk
 refine FnOk.enter (rs := [.t 6, .t 7]) Tryz.func61 rfl Tryz.ntmps61 Tryz.results61 rfl ⟨trivial, trivial, trivial⟩ (by kernel_rfl) rfl ?_
 unfold open_Results at h
 refine AWP.seq (.region (W.box rfl rfl rfl rfl rfl rfl (.assign rfl rfl (.assign rfl rfl (.nil (thn_normal (.seq (.region (.assign rfl rfl (.nil (thn_normal (.seq (.seq ?_)))))))))))))
 obtain ⟨a20, ha20, h⟩ := bind_some h
 refine AWP.region (W.fieldAddr rfl rfl rfl rfl (.load rfl rfl rfl rfl rfl rfl (.move rfl rfl (S.idx ha20 rfl rfl rfl rfl (W.fieldAddrI rfl rfl rfl rfl (.loadI rfl rfl rfl rfl (S.len rfl rfl (fun hl23 => .move rfl rfl (.nil (thn_normal (.block (.virtV 1 eLi64 8 rfl rfl rfl ?_))))))))))))
 obtain ⟨c4, ho1, h⟩ := bind_some h
 refine AWP.forS ho1 (fun t5 c4 => ⟨[(1, .c (row 1 intI sv)), (2, .c (int op)), (3, .c (.ptr 0 0 0)), (8, .c (.own 1 0 c4.length)), (22, .c (row 3 eTOutcome a20.outcomes)), (23, .c (int (a20.outcomes.length : Int))), (24, .c (int t5))], [.one (.cells 4 [[int ov.facts, row 1 intI ov.init, row 1 intI ov.goal, row 3 eTOpenOperator ov.operators]]), .one (vec 1 eLi64 c4)]⟩) (fun c4 e st => e = .exit 0 ∧ Sub [] st ⟨[(2, .c (int op)), (3, .c (.ptr 0 0 0)), (8, .c (.own 1 0 c4.length))], [.one (.cells 4 [[int ov.facts, row 1 intI ov.init, row 1 intI ov.goal, row 3 eTOpenOperator ov.operators]]), .one (vec 1 eLi64 c4)]⟩) ?_ ?_ ?_ ?_
 ·try dsimp only
  exact Sub.env ⟨rfl, rfl, rfl, (own_len (by first | rfl | simp only [List.length_set])), rfl, rfl, rfl, trivial⟩
 ·intro t5 c4 hlot5 hltt5 _
  try dsimp only
  refine AWP.seq (.region (.lss rfl rfl rfl (.nil (thn_normal (.seq (.condNP rfl hltt5 (.exit (thn_exit (thn_exit ⟨rfl, ?_⟩)))))))))
  exact Sub.env ⟨rfl, rfl, rfl, trivial⟩
 ·intro t5 c4 o hlot5 hltt5 h
  unfold open_Results_l1 at h
  try dsimp only at h ⊢
  refine AWP.seq (.region (.lss rfl rfl rfl (.nil (thn_normal (.seq (.condP rfl hltt5 (.skip (thn_normal (.seq (.block (.seq ?_)))))))))))
  obtain ⟨a26, ha26, h⟩ := bind_some h
  refine AWP.region (S.idx ha26 rfl rfl rfl rfl (W.loadIAgg rfl rfl rfl rfl rfl (W.alloc rfl rfl rfl rfl (W.storeAgg rfl rfl rfl rfl rfl rfl rfl (.nil (thn_normal ?_))))))
  obtain ⟨a34, ha34, h⟩ := bind_some h
  obtain ⟨a36, ha36, h⟩ := bind_some h
  refine AWP.region (.move rfl rfl (.move rfl rfl (W.fieldAddr rfl rfl rfl rfl (.load rfl rfl rfl rfl rfl rfl (W.fieldAddr rfl rfl rfl rfl (.load rfl rfl rfl rfl rfl rfl (S.fresh rfl rfl rfl rfl (strips_Update_ok ha34) rfl rfl (.frzV (id := 3) (l := a34) (env2 := [(1, .c (row 1 intI sv)), (2, .c (int op)), (3, .c (.ptr 0 0 0)), (22, .c (row 3 eTOutcome a20.outcomes)), (23, .c (int (a20.outcomes.length : Int))), (24, .c (int t5)), (28, .c (.own 1 0 c4.length)), (34, .c (row 1 intI a34))]) (σ2 := [.one (.cells 4 [[int ov.facts, row 1 intI ov.init, row 1 intI ov.goal, row 3 eTOpenOperator ov.operators]]), .one (vec 1 eLi64 c4), .one (.cells 3 [[row 1 intI a26.add, row 1 intI a26.del, int a26.weight]]), .dead]) rfl rfl (by exact ⟨⟨_, rfl, .inl ⟨rfl, rfl⟩⟩, ⟨_, rfl, .inl ⟨rfl, rfl⟩⟩, ⟨_, rfl, .inl ⟨rfl, rfl⟩⟩, ⟨_, rfl, .inl ⟨rfl, rfl⟩⟩, ⟨_, rfl, .inl ⟨rfl, rfl⟩⟩, ⟨_, rfl, .inl ⟨rfl, rfl⟩⟩, ⟨_, rfl, .inl ⟨rfl, rfl⟩⟩, ⟨_, rfl, .inr ⟨_, rfl, rfl, rfl⟩⟩, trivial⟩) rfl (by exact ⟨⟨rfl, .inl ⟨rfl, rfl⟩, .inl ⟨rfl, rfl⟩, .inl ⟨rfl, rfl⟩, .inl ⟨rfl, rfl⟩, trivial⟩, FrzB.vec, ⟨rfl, .inl ⟨rfl, rfl⟩, .inl ⟨rfl, rfl⟩, .inl ⟨rfl, rfl⟩, trivial⟩, trivial, trivial⟩) (S.lit (f := eLi64) (l := [a34]) (ess := [[row 1 intI a34]]) rfl rfl rfl rfl rfl rfl rfl ⟨⟨.inl rfl, trivial⟩, trivial⟩ rfl rfl rfl (S.append (f := eLi64) ha36 rfl rfl rfl rfl rfl rfl (.own rfl rfl) rfl rfl rfl rfl (.assign rfl rfl (.nil (inB_normal (thn_normal (.move (env' := [(1, .c (row 1 intI sv)), (2, .c (int op)), (3, .c (.ptr 0 0 0)), (8, .c (.own 1 0 a36.length)), (22, .c (row 3 eTOutcome a20.outcomes)), (23, .c (int (a20.outcomes.length : Int))), (24, .c (int t5))]) (σ' := [.one (.cells 4 [[int ov.facts, row 1 intI ov.init, row 1 intI ov.goal, row 3 eTOpenOperator ov.operators]]), .one (vec 1 eLi64 a36), .one (.cells 3 [[row 1 intI a26.add, row 1 intI a26.del, int a26.weight]]), .dead, .one (vec 1 eLi64 [a34])]) 1 5 rfl rfl rfl ⟨rfl, rfl, rfl, rfl, rfl, rfl, rfl, trivial⟩ rfl ⟨⟨rfl, rfl⟩, ⟨Blk.im_ok _ _ _, vec_mv rfl⟩, ⟨rfl, rfl⟩, trivial, ⟨Blk.im_ok _ _ _, vec_mv rfl⟩, trivial⟩ (.region (.add rfl rfl rfl (by omega) (.move rfl rfl (.nil ?_)))))))))))))))))))
  have ej := Option.some.inj h
  subst ej
  refine thn_normal (Sub.cut ⟨rfl, rfl, rfl, rfl, rfl, rfl, rfl, trivial⟩ rfl ⟨.one rfl, .vec, trivial⟩ rfl)
 ·intro e s hq
  obtain ⟨rfl, hs⟩ := hq
  refine ⟨_, hs, ?_⟩
  refine inB_exit (thn_normal (.seq ?_))
  obtain ⟨a39, ha39, h⟩ := bind_some h
  obtain ⟨a40, ha40, h⟩ := bind_some h
  refine AWP.region (.move rfl rfl (.frzV (id := 1) (l := c4) (env2 := [(2, .c (int op)), (3, .c (.ptr 0 0 0)), (8, .c (row 1 eLi64 c4)), (38, .c (row 1 eLi64 c4))]) (σ2 := [.one (.cells 4 [[int ov.facts, row 1 intI ov.init, row 1 intI ov.goal, row 3 eTOpenOperator ov.operators]]), .dead]) rfl rfl (by exact ⟨⟨_, rfl, .inl ⟨rfl, rfl⟩⟩, ⟨_, rfl, .inl ⟨rfl, rfl⟩⟩, ⟨_, rfl, .inr ⟨_, rfl, rfl, rfl⟩⟩, ⟨_, rfl, .inr ⟨_, rfl, rfl, rfl⟩⟩, trivial⟩) rfl (by exact ⟨⟨rfl, .inl ⟨rfl, rfl⟩, .inl ⟨rfl, rfl⟩, .inl ⟨rfl, rfl⟩, .inl ⟨rfl, rfl⟩, trivial⟩, trivial, trivial⟩) (S.fresh rfl rfl rfl rfl (slices_Clone_Lint_int_ok ha39) rfl rfl (.callF (r2 := .c (.own 4 0 a40.length)) (σ'' := [.one (.cells 4 [[int ov.facts, row 1 intI ov.init, row 1 intI ov.goal, row 3 eTOpenOperator ov.operators]]), .dead, .dead, .dead, .one (vec 1 eLi64 a40)]) rfl rfl rfl (FnOk.lend [2] (belief_Normal_w_ok ha40) rfl rfl rfl rfl rfl rfl (by exact ⟨.vec, trivial⟩) rfl (by exact ⟨(.live rfl .vec), trivial⟩) rfl rfl (by exact ⟨(.old rfl rfl rfl), .dead, .dead, .dead, (.new 2 rfl rfl .vec), trivial⟩)) (.assign rfl rfl (.nil (thn_normal (.seq ?_))))))))
  obtain ⟨a43, ha43, h⟩ := bind_some h
  refine AWP.region (.move rfl rfl (S.lenO rfl rfl rfl (fun hl42 => S.make (f := intI) ha43 (.val .nil) rfl rfl rfl rfl rfl rfl (.assign rfl rfl (.nil (thn_normal (.seq (.seq ?_))))))))
  obtain ⟨a47, ha47, h⟩ := bind_some h
  refine AWP.region (W.fieldAddr rfl rfl rfl rfl (.load rfl rfl rfl rfl rfl rfl (.move rfl rfl (S.idx ha47 rfl rfl rfl rfl (W.fieldAddrI rfl rfl rfl rfl (.loadI rfl rfl rfl rfl (S.len rfl rfl (fun hl50 => .move rfl rfl (.nil (thn_normal (.block ?_)))))))))))
  obtain ⟨c6, ho2, h⟩ := bind_some h
  refine AWP.forS ho2 (fun t7 c6 => ⟨[(8, .c (row 1 eLi64 c4)), (11, .c (.own 4 0 a40.length)), (12, .c (.own 5 0 c6.length)), (49, .c (row 3 eTOutcome a47.outcomes)), (50, .c (int (a47.outcomes.length : Int))), (51, .c (int t7))], [.dead, .dead, .dead, .dead, .one (vec 1 eLi64 a40), .one (vec 1 intI c6)]⟩) (fun c6 e st => e = .exit 2 ∧ Sub [] st ⟨[(11, .c (.own 4 0 a40.length)), (12, .c (.own 5 0 c6.length))], [.dead, .dead, .dead, .dead, .one (vec 1 eLi64 a40), .one (vec 1 intI c6)]⟩) ?_ ?_ ?_ ?_
  ·try dsimp only
   exact Sub.cut ⟨rfl, rfl, rfl, rfl, rfl, rfl, trivial⟩ rfl ⟨.dead, .dead, .dead, .dead, .vec, .vec, trivial⟩ rfl
  ·intro t7 c6 hlot7 hltt7 _
   try dsimp only
   refine AWP.seq (.region (.lss rfl rfl rfl (.nil (thn_normal (.seq (.condNP rfl hltt7 (.exit (thn_exit (thn_exit ⟨rfl, ?_⟩)))))))))
   exact Sub.env ⟨rfl, rfl, trivial⟩
  ·intro t7 c6 o hlot7 hltt7 h
   unfold open_Results_l2 at h
   try dsimp only at h ⊢
   refine AWP.seq (.region (.lss rfl rfl rfl (.nil (thn_normal (.seq (.condP rfl hltt7 (.skip (thn_normal (.seq (.block (.seq ?_)))))))))))
   obtain ⟨a54, ha54, h⟩ := bind_some h
   refine AWP.region (.move rfl rfl (S.idx ha54 rfl rfl rfl rfl (W.loadIAgg rfl rfl rfl rfl rfl (W.alloc rfl rfl rfl rfl (.assign rfl rfl (W.storeAgg rfl rfl rfl rfl rfl rfl rfl (.nil (thn_normal (.seq ?_)))))))))
   obtain ⟨a60, ha60, h⟩ := bind_some h
   obtain ⟨a62, ha62, h⟩ := bind_some h
   refine AWP.region (.move rfl rfl (.move rfl rfl (.move rfl rfl (S.idx ha60 rfl rfl rfl rfl (.loadI rfl rfl rfl rfl (.callL rfl rfl (.cons (.c (.own rfl rfl)) (.cons (.c .imm) (.cons (.c (.fn .nil)) .nil))) rfl (slices_BinarySearchFunc_int_int_int_ok rfl (fun hy => slices_Compare_int_int_ok hy) ha62) rfl ?_))))))
   refine AOps.move rfl rfl (.extract rfl rfl rfl (.extract rfl rfl rfl (.assign rfl rfl (.assign rfl rfl (.nil (thn_normal ?_))))))
   obtain ⟨a67, ha67, h⟩ := bind_some h
   obtain ⟨a72, ha72, h⟩ := bind_some h
   refine AWP.drawEI [8] mixed rfl rfl rfl ?_
   apply DrawSeqE.consN; exact rfl; exact rfl; intro E
   refine AOps.move rfl rfl (.nil ⟨rfl, rfl⟩)
   exact rfl
   apply DrawSeqE.consN; exact rfl; exact rfl; intro E
   refine AOps.move rfl rfl (.nil ⟨rfl, rfl⟩)
   exact rfl
   apply DrawSeqE.consN; exact rfl; exact rfl; intro E
   refine S.idxO ha67 rfl rfl rfl rfl rfl (.nil ⟨rfl, rfl⟩)
   exact rfl
   apply DrawSeqE.consN; exact rfl; exact rfl; intro E
   refine S.loadO ha67 rfl rfl rfl rfl rfl (.nil ⟨rfl, rfl⟩)
   exact rfl
   apply DrawSeqE.consN; exact rfl; exact rfl; intro E
   refine W.fieldAddr rfl rfl rfl rfl (.nil ⟨rfl, rfl⟩)
   exact rfl
   apply DrawSeqE.consN; exact rfl; exact rfl; intro E
   refine AOps.load rfl rfl rfl rfl rfl rfl (.nil ⟨rfl, rfl⟩)
   exact rfl
   apply DrawSeqE.consN; exact rfl; exact rfl; intro E
   refine S.add rfl rfl rfl (.nil ⟨rfl, rfl⟩)
   exact rfl
   apply DrawSeqE.consN; exact rfl; exact rfl; intro E
   refine S.idxO ha72 rfl rfl rfl rfl rfl (.nil ⟨rfl, rfl⟩)
   exact rfl
   apply DrawSeqE.consE (v := .undef); exact rfl; exact rfl; intro E
   refine S.storeO1 (f := intI) (a' := w64 (a67 + a54.weight)) (ix_lt ha72) (fun _ => ⟨_, rfl⟩) rfl rfl rfl rfl rfl ?_
   exact AOps.nil ⟨rfl, rfl⟩
   exact rfl
   exact rfl
   refine DrawSeqE.done rfl ?_ ?_
   ·apply RestI.cons; exact rfl; exact rfl
    apply RestK.go; exact rfl; exact rfl; intro E; refine AOps.move rfl rfl ?_; exact AOps.nil ⟨rfl, rfl⟩
    refine RestK.skip rfl (RestK.nil)
    apply RestI.cons; exact rfl; exact rfl
    apply RestK.go; exact rfl; exact rfl; intro E; refine AOps.move rfl rfl ?_; exact AOps.nil ⟨rfl, rfl⟩
    refine RestK.skip rfl (RestK.nil)
    apply RestI.cons; exact rfl; exact rfl
    apply RestK.go; exact rfl; exact rfl; intro E; refine S.idxO ha67 rfl rfl rfl rfl rfl ?_; exact AOps.nil ⟨rfl, rfl⟩
    refine RestK.skip rfl (RestK.nil)
    apply RestI.cons; exact rfl; exact rfl
    apply RestK.go; exact rfl; exact rfl; intro E; refine S.loadO ha67 rfl rfl rfl rfl rfl ?_; exact AOps.nil ⟨rfl, rfl⟩
    refine RestK.skip rfl (RestK.nil)
    apply RestI.cons; exact rfl; exact rfl
    apply RestK.go; exact rfl; exact rfl; intro E; refine W.fieldAddr rfl rfl rfl rfl ?_; exact AOps.nil ⟨rfl, rfl⟩
    refine RestK.skip rfl (RestK.nil)
    apply RestI.cons; exact rfl; exact rfl
    apply RestK.go; exact rfl; exact rfl; intro E; refine AOps.load rfl rfl rfl rfl rfl rfl ?_; exact AOps.nil ⟨rfl, rfl⟩
    refine RestK.skip rfl (RestK.nil)
    apply RestI.cons; exact rfl; exact rfl
    apply RestK.go; exact rfl; exact rfl; intro E; refine S.add rfl rfl rfl ?_; exact AOps.nil ⟨rfl, rfl⟩
    refine RestK.skip rfl (RestK.nil)
    apply RestI.cons; exact rfl; exact rfl
    apply RestK.go; exact rfl; exact rfl; intro E; refine S.idxO ha72 rfl rfl rfl rfl rfl ?_; exact AOps.nil ⟨rfl, rfl⟩
    refine RestK.skip rfl (RestK.nil)
    refine RestI.skip rfl (RestI.nil)
   dsimp only [envEnd]
   refine inB_normal (thn_normal (.region (.add rfl rfl rfl (by omega) (.move rfl rfl (.nil ?_)))))
   have ej := Option.some.inj h
   subst ej
   refine thn_normal (Sub.cut ⟨rfl, rfl, (own_len (by first | rfl | simp only [List.length_set])), rfl, rfl, rfl, trivial⟩ rfl ⟨.dead, .dead, .dead, .dead, .vec, .vec, trivial⟩ rfl)
  ·intro e s hq
   obtain ⟨rfl, hs⟩ := hq
   refine ⟨_, hs, ?_⟩
   refine inB_exit (thn_normal (.seq (.region (.move rfl rfl (.move rfl rfl (.assign rfl rfl (.assign rfl rfl (.nil (thn_normal (.frzV (id := 4) (l := a40) (env2 := [(6, .c (row 1 eLi64 a40)), (7, .c (.own 5 0 c6.length))]) (σ2 := [.dead, .dead, .dead, .dead, .dead, .one (vec 1 intI c6)]) rfl rfl (by exact ⟨⟨_, rfl, .inr ⟨_, rfl, rfl, rfl⟩⟩, ⟨_, rfl, .inl ⟨rfl, rfl⟩⟩, trivial⟩) rfl (by exact ⟨trivial, trivial, trivial, trivial, trivial, FrzB.vec, trivial⟩) (.frzV (id := 5) (l := c6) (env2 := [(6, .c (row 1 eLi64 a40)), (7, .c (row 1 intI c6))]) (σ2 := [.dead, .dead, .dead, .dead, .dead, .dead]) rfl rfl (by exact ⟨⟨_, rfl, .inl ⟨rfl, rfl⟩⟩, ⟨_, rfl, .inr ⟨_, rfl, rfl, rfl⟩⟩, trivial⟩) rfl (by exact ⟨trivial, trivial, trivial, trivial, trivial, trivial, trivial⟩) (.ret ?_))))))))))))
   have ej := Option.some.inj h
   subst ej
   exact Done.ret rfl rfl
theorem open_Reach_ok {ov : TOpenTask} {r : (List (List Int)) × Bool} (h : open_Reach ov = some r) : PureOk Tryz.prog 69 [.agg [int ov.facts, row 1 intI ov.init, row 1 intI ov.goal, row 3 eTOpenOperator ov.operators]] (.tup [.c (row 1 eLi64 r.1), .c (bool r.2)]) := by
 unfold PureOk
 refine FnOk.enter (rs := [.t 2, .t 3]) Tryz.func69 rfl Tryz.ntmps69 Tryz.results69 rfl ⟨trivial, trivial, trivial⟩ (by kernel_rfl) rfl ?_
 unfold open_Reach at h
 refine AWP.seq (.region (W.box rfl rfl rfl rfl rfl rfl (.assign rfl rfl (.assign rfl rfl (.nil (thn_normal (.seq ?_)))))))
 obtain ⟨a15, ha15, h⟩ := bind_some h
 refine AWP.region (W.fieldAddr rfl rfl rfl rfl (.load rfl rfl rfl rfl rfl rfl (S.fresh rfl rfl rfl rfl (slices_Clone_int_int_ok ha15) rfl rfl (.frzV (id := 1) (l := a15) (env2 := [(1, .c (.ptr 0 0 0)), (15, .c (row 1 intI a15))]) (σ2 := [.one (.cells 4 [[int ov.facts, row 1 intI ov.init, row 1 intI ov.goal, row 3 eTOpenOperator ov.operators]]), .dead]) rfl rfl (by exact ⟨⟨_, rfl, .inl ⟨rfl, rfl⟩⟩, ⟨_, rfl, .inr ⟨_, rfl, rfl, rfl⟩⟩, trivial⟩) rfl (by exact ⟨⟨rfl, .inl ⟨rfl, rfl⟩, .inl ⟨rfl, rfl⟩, .inl ⟨rfl, rfl⟩, .inl ⟨rfl, rfl⟩, trivial⟩, trivial, trivial⟩) (S.lit (f := eLi64) (l := [a15]) (ess := [[row 1 intI a15]]) rfl rfl rfl rfl rfl rfl rfl ⟨⟨.inl rfl, trivial⟩, trivial⟩ rfl rfl rfl (.assign rfl rfl (.nil (thn_normal (.seq ?_)))))))))
 obtain ⟨a19, ha19, h⟩ := bind_some h
 refine AWP.region (W.makeMap Value.string (Value.int .i64) rfl rfl rfl (.move rfl rfl (.callL rfl rfl (.cons (.c (.own rfl rfl)) .nil) rfl (belief_Key_ok ha19) rfl (W.insert (fk := Value.string) (fv := (Value.int .i64)) (k := a19) (a := 1) keyStr rfl rfl rfl rfl rfl (.move rfl rfl (.assign rfl rfl (.nil (thn_normal (.seq (.seq (.region (.assign rfl rfl (.nil (thn_normal (.block ?_)))))))))))))))
 obtain ⟨oo, ho1, h⟩ := bind_some h
 refine AWP.loopS ho1 (fun (c2, c3, atv4) => ⟨[(1, .c (.ptr 0 0 0)), (4, .c (.own 2 0 c2.length)), (5, .c (.map 3)), (6, .c (int atv4))], [.one (.cells 4 [[int ov.facts, row 1 intI ov.init, row 1 intI ov.goal, row 3 eTOpenOperator ov.operators]]), .dead, .one (vec 1 eLi64 c2), .one (mapB Value.string (Value.int .i64) c3)]⟩) (fun o e st => match o with | .inl c5 => e = .exit 0 ∧ Sub [] st ⟨[(4, .c (.own 2 0 c5.length))], [.dead, .dead, .one (vec 1 eLi64 c5)]⟩ | .inr x => e = .ret ∧ Done [.t 2, .t 3] (fun t _ => t = .tup [.c (row 1 eLi64 x.1), .c (bool x.2)]) .ret st) ?_ ?_ ?_
 ·try dsimp only
  exact Sub.env ⟨rfl, rfl, rfl, rfl, trivial⟩
 ·intro s o h
  obtain ⟨c2, c3, atv4⟩ := s
  unfold open_Reach_l1 at h
  try dsimp only at h ⊢
  refine AWP.seq (.seq (.region (.move rfl rfl (.move rfl rfl (S.lenO rfl rfl rfl (fun hl23 => .lss rfl rfl rfl (.nil (thn_normal (.ite rfl h (fun hc6 h => ?_) (fun hc6 h => ?_))))))))))
  ·refine AWP.skip (thn_normal (.seq (.block (.seq (.region (W.fieldAddr rfl rfl rfl rfl (.load rfl rfl rfl rfl rfl rfl (S.len rfl rfl (fun hl29 => .move rfl rfl (.nil (thn_normal (.block ?_))))))))))))
   obtain ⟨oo, ho2, h⟩ := bind_some h
   refine AWP.rngS ho2 (fun t9 (c7, c8) => ⟨[(1, .c (.ptr 0 0 0)), (4, .c (.own 2 0 c7.length)), (5, .c (.map 3)), (6, .c (int atv4)), (29, .c (int (ov.operators.length : Int))), (30, .c (int t9))], [.one (.cells 4 [[int ov.facts, row 1 intI ov.init, row 1 intI ov.goal, row 3 eTOpenOperator ov.operators]]), .dead, .one (vec 1 eLi64 c7), .one (mapB Value.string (Value.int .i64) c8)]⟩) (fun o e st => match o with | .inl (c7, c8) => e = .exit 2 ∧ Sub [] st ⟨[(1, .c (.ptr 0 0 0)), (4, .c (.own 2 0 c7.length)), (5, .c (.map 3)), (6, .c (int atv4))], [.one (.cells 4 [[int ov.facts, row 1 intI ov.init, row 1 intI ov.goal, row 3 eTOpenOperator ov.operators]]), .dead, .one (vec 1 eLi64 c7), .one (mapB Value.string (Value.int .i64) c8)]⟩ | .inr x => e = .ret ∧ Done [.t 2, .t 3] (fun t _ => t = .tup [.c (row 1 eLi64 x.1), .c (bool x.2)]) .ret st) ?_ ?_ ?_ ?_
   ·try dsimp only
    exact Sub.env ⟨rfl, rfl, rfl, rfl, rfl, rfl, trivial⟩
   ·intro t9 s hlot9 hltt9 _
    obtain ⟨c7, c8⟩ := s
    try dsimp only
    refine AWP.seq (.region (.lss rfl rfl rfl (.nil (thn_normal (.seq (.condNP rfl hltt9 (.exit (thn_exit (thn_exit ⟨rfl, ?_⟩)))))))))
    exact Sub.env ⟨rfl, rfl, rfl, rfl, trivial⟩
   ·intro t9 s o hlot9 hltt9 h
    obtain ⟨c7, c8⟩ := s
    unfold open_Reach_l2 at h
    try dsimp only at h ⊢
    refine AWP.seq (.region (.lss rfl rfl rfl (.nil (thn_normal (.seq (.condP rfl hltt9 (.skip (thn_normal (.seqF (open_Reach_j3) o (fun (c10, c11) => ⟨[(1, .c (.ptr 0 0 0)), (4, .c (.own 2 0 c10.length)), (5, .c (.map 3)), (6, .c (int atv4)), (29, .c (int (ov.operators.length : Int))), (30, .c (int t9))], [.one (.cells 4 [[int ov.facts, row 1 intI ov.init, row 1 intI ov.goal, row 3 eTOpenOperator ov.operators]]), .dead, .one (vec 1 eLi64 c10), .one (mapB Value.string (Value.int .i64) c11)]⟩) (fun x h => ?_) ?_)))))))))
    ·obtain ⟨c10, c11⟩ := x
     unfold open_Reach_j3 at h
     try dsimp only at h ⊢
     refine AWP.region (.add rfl rfl rfl (by omega) (.move rfl rfl (.nil ?_)))
     have ej := Option.some.inj h
     subst ej
     refine thn_normal ⟨_, rfl, ?_⟩
     exact Sub.env ⟨rfl, rfl, rfl, rfl, rfl, rfl, trivial⟩
    ·refine AWP.block (.seq (.region (.move rfl rfl (.assign rfl rfl (.nil (thn_normal (.seq (.seq ?_))))))))
     obtain ⟨a36, ha36, h⟩ := bind_some h
     obtain ⟨a39, ha39, h⟩ := bind_some h
     refine AWP.drawI mixed rfl ?_
     apply DrawSeq.consF; exact rfl; intro E
     refine W.loadAgg rfl rfl rfl rfl rfl rfl rfl (.nil ⟨rfl, rfl⟩)
     exact rfl
     apply DrawSeq.consF; exact rfl; intro E
     refine AOps.move rfl rfl (.nil ⟨rfl, rfl⟩)
     exact rfl
     apply DrawSeq.consF; exact rfl; intro E
     refine AOps.move rfl rfl (.nil ⟨rfl, rfl⟩)
     exact rfl
     apply DrawSeq.consF; exact rfl; intro E
     refine S.idxO ha36 rfl rfl rfl rfl rfl (.nil ⟨rfl, rfl⟩)
     exact rfl
     apply DrawSeq.consF; exact rfl; intro E
     refine S.loadO ha36 rfl rfl rfl rfl rfl (.nil ⟨rfl, rfl⟩)
     exact rfl
     apply DrawSeq.consF; exact rfl; intro E
     refine AOps.move rfl rfl (.nil ⟨rfl, rfl⟩)
     exact rfl
     apply DrawSeq.consF; exact rfl; intro E
     refine AOps.callR rfl rfl rfl rfl (open_Can_ok ha39) rfl (.nil ⟨rfl, rfl⟩)
     exact rfl
     apply DrawSeq.consF; exact rfl; intro E
     refine AOps.not rfl rfl (.nil ⟨rfl, rfl⟩)
     exact rfl
     refine DrawSeq.done ?_
     dsimp only [envEnd]
     refine thn_normal (.iteB rfl h (fun hc12 h => ?_) (fun hc12 h => ?_))
     ·refine AWP.exit (thn_exit (inB_exit (thn_normal ⟨_, h, ?_⟩)))
      exact Sub.env ⟨rfl, rfl, rfl, rfl, rfl, rfl, trivial⟩
     ·refine AWP.skip (thn_normal (.seq ?_))
      obtain ⟨a45, ha45, h⟩ := bind_some h
      obtain ⟨a48, ha48, h⟩ := bind_some h
      refine AWP.drawI mixed rfl ?_
      apply DrawSeq.consF; exact rfl; intro E
      refine W.loadAgg rfl rfl rfl rfl rfl rfl rfl (.nil ⟨rfl, rfl⟩)
      exact rfl
      apply DrawSeq.consF; exact rfl; intro E
      refine AOps.move rfl rfl (.nil ⟨rfl, rfl⟩)
      exact rfl
      apply DrawSeq.consF; exact rfl; intro E
      refine AOps.move rfl rfl (.nil ⟨rfl, rfl⟩)
      exact rfl
      apply DrawSeq.consF; exact rfl; intro E
      refine S.idxO ha45 rfl rfl rfl rfl rfl (.nil ⟨rfl, rfl⟩)
      exact rfl
      apply DrawSeq.consF; exact rfl; intro E
      refine S.loadO ha45 rfl rfl rfl rfl rfl (.nil ⟨rfl, rfl⟩)
      exact rfl
      apply DrawSeq.consF; exact rfl; intro E
      refine AOps.move rfl rfl (.nil ⟨rfl, rfl⟩)
      exact rfl
      apply DrawSeq.consF; exact rfl; intro E
      refine AOps.callR rfl rfl rfl rfl (open_Results_ok ha48) rfl (.nil ⟨rfl, rfl⟩)
      exact rfl
      apply DrawSeq.consF; exact rfl; intro E
      refine AOps.move rfl rfl (.nil ⟨rfl, rfl⟩)
      exact rfl
      apply DrawSeq.consF; exact rfl; intro E
      refine AOps.extract rfl rfl rfl (.nil ⟨rfl, rfl⟩)
      exact rfl
      apply DrawSeq.consF; exact rfl; intro E
      refine AOps.extract rfl rfl rfl (.nil ⟨rfl, rfl⟩)
      exact rfl
      apply DrawSeq.consF; exact rfl; intro E
      refine AOps.assign rfl rfl (.nil ⟨rfl, rfl⟩)
      exact rfl
      apply DrawSeq.consF; exact rfl; intro E
      refine AOps.assign rfl rfl (.nil ⟨rfl, rfl⟩)
      exact rfl
      refine DrawSeq.done ?_
      dsimp only [envEnd]
      refine thn_normal (.seq (.region (.move rfl rfl (S.len rfl rfl (fun hl52 => .move rfl rfl (.nil (thn_normal (.block ?_))))))))
      obtain ⟨oo, ho4, h⟩ := bind_some h
      refine AWP.rngS ho4 (fun t15 (c13, c14) => ⟨[(1, .c (.ptr 0 0 0)), (4, .c (.own 2 0 c13.length)), (5, .c (.map 3)), (6, .c (int atv4)), (29, .c (int (ov.operators.length : Int))), (30, .c (int t9)), (51, .c (row 1 eLi64 a48.1)), (52, .c (int (a48.1.length : Int))), (53, .c (int t15))], [.one (.cells 4 [[int ov.facts, row 1 intI ov.init, row 1 intI ov.goal, row 3 eTOpenOperator ov.operators]]), .dead, .one (vec 1 eLi64 c13), .one (mapB Value.string (Value.int .i64) c14)]⟩) (fun o e st => match o with | .inl (c13, c14) => e = .exit 4 ∧ Sub [] st ⟨[(1, .c (.ptr 0 0 0)), (4, .c (.own 2 0 c13.length)), (5, .c (.map 3)), (6, .c (int atv4)), (29, .c (int (ov.operators.length : Int))), (30, .c (int t9))], [.one (.cells 4 [[int ov.facts, row 1 intI ov.init, row 1 intI ov.goal, row 3 eTOpenOperator ov.operators]]), .dead, .one (vec 1 eLi64 c13), .one (mapB Value.string (Value.int .i64) c14)]⟩ | .inr x => e = .ret ∧ Done [.t 2, .t 3] (fun t _ => t = .tup [.c (row 1 eLi64 x.1), .c (bool x.2)]) .ret st) ?_ ?_ ?_ ?_
      ·try dsimp only
       exact Sub.env ⟨rfl, rfl, rfl, rfl, rfl, rfl, rfl, rfl, rfl, trivial⟩
      ·intro t15 s hlot15 hltt15 _
       obtain ⟨c13, c14⟩ := s
       try dsimp only
       refine AWP.seq (.region (.lss rfl rfl rfl (.nil (thn_normal (.seq (.condNP rfl hltt15 (.exit (thn_exit (thn_exit ⟨rfl, ?_⟩)))))))))
       exact Sub.env ⟨rfl, rfl, rfl, rfl, rfl, rfl, trivial⟩
      ·intro t15 s o hlot15 hltt15 h
       obtain ⟨c13, c14⟩ := s
       unfold open_Reach_l4 at h
       try dsimp only at h ⊢
       refine AWP.seq (.region (.lss rfl rfl rfl (.nil (thn_normal (.seq (.condP rfl hltt15 (.skip (thn_normal (.seqF (open_Reach_j5) o (fun (c16, c17) => ⟨[(1, .c (.ptr 0 0 0)), (4, .c (.own 2 0 c16.length)), (5, .c (.map 3)), (6, .c (int atv4)), (29, .c (int (ov.operators.length : Int))), (30, .c (int t9)), (51, .c (row 1 eLi64 a48.1)), (52, .c (int (a48.1.length : Int))), (53, .c (int t15))], [.one (.cells 4 [[int ov.facts, row 1 intI ov.init, row 1 intI ov.goal, row 3 eTOpenOperator ov.operators]]), .dead, .one (vec 1 eLi64 c16), .one (mapB Value.string (Value.int .i64) c17)]⟩) (fun x h => ?_) ?_)))))))))
       ·obtain ⟨c16, c17⟩ := x
        unfold open_Reach_j5 at h
        try dsimp only at h ⊢
        refine AWP.region (.add rfl rfl rfl (by omega) (.move rfl rfl (.nil ?_)))
        have ej := Option.some.inj h
        subst ej
        refine thn_normal ⟨_, rfl, ?_⟩
        exact Sub.env ⟨rfl, rfl, rfl, rfl, rfl, rfl, rfl, rfl, rfl, trivial⟩
       ·refine AWP.block (.seq ?_)
        obtain ⟨a55, ha55, h⟩ := bind_some h
        refine AWP.region (S.idx ha55 rfl rfl rfl rfl (.loadI rfl rfl rfl rfl (.assign rfl rfl (.nil (thn_normal (.seq ?_))))))
        obtain ⟨a59, ha59, h⟩ := bind_some h
        refine AWP.region (.move rfl rfl (S.lit (f := eLi64) (l := [a55]) (ess := [[row 1 intI a55]]) rfl rfl rfl rfl rfl rfl rfl ⟨⟨.inl rfl, trivial⟩, trivial⟩ rfl rfl rfl (.callL rfl rfl (.cons (.c (.own rfl rfl)) .nil) rfl (belief_Key_ok ha59) rfl (.assign rfl rfl (.nil (thn_normal (.seq (.seq (.region (.move rfl rfl (.move rfl rfl (W.lookup (fk := Value.string) (fv := (Value.int .i64)) (k := a59) (z := 0) keyStr rfl (fun _ => rfl) rfl rfl rfl rfl ?_))))))))))))
        refine AOps.gtr rfl rfl rfl (.nil (thn_normal (.ite rfl h (fun hc18 h => ?_) (fun hc18 h => ?_))))
        ·refine AWP.exit (thn_exit (inB_exit (thn_normal ⟨_, h, ?_⟩)))
         exact Sub.cut ⟨rfl, rfl, rfl, rfl, rfl, rfl, rfl, rfl, rfl, trivial⟩ rfl ⟨.one rfl, .dead, .vec, .one rfl, trivial⟩ rfl
        ·refine AWP.skip (thn_normal (.seq (.seq (.region (.move rfl rfl (S.lenO rfl rfl rfl (fun hl65 => .eql rfl rfl rfl (.nil (thn_normal (.ite rfl h (fun hc19 h => ?_) (fun hc19 h => ?_)))))))))))
         ·refine AWP.seq (.region (.assign rfl rfl (.assign rfl rfl (.nil (thn_normal (.nilrow 1 2 rfl (.ret (thn_ret (inB_ret (thn_ret ?_))))))))))
          have ej := Option.some.inj h
          subst ej
          refine thn_ret ⟨_, rfl, rfl, ?_⟩
          exact Done.ret rfl rfl
         ·refine AWP.skip (thn_normal (.seq (.region (.move rfl rfl (.move rfl rfl (W.mapUpdate (fk := Value.string) (fv := (Value.int .i64)) (k := a59) (a := 1) keyStr rfl rfl rfl rfl rfl (.nil (thn_normal ?_))))))))
          obtain ⟨a72, ha72, h⟩ := bind_some h
          refine AWP.region (.move rfl rfl (.move rfl rfl (S.lit (f := eLi64) (l := [a55]) (ess := [[row 1 intI a55]]) rfl rfl rfl rfl rfl rfl rfl ⟨⟨.inl rfl, trivial⟩, trivial⟩ rfl rfl rfl (S.append (f := eLi64) ha72 rfl rfl rfl rfl rfl rfl (.own rfl rfl) rfl rfl rfl rfl (.assign rfl rfl (.nil (inB_normal (thn_normal ⟨_, h, ?_⟩))))))))
          exact (Sub.move (env' := [(1, .c (.ptr 0 0 0)), (4, .c (.own 2 0 a72.length)), (5, .c (.map 3)), (6, .c (int atv4)), (29, .c (int (ov.operators.length : Int))), (30, .c (int t9)), (51, .c (row 1 eLi64 a48.1)), (52, .c (int (a48.1.length : Int))), (53, .c (int t15))]) (σ' := [.one (.cells 4 [[int ov.facts, row 1 intI ov.init, row 1 intI ov.goal, row 3 eTOpenOperator ov.operators]]), .dead, .one (vec 1 eLi64 a72), .one (mapB Value.string (Value.int .i64) (mset c14 a59 1)), .one (vec 1 eLi64 [a55]), .one (vec 1 eLi64 [a55])]) 2 6 rfl rfl rfl ⟨rfl, rfl, rfl, rfl, rfl, rfl, rfl, rfl, rfl, trivial⟩ rfl ⟨⟨rfl, rfl⟩, trivial, ⟨Blk.im_ok _ _ _, vec_mv rfl⟩, ⟨rfl, rfl⟩, ⟨Blk.im_ok _ _ _, vec_mv rfl⟩, ⟨Blk.im_ok _ _ _, vec_mv rfl⟩, trivial⟩).trans (Sub.cut ⟨rfl, rfl, rfl, rfl, rfl, rfl, rfl, rfl, rfl, trivial⟩ rfl ⟨.one rfl, .dead, .vec, .one rfl, trivial⟩ rfl)
      ·intro e s hq
       rcases oo with ⟨c13, c14⟩ | x
       ·try dsimp only at h hq
        obtain ⟨rfl, hs⟩ := hq
        refine ⟨_, hs, ?_⟩
        refine inB_exit (inB_normal (thn_normal ⟨_, h, ?_⟩))
        exact Sub.env ⟨rfl, rfl, rfl, rfl, rfl, rfl, trivial⟩
       ·try dsimp only at h hq
        obtain ⟨rfl, hs⟩ := hq
        refine ⟨_, Sub.refl _ _, ?_⟩
        refine inB_ret (inB_ret (thn_ret ?_))
        have ej := Option.some.inj h
        subst ej
        refine thn_ret ⟨_, rfl, rfl, ?_⟩
        exact hs
   ·intro e s hq
    rcases oo with ⟨c7, c8⟩ | x
    ·try dsimp only at h hq
     obtain ⟨rfl, hs⟩ := hq
     refine ⟨_, hs, ?_⟩
     refine inB_exit (inB_normal (thn_normal (.region (.move rfl rfl (S.add rfl rfl rfl (.assign rfl rfl (.nil ?_)))))))
     have ej := Option.some.inj h
     subst ej
     refine thn_normal ⟨_, rfl, ?_⟩
     exact Sub.env ⟨rfl, rfl, rfl, rfl, trivial⟩
    ·try dsimp only at h hq
     obtain ⟨rfl, hs⟩ := hq
     refine ⟨_, Sub.refl _ _, ?_⟩
     refine inB_ret (inB_ret (thn_ret ?_))
     have ej := Option.some.inj h
     subst ej
     refine thn_ret ⟨_, rfl, rfl, ?_⟩
     exact hs
  ·refine AWP.exit (thn_exit ?_)
   have ej := Option.some.inj h
   subst ej
   refine thn_exit ⟨_, rfl, rfl, ?_⟩
   exact Sub.cut ⟨rfl, trivial⟩ rfl ⟨.dead, .dead, .vec, trivial⟩ rfl
 ·intro e s hq
  rcases oo with c5 | x
  ·try dsimp only at h hq
   obtain ⟨rfl, hs⟩ := hq
   refine ⟨_, hs, ?_⟩
   refine inB_exit (thn_normal (.seq ?_))
   obtain ⟨a76, ha76, h⟩ := bind_some h
   refine AWP.region (.move rfl rfl (.callF (r2 := .c (.own 4 0 a76.length)) (σ'' := [.dead, .dead, .dead, .dead, .one (vec 1 eLi64 a76)]) rfl rfl rfl (FnOk.lend [2] (belief_Normal_w_ok ha76) rfl rfl rfl rfl rfl rfl (by exact ⟨.vec, trivial⟩) rfl (by exact ⟨(.live rfl .vec), trivial⟩) rfl rfl (by exact ⟨.dead, .dead, .dead, .dead, (.new 2 rfl rfl .vec), trivial⟩)) (.assign rfl rfl (.assign rfl rfl (.nil (thn_normal (.frzV (id := 4) (l := a76) (env2 := [(2, .c (row 1 eLi64 a76)), (3, .c (bool true))]) (σ2 := [.dead, .dead, .dead, .dead, .dead]) rfl rfl (by exact ⟨⟨_, rfl, .inr ⟨_, rfl, rfl, rfl⟩⟩, ⟨_, rfl, .inl ⟨rfl, rfl⟩⟩, trivial⟩) rfl (by exact ⟨trivial, trivial, trivial, trivial, trivial, trivial⟩) (.ret ?_))))))))
   have ej := Option.some.inj h
   subst ej
   exact Done.ret rfl rfl
  ·try dsimp only at h hq
   obtain ⟨rfl, hs⟩ := hq
   refine ⟨_, Sub.refl _ _, ?_⟩
   refine inB_ret (thn_ret ?_)
   have ej := Option.some.inj h
   subst ej
   exact hs
theorem open_Explore_ok {ov : TOpenTask} {r : (List (List Int)) × TFault} (h : open_Explore ov = some r) : PureOk Tryz.prog 28 [.agg [int ov.facts, row 1 intI ov.init, row 1 intI ov.goal, row 3 eTOpenOperator ov.operators]] (.tup [.c (row 1 eLi64 r.1), .agg [int r.2.code, int r.2.index]]) := by
 unfold PureOk
 refine FnOk.enter (rs := [.t 2, .cell 3 28 2]) Tryz.func28 rfl Tryz.ntmps28 Tryz.results28 rfl ⟨trivial, rv _ rfl, trivial⟩ (by kernel_rfl) rfl ?_
 unfold open_Explore at h
 refine AWP.seq (.region (W.box rfl rfl rfl rfl rfl rfl (.assign rfl rfl (W.alloc rfl rfl rfl rfl (.nil (thn_normal (.seq (.seq ?_))))))))
 obtain ⟨a8, ha8, h⟩ := bind_some h
 refine AWP.region (W.loadAgg rfl rfl rfl rfl rfl rfl rfl (.callR rfl rfl rfl rfl (open_Validate_ok ha8) rfl (W.alloc rfl rfl rfl rfl (W.storeAgg rfl rfl rfl rfl rfl rfl rfl (.nil (thn_normal (.seq (.region (W.loadAgg rfl rfl rfl rfl rfl rfl rfl (W.build rfl rfl rfl rfl (.neqP rfl rfl rfl rfl rfl rfl rfl (.nil (thn_normal (.iteB rfl h (fun hc2 h => ?_) (fun hc2 h => ?_)))))))))))))))
 ·refine AWP.seq (.drawEI [2] mixed rfl rfl rfl ?_)
  apply DrawSeqE.consN; exact rfl; exact rfl; intro E
  refine W.loadAgg rfl rfl rfl rfl rfl rfl rfl (.nil ⟨rfl, rfl⟩)
  exact rfl
  apply DrawSeqE.consN; exact rfl; exact rfl; intro E
  refine AOps.assign rfl rfl (.nil ⟨rfl, rfl⟩)
  exact rfl
  apply DrawSeqE.consE (v := .undef); exact rfl; exact rfl; intro E
  refine W.storeAgg rfl rfl rfl rfl rfl rfl rfl (.nil ⟨rfl, rfl⟩)
  exact rfl
  exact rfl
  refine DrawSeqE.done rfl ?_ ?_
  ·apply RestI.cons; exact rfl; exact rfl
   apply RestK.go; exact rfl; exact rfl; intro E; refine W.loadAgg rfl rfl rfl rfl rfl rfl rfl ?_; exact AOps.nil ⟨rfl, rfl⟩
   refine RestK.skip rfl (RestK.nil)
   apply RestI.cons; exact rfl; exact rfl
   apply RestK.go; exact rfl; exact rfl; intro E; refine AOps.assign rfl rfl ?_; exact AOps.nil ⟨rfl, rfl⟩
   refine RestK.skip rfl (RestK.nil)
   refine RestI.skip rfl (RestI.nil)
  dsimp only [envEnd]
  refine thn_normal (.nilrow 1 2 rfl (.ret (thn_ret ?_)))
  have ej := Option.some.inj h
  subst ej
  exact Done.ret rfl rfl
 ·refine AWP.skip (thn_normal (.seq ?_))
  obtain ⟨a15, ha15, h⟩ := bind_some h
  refine AWP.region (W.loadAgg rfl rfl rfl rfl rfl rfl rfl (.callR rfl rfl rfl rfl (open_Reach_ok ha15) rfl (.move rfl rfl (.extract rfl rfl rfl (.extract rfl rfl rfl (.assign rfl rfl (.assign rfl rfl (.nil (thn_normal (.seq (.seq (.region (.move rfl rfl (.not rfl rfl (.nil (thn_normal (.iteB rfl h (fun hc3 h => ?_) (fun hc3 h => ?_))))))))))))))))))
  ·refine AWP.seq (.region (W.build rfl rfl rfl rfl (.assign rfl rfl (W.storeAgg rfl rfl rfl rfl rfl rfl rfl (.nil (thn_normal (.nilrow 1 2 rfl (.ret (thn_ret ?_)))))))))
   have ej := Option.some.inj h
   subst ej
   exact Done.ret rfl rfl
  ·refine AWP.skip (thn_normal (.seq (.region (.move rfl rfl (W.build rfl rfl rfl rfl (.assign rfl rfl (W.storeAgg rfl rfl rfl rfl rfl rfl rfl (.nil (thn_normal (.ret ?_))))))))))
   have ej := Option.some.inj h
   subst ej
   exact Done.ret rfl rfl
theorem open_Find_ok {all : List (List Int)} {sv : List Int} {r : Int} (h : open_Find all sv = some r) : PureOk Tryz.prog 30 [.c (row 1 eLi64 all), .c (row 1 intI sv)] (.c (int r)) := by
 unfold PureOk
 refine FnOk.enter (rs := [.t 4]) Tryz.func30 rfl Tryz.ntmps30 Tryz.results30 rfl ⟨trivial, trivial⟩ (by kernel_rfl) rfl ?_
 unfold open_Find at h
 refine AWP.seq (.region (.assign rfl rfl (.nil (thn_normal (.seq ?_)))))
 obtain ⟨a10, ha10, h⟩ := bind_some h
 refine AWP.region (.move rfl rfl (.move rfl rfl (.callR rfl rfl rfl rfl (slices_BinarySearchFunc_int_int_int_ok rfl (fun hy => slices_Compare_int_int_ok hy) ha10) rfl ?_)))
 refine AOps.move rfl rfl (.extract rfl rfl rfl (.extract rfl rfl rfl (.assign rfl rfl (.assign rfl rfl (.nil (thn_normal (.seq (.region (.move rfl rfl (.assign rfl rfl (.nil (thn_normal (.ret ?_)))))))))))))
 have ej := Option.some.inj h
 subst ej
 exact Done.ret rfl rfl
theorem slices_BinarySearchFunc_api_Choice_api_Choice_int_ok {xv : List TChoice} {target : List Int} {cmp : TChoice → (List Int) → Option Int} {r : Int × Bool} {fvcmp : FuncId} {cvcmp : List C} (hcvcmp : C.okL 0 cvcmp = true) (hcmp : ∀ {y1 : TChoice} {y2 : List Int} {z : Int}, cmp y1 y2 = some z → PureOk Tryz.prog fvcmp ([.agg [row 1 intI y1.state, int y1.operator], .c (row 1 intI y2)] ++ cvcmp.map T.c) (.c (int z))) (h : slices_BinarySearchFunc_api_Choice_api_Choice_int xv target cmp = some r) : PureOk Tryz.prog 73 [.c (row 2 eTChoice xv), .c (row 1 intI target), .c (.fn fvcmp cvcmp)] (.tup [.c (int r.1), .c (bool r.2)]) := by
 unfold PureOk
 refine FnOk.enter (rs := [.t 6, .t 7]) Tryz.func73 rfl Tryz.ntmps73 Tryz.results73 rfl ⟨trivial, trivial, trivial⟩ (by kernel_rfl) rfl ?_
 unfold slices_BinarySearchFunc_api_Choice_api_Choice_int at h
 refine AWP.seq (.region (.assign rfl rfl (.assign rfl rfl (.nil (thn_normal (.seq (.region (.move rfl rfl (S.len rfl rfl (fun hl13 => .assign rfl rfl (.nil (thn_normal (.seq (.region (.move rfl rfl (.assign rfl rfl (.assign rfl rfl (.nil (thn_normal (.seq (.block ?_)))))))))))))))))))))
 obtain ⟨iv6, ho1, h⟩ := bind_some h
 refine AWP.loopS ho1 (fun (iv4, j5) => ⟨[(0, .c (row 2 eTChoice xv)), (1, .c (row 1 intI target)), (2, .c (.fn fvcmp cvcmp)), (8, .c (int (xv.length : Int))), (9, .c (int iv4)), (10, .c (int j5))], []⟩) (fun iv6 e st => e = .exit 0 ∧ Sub [] st ⟨[(0, .c (row 2 eTChoice xv)), (1, .c (row 1 intI target)), (2, .c (.fn fvcmp cvcmp)), (8, .c (int (xv.length : Int))), (9, .c (int iv6))], []⟩) ?_ ?_ ?_
 ·try dsimp only
  exact Sub.env ⟨rfl, rfl, rfl, rfl, rfl, rfl, trivial⟩
 ·intro s o h
  obtain ⟨iv4, j5⟩ := s
  unfold slices_BinarySearchFunc_api_Choice_api_Choice_int_l1 at h
  try dsimp only at h ⊢
  refine AWP.seq (.seq (.region (.move rfl rfl (.move rfl rfl (.lss rfl rfl rfl (.nil (thn_normal (.ite rfl h (fun hc7 h => ?_) (fun hc7 h => ?_)))))))))
  ·refine AWP.skip (thn_normal (.block (.seq (.region (.move rfl rfl (.move rfl rfl (S.add rfl rfl rfl (.convInt rfl rfl (.shr rfl rfl rfl (by decide) rfl (.convInt rfl rfl (.assign rfl rfl (.nil (thn_normal (.seq ?_))))))))))))))
   obtain ⟨a27, ha27, h⟩ := bind_some h
   obtain ⟨a30, ha30, h⟩ := bind_some h
   refine AWP.region (.move rfl rfl (.move rfl rfl (.move rfl rfl (S.idx ha27 rfl rfl rfl rfl (W.loadIAgg rfl rfl rfl rfl rfl (.move rfl rfl (.callR rfl rfl (okL_app rfl hcvcmp) rfl (hcmp ha30) rfl (.lss rfl rfl rfl (.nil (thn_normal (.ite rfl h (fun hc8 h => ?_) (fun hc8 h => ?_))))))))))))
   ·refine AWP.region (.move rfl rfl (S.add rfl rfl rfl (.assign rfl rfl (.nil (inB_normal ?_)))))
    have ej := Option.some.inj h
    subst ej
    refine thn_normal ⟨_, rfl, ?_⟩
    exact Sub.env ⟨rfl, rfl, rfl, rfl, rfl, rfl, trivial⟩
   ·refine AWP.region (.move rfl rfl (.assign rfl rfl (.nil (inB_normal ?_))))
    have ej := Option.some.inj h
    subst ej
    refine thn_normal ⟨_, rfl, ?_⟩
    exact Sub.env ⟨rfl, rfl, rfl, rfl, rfl, rfl, trivial⟩
  ·refine AWP.exit (thn_exit ?_)
   have ej := Option.some.inj h
   subst ej
   refine thn_exit ⟨_, rfl, rfl, ?_⟩
   exact Sub.env ⟨rfl, rfl, rfl, rfl, rfl, trivial⟩
 ·intro e s hq
  obtain ⟨rfl, hs⟩ := hq
  refine ⟨_, hs, ?_⟩
  refine inB_exit (thn_normal ?_)
  obtain ⟨t9, hx10, h⟩ := bind_some h
  refine AWP.seqJ (⟨[(6, .c (int iv6)), (7, .c (bool t9))], []⟩) ?_ ?_
  ·rcases Bool.eq_false_or_eq_true (decide (iv6 < (xv.length : Int))) with hb11 | hb11
   ·replace hx10 := iteDT hb11 hx10
    obtain ⟨a43, ha43, hx10⟩ := bind_some hx10
    obtain ⟨a46, ha46, hx10⟩ := bind_some hx10
    refine AWP.region (.move rfl rfl (.move rfl rfl (.move rfl rfl (.lss rfl rfl rfl (.move rfl rfl (.guardT rfl rfl rfl hb11 (.move rfl rfl (.guardT rfl rfl rfl hb11 (.move rfl rfl (.guardT rfl rfl rfl hb11 (.move rfl rfl (.guardT rfl rfl rfl hb11 (S.idx ha43 rfl rfl rfl rfl (.guardT rfl rfl rfl hb11 (W.loadIAgg rfl rfl rfl rfl rfl (.guardT rfl rfl rfl hb11 (.move rfl rfl (.guardT rfl rfl rfl hb11 (.callR rfl rfl (okL_app rfl hcvcmp) rfl (hcmp ha46) rfl (.guardT rfl rfl rfl hb11 (.eql rfl rfl rfl (.pickT rfl hb11 rfl rfl (.assign rfl rfl (.assign rfl rfl (.nil ?_)))))))))))))))))))))))))
    have ej := Option.some.inj hx10
    subst ej
    refine thn_normal (Sub.env ⟨rfl, rfl, trivial⟩)
   ·replace hx10 := iteDF hb11 hx10
    refine AWP.region (.move rfl rfl (.move rfl rfl (.move rfl rfl (.lss rfl rfl rfl (.move rfl rfl (.guardF rfl rfl rfl hb11 (.guardF rfl rfl rfl hb11 (.guardF rfl rfl rfl hb11 (.guardF rfl rfl rfl hb11 (.guardF rfl rfl rfl hb11 (.guardF rfl rfl rfl hb11 (.guardF rfl rfl rfl hb11 (.guardF rfl rfl rfl hb11 (.pickF rfl hb11 rfl rfl (.assign rfl rfl (.assign rfl rfl (.nil ?_)))))))))))))))))
    have ej := Option.some.inj hx10
    subst ej
    refine thn_normal (Sub.env ⟨rfl, rfl, trivial⟩)
  ·refine AWP.ret ?_
   have ej := Option.some.inj h
   subst ej
   exact Done.ret rfl rfl
theorem open_Chosen_1_ok {c : TChoice} {sv : List Int} {r : Int} (h : open_Chosen_1 c sv = some r) : PureOk Tryz.prog 84 [.agg [row 1 intI c.state, int c.operator], .c (row 1 intI sv)] (.c (int r)) := by
 unfold PureOk
 refine FnOk.enter (rs := [.t 4]) Tryz.func84 rfl Tryz.ntmps84 Tryz.results84 rfl ⟨trivial, trivial⟩ (by kernel_rfl) rfl ?_
 unfold open_Chosen_1 at h
 refine AWP.seq (.region (W.box rfl rfl rfl rfl rfl rfl (.assign rfl rfl (.nil (thn_normal (.seq ?_))))))
 obtain ⟨a8, ha8, h⟩ := bind_some h
 refine AWP.region (W.fieldAddr rfl rfl rfl rfl (.load rfl rfl rfl rfl rfl rfl (.move rfl rfl (.callR rfl rfl rfl rfl (slices_Compare_int_int_ok ha8) rfl (.assign rfl rfl (.nil (thn_normal (.ret ?_))))))))
 have ej := Option.some.inj h
 subst ej
 exact Done.ret rfl rfl
theorem open_Chosen_ok {policy : List TChoice} {sv : List Int} {r : Int} (h : open_Chosen policy sv = some r) : PureOk Tryz.prog 55 [.c (row 2 eTChoice policy), .c (row 1 intI sv)] (.c (int r)) := by
 unfold PureOk
 refine FnOk.enter (rs := [.t 4]) Tryz.func55 rfl Tryz.ntmps55 Tryz.results55 rfl ⟨trivial, trivial⟩ (by kernel_rfl) rfl ?_
 unfold open_Chosen at h
 refine AWP.seq (.region (.assign rfl rfl (.nil (thn_normal (.seq ?_)))))
 obtain ⟨a10, ha10, h⟩ := bind_some h
 refine AWP.region (.move rfl rfl (.move rfl rfl (.callR rfl rfl rfl rfl (slices_BinarySearchFunc_api_Choice_api_Choice_int_ok rfl (fun hy => open_Chosen_1_ok hy) ha10) rfl ?_)))
 refine AOps.move rfl rfl (.extract rfl rfl rfl (.extract rfl rfl rfl (.assign rfl rfl (.assign rfl rfl (.nil (thn_normal (.seq (.seq (.region (.move rfl rfl (.not rfl rfl (.nil (thn_normal (.iteB rfl h (fun hc3 h => ?_) (fun hc3 h => ?_)))))))))))))))
 ·refine AWP.seq (.region (.assign rfl rfl (.nil (thn_normal (.ret (thn_ret ?_))))))
  have ej := Option.some.inj h
  subst ej
  exact Done.ret rfl rfl
 ·refine AWP.skip (thn_normal (.seq ?_))
  obtain ⟨a17, ha17, h⟩ := bind_some h
  refine AWP.region (.move rfl rfl (.move rfl rfl (S.idx ha17 rfl rfl rfl rfl (W.fieldAddrI rfl rfl rfl rfl (.loadI rfl rfl rfl rfl (.assign rfl rfl (.nil (thn_normal (.ret ?_)))))))))
  have ej := Option.some.inj h
  subst ej
  exact Done.ret rfl rfl
theorem strong_Build_1_ok {c : TChoice} {sv : List Int} {r : Int} (h : strong_Build_1 c sv = some r) : PureOk Tryz.prog 74 [.agg [row 1 intI c.state, int c.operator], .c (row 1 intI sv)] (.c (int r)) := by
 unfold PureOk
 refine FnOk.enter (rs := [.t 4]) Tryz.func74 rfl Tryz.ntmps74 Tryz.results74 rfl ⟨trivial, trivial⟩ (by kernel_rfl) rfl ?_
 unfold strong_Build_1 at h
 refine AWP.seq (.region (W.box rfl rfl rfl rfl rfl rfl (.assign rfl rfl (.nil (thn_normal (.seq ?_))))))
 obtain ⟨a8, ha8, h⟩ := bind_some h
 refine AWP.region (W.fieldAddr rfl rfl rfl rfl (.load rfl rfl rfl rfl rfl rfl (.move rfl rfl (.callR rfl rfl rfl rfl (slices_Compare_int_int_ok ha8) rfl (.assign rfl rfl (.nil (thn_normal (.ret ?_))))))))
 have ej := Option.some.inj h
 subst ej
 exact Done.ret rfl rfl
theorem strong_Build_ok {ov : TOpenTask} {choose : (List Int) → Option Int} {r : (List TChoice) × Bool} {fvchoose : FuncId} {cvchoose : List C} (hcvchoose : C.okL 0 cvchoose = true) (hchoose : ∀ {y1 : List Int} {z : Int}, choose y1 = some z → PureOk Tryz.prog fvchoose ([.c (row 1 intI y1)] ++ cvchoose.map T.c) (.c (int z))) (h : strong_Build ov choose = some r) : PureOk Tryz.prog 31 [.agg [int ov.facts, row 1 intI ov.init, row 1 intI ov.goal, row 3 eTOpenOperator ov.operators], .c (.fn fvchoose cvchoose)] (.tup [.c (row 2 eTChoice r.1), .c (bool r.2)]) := by
 unfold PureOk
 refine FnOk.enter (rs := [.t 4, .t 5]) Tryz.func31 rfl Tryz.ntmps31 Tryz.results31 rfl ⟨trivial, trivial, trivial⟩ (by kernel_rfl) rfl ?_
 unfold strong_Build at h
 refine AWP.seq (.region (W.box rfl rfl rfl rfl rfl rfl (.assign rfl rfl (.assign rfl rfl (.nil (thn_normal (.seq (.region (.assign rfl rfl (.nil (thn_normal (.seq (.region (W.fieldAddr rfl rfl rfl rfl (.load rfl rfl rfl rfl rfl rfl (S.lit (f := eLi64) (l := [ov.init]) (ess := [[row 1 intI ov.init]]) rfl rfl rfl rfl rfl rfl rfl ⟨⟨.inl rfl, trivial⟩, trivial⟩ rfl rfl rfl (.assign rfl rfl (.nil (thn_normal (.seq (.seq (.region (.assign rfl rfl (.nil (thn_normal (.block (.virtV 2 eTChoice 6 rfl rfl rfl ?_)))))))))))))))))))))))))))
 obtain ⟨oo, ho1, h⟩ := bind_some h
 refine AWP.loopS ho1 (fun (c3, c4, atv5) => ⟨[(1, .c (.fn fvchoose cvchoose)), (2, .c (.ptr 0 0 0)), (6, .c (.own 2 0 c4.length)), (7, .c (.own 1 0 c3.length)), (8, .c (int atv5))], [.one (.cells 4 [[int ov.facts, row 1 intI ov.init, row 1 intI ov.goal, row 3 eTOpenOperator ov.operators]]), .one (vec 1 eLi64 c3), .one (vec 2 eTChoice c4)]⟩) (fun o e st => match o with | .inl c6 => e = .exit 0 ∧ Sub [] st ⟨[(6, .c (.own 2 0 c6.length))], [.dead, .dead, .one (vec 2 eTChoice c6)]⟩ | .inr x => e = .ret ∧ Done [.t 4, .t 5] (fun t _ => t = .tup [.c (row 2 eTChoice x.1), .c (bool x.2)]) .ret st) ?_ ?_ ?_
 ·try dsimp only
  exact Sub.env ⟨rfl, rfl, (own_len (by first | rfl | simp only [List.length_set])), rfl, rfl, trivial⟩
 ·intro s o h
  obtain ⟨c3, c4, atv5⟩ := s
  unfold strong_Build_l1 at h
  try dsimp only at h ⊢
  refine AWP.seq (.seq (.region (.move rfl rfl (.move rfl rfl (S.lenO rfl rfl rfl (fun hl20 => .lss rfl rfl rfl (.nil (thn_normal (.ite rfl h (fun hc7 h => ?_) (fun hc7 h => ?_))))))))))
  ·refine AWP.skip (thn_normal (.seqF ((strong_Build_j2 atv5)) o (fun (c8, c9) => ⟨[(1, .c (.fn fvchoose cvchoose)), (2, .c (.ptr 0 0 0)), (6, .c (.own 2 0 c9.length)), (7, .c (.own 1 0 c8.length)), (8, .c (int atv5))], [.one (.cells 4 [[int ov.facts, row 1 intI ov.init, row 1 intI ov.goal, row 3 eTOpenOperator ov.operators]]), .one (vec 1 eLi64 c8), .one (vec 2 eTChoice c9)]⟩) (fun x h => ?_) ?_))
   ·obtain ⟨c8, c9⟩ := x
    unfold strong_Build_j2 at h
    try dsimp only at h ⊢
    refine AWP.region (.move rfl rfl (S.add rfl rfl rfl (.assign rfl rfl (.nil ?_))))
    have ej := Option.some.inj h
    subst ej
    refine thn_normal ⟨_, rfl, ?_⟩
    exact Sub.env ⟨rfl, rfl, rfl, rfl, rfl, trivial⟩
   ·refine AWP.block (.seq ?_)
    obtain ⟨a26, ha26, h⟩ := bind_some h
    refine AWP.region (.move rfl rfl (.move rfl rfl (S.idxO ha26 rfl rfl rfl rfl rfl (S.loadO ha26 rfl rfl rfl rfl rfl (.assign rfl rfl (.nil (thn_normal (.seq ?_))))))))
    obtain ⟨t10, hx11, h⟩ := bind_some h
    refine AWP.seqJ (⟨[(1, .c (.fn fvchoose cvchoose)), (2, .c (.ptr 0 0 0)), (6, .c (.own 2 0 c4.length)), (7, .c (.own 1 0 c3.length)), (8, .c (int atv5)), (9, .c (row 1 intI a26)), (37, .c (bool t10))], [.one (.cells 4 [[int ov.facts, row 1 intI ov.init, row 1 intI ov.goal, row 3 eTOpenOperator ov.operators]]), .one (vec 1 eLi64 c3), .one (vec 2 eTChoice c4)]⟩) ?_ ?_
    ·obtain ⟨a31, ha31, hx11⟩ := bind_some hx11
     rcases Bool.eq_false_or_eq_true (a31) with hb12 | hb12
     ·replace hx11 := iteBT hb12 hx11
      refine AWP.region (.move rfl rfl (W.fieldAddr rfl rfl rfl rfl (.load rfl rfl rfl rfl rfl rfl (.callR rfl rfl rfl rfl (strips_Contains_ok ha31) rfl (.move rfl rfl (.guardF rfl rfl rfl hb12 (.guardF rfl rfl rfl hb12 (.guardF rfl rfl rfl hb12 (.guardF rfl rfl rfl hb12 (.pickT rfl hb12 rfl rfl (.nil ?_)))))))))))
      have ej := Option.some.inj hx11
      subst ej
      refine thn_normal (Sub.env ⟨rfl, rfl, rfl, rfl, rfl, rfl, rfl, trivial⟩)
     ·replace hx11 := iteBF hb12 hx11
      obtain ⟨a35, ha35, hx11⟩ := bind_some hx11
      refine AWP.region (.move rfl rfl (W.fieldAddr rfl rfl rfl rfl (.load rfl rfl rfl rfl rfl rfl (.callR rfl rfl rfl rfl (strips_Contains_ok ha31) rfl (.move rfl rfl (.guardT rfl rfl rfl hb12 (.move rfl rfl (.guardT rfl rfl rfl hb12 (.move rfl rfl (.guardT rfl rfl rfl hb12 (.callL rfl rfl (.cons (.c (.own rfl rfl)) (.cons (.c .imm) .nil)) rfl (open_Chosen_ok ha35) rfl (.guardT rfl rfl rfl hb12 (.geq rfl rfl rfl (.pickF rfl hb12 rfl rfl (.nil ?_)))))))))))))))
      have ej := Option.some.inj hx11
      subst ej
      refine thn_normal (Sub.env ⟨rfl, rfl, rfl, rfl, rfl, rfl, rfl, trivial⟩)
    ·refine AWP.iteB rfl h (fun hc13 h => ?_) (fun hc13 h => ?_)
     ·refine AWP.exit (thn_exit (inB_exit (thn_normal ⟨_, h, ?_⟩)))
      exact Sub.env ⟨rfl, rfl, rfl, rfl, rfl, trivial⟩
     ·refine AWP.skip (thn_normal (.seq (.seq (.region (.move rfl rfl (S.lenO rfl rfl rfl (fun hl39 => .eql rfl rfl rfl (.nil (thn_normal (.ite rfl h (fun hc14 h => ?_) (fun hc14 h => ?_)))))))))))
      ·refine AWP.seq (.region (.assign rfl rfl (.assign rfl rfl (.nil (thn_normal (.nilrow 2 4 rfl (.ret (thn_ret (inB_ret (thn_ret ?_))))))))))
       have ej := Option.some.inj h
       subst ej
       refine thn_ret ⟨_, rfl, rfl, ?_⟩
       exact Done.ret rfl rfl
      ·refine AWP.skip (thn_normal (.seq ?_))
       obtain ⟨a43, ha43, h⟩ := bind_some h
       refine AWP.region (.move rfl rfl (.move rfl rfl (.callR rfl rfl (okL_app rfl hcvchoose) rfl (hchoose ha43) rfl (.assign rfl rfl (.nil (thn_normal (.seq ?_)))))))
       obtain ⟨a47, ha47, h⟩ := bind_some h
       refine AWP.region (.move rfl rfl (.move rfl rfl (.callL rfl rfl (.cons (.c (.own rfl rfl)) (.cons (.c .imm) (.cons (.c (.fn .nil)) .nil))) rfl (slices_BinarySearchFunc_api_Choice_api_Choice_int_ok rfl (fun hy => strong_Build_1_ok hy) ha47) rfl ?_)))
       refine AOps.move rfl rfl (.extract rfl rfl rfl (.extract rfl rfl rfl (.assign rfl rfl (.assign rfl rfl (.nil (thn_normal (.seq ?_)))))))
       obtain ⟨a53, ha53, h⟩ := bind_some h
       obtain ⟨a57, ha57, h⟩ := bind_some h
       refine AWP.region (.move rfl rfl (.move rfl rfl (.move rfl rfl (S.fresh rfl rfl rfl rfl (slices_Clone_int_int_ok ha53) rfl rfl (.move rfl rfl (W.build rfl rfl rfl rfl (.frzV (id := 3) (l := a53) (env2 := [(1, .c (.fn fvchoose cvchoose)), (2, .c (.ptr 0 0 0)), (7, .c (.own 1 0 c3.length)), (8, .c (int atv5)), (9, .c (row 1 intI a26)), (10, .c (int a43)), (50, .c (.own 2 0 c4.length)), (51, .c (int a47.1)), (55, .agg [row 1 intI a53, int a43])]) (σ2 := [.one (.cells 4 [[int ov.facts, row 1 intI ov.init, row 1 intI ov.goal, row 3 eTOpenOperator ov.operators]]), .one (vec 1 eLi64 c3), .one (vec 2 eTChoice c4), .dead]) rfl rfl (by exact ⟨⟨_, rfl, .inl ⟨rfl, fnNo hcvchoose⟩⟩, ⟨_, rfl, .inl ⟨rfl, rfl⟩⟩, ⟨_, rfl, .inl ⟨rfl, rfl⟩⟩, ⟨_, rfl, .inl ⟨rfl, rfl⟩⟩, ⟨_, rfl, .inl ⟨rfl, rfl⟩⟩, ⟨_, rfl, .inl ⟨rfl, rfl⟩⟩, ⟨_, rfl, .inl ⟨rfl, rfl⟩⟩, ⟨_, rfl, .inl ⟨rfl, rfl⟩⟩, ⟨_, rfl, ⟨.inr ⟨_, rfl, rfl, rfl⟩, .inl ⟨rfl, rfl⟩, trivial⟩⟩, trivial⟩) rfl (by exact ⟨⟨rfl, .inl ⟨rfl, rfl⟩, .inl ⟨rfl, rfl⟩, .inl ⟨rfl, rfl⟩, .inl ⟨rfl, rfl⟩, trivial⟩, FrzB.vec, FrzB.vec, trivial, trivial⟩) (S.lit (f := eTChoice) (l := [(⟨a53, a43⟩ : TChoice)]) (ess := [[row 1 intI a53, int a43]]) rfl rfl rfl rfl rfl rfl rfl ⟨⟨.inl rfl, .inl rfl, trivial⟩, trivial⟩ rfl rfl rfl (S.insert (f := eTChoice) ha57 rfl rfl rfl rfl rfl rfl rfl rfl rfl rfl rfl (.assign rfl rfl (.nil (thn_normal (.seq (.move (env' := [(1, .c (.fn fvchoose cvchoose)), (2, .c (.ptr 0 0 0)), (6, .c (.own 2 0 a57.length)), (7, .c (.own 1 0 c3.length)), (8, .c (int atv5)), (9, .c (row 1 intI a26)), (10, .c (int a43))]) (σ' := [.one (.cells 4 [[int ov.facts, row 1 intI ov.init, row 1 intI ov.goal, row 3 eTOpenOperator ov.operators]]), .one (vec 1 eLi64 c3), .one (vec 2 eTChoice a57), .dead, .one (vec 2 eTChoice [(⟨a53, a43⟩ : TChoice)])]) 2 5 rfl rfl rfl ⟨fnMv hcvchoose rfl, rfl, rfl, rfl, rfl, rfl, rfl, trivial⟩ (eOk1 (fnOk (f := fvchoose) hcvchoose) (eOk1 rfl (eOk1 rfl (eOk1 rfl (eOk1 rfl (eOk1 rfl (eOk1 rfl rfl))))))) ⟨⟨rfl, rfl⟩, ⟨Blk.im_ok _ _ _, vec_mv rfl⟩, ⟨Blk.im_ok _ _ _, vec_mv rfl⟩, trivial, ⟨Blk.im_ok _ _ _, vec_mv rfl⟩, trivial⟩ ?_))))))))))))))
       obtain ⟨a62, ha62, h⟩ := bind_some h
       refine AWP.region (W.loadAgg rfl rfl rfl rfl rfl rfl rfl (.move rfl rfl (.move rfl rfl (.callR rfl rfl rfl rfl (open_Results_ok ha62) rfl (.move rfl rfl (.extract rfl rfl rfl (.extract rfl rfl rfl (.assign rfl rfl (.assign rfl rfl (.nil (thn_normal ?_)))))))))))
       obtain ⟨a67, ha67, h⟩ := bind_some h
       refine AWP.region (.move rfl rfl (.move rfl rfl (S.append (f := eLi64) ha67 rfl rfl rfl rfl rfl rfl .row rfl rfl rfl rfl (.assign rfl rfl (.nil (inB_normal (thn_normal ⟨_, h, ?_⟩)))))))
       exact (Sub.move (env' := [(1, .c (.fn fvchoose cvchoose)), (2, .c (.ptr 0 0 0)), (6, .c (.own 2 0 a57.length)), (7, .c (.own 1 0 a67.length)), (8, .c (int atv5))]) (σ' := [.one (.cells 4 [[int ov.facts, row 1 intI ov.init, row 1 intI ov.goal, row 3 eTOpenOperator ov.operators]]), .one (vec 1 eLi64 a67), .one (vec 2 eTChoice a57), .dead, .one (vec 2 eTChoice [(⟨a53, a43⟩ : TChoice)])]) 1 5 rfl rfl rfl ⟨fnMv hcvchoose rfl, rfl, rfl, rfl, rfl, trivial⟩ (eOk1 (fnOk (f := fvchoose) hcvchoose) (eOk1 rfl (eOk1 rfl (eOk1 rfl (eOk1 rfl rfl))))) ⟨⟨rfl, rfl⟩, ⟨Blk.im_ok _ _ _, vec_mv rfl⟩, ⟨Blk.im_ok _ _ _, vec_mv rfl⟩, trivial, ⟨Blk.im_ok _ _ _, vec_mv rfl⟩, trivial⟩).trans (Sub.cut ⟨rfl, rfl, rfl, rfl, rfl, trivial⟩ rfl ⟨.one rfl, .vec, .vec, trivial⟩ (eOk1 (fnOk (f := fvchoose) hcvchoose) (eOk1 rfl (eOk1 rfl (eOk1 rfl (eOk1 rfl rfl))))))
  ·refine AWP.exit (thn_exit ?_)
   have ej := Option.some.inj h
   subst ej
   refine thn_exit ⟨_, rfl, rfl, ?_⟩
   exact Sub.cut ⟨rfl, trivial⟩ rfl ⟨.dead, .dead, .vec, trivial⟩ rfl
 ·intro e s hq
  rcases oo with c6 | x
  ·try dsimp only at h hq
   obtain ⟨rfl, hs⟩ := hq
   refine ⟨_, hs, ?_⟩
   refine inB_exit (thn_normal (.seq (.region (.move rfl rfl (.assign rfl rfl (.assign rfl rfl (.nil (thn_normal (.frzV (id := 2) (l := c6) (env2 := [(4, .c (row 2 eTChoice c6)), (5, .c (bool true))]) (σ2 := [.dead, .dead, .dead]) rfl rfl (by exact ⟨⟨_, rfl, .inr ⟨_, rfl, rfl, rfl⟩⟩, ⟨_, rfl, .inl ⟨rfl, rfl⟩⟩, trivial⟩) rfl (by exact ⟨trivial, trivial, trivial, trivial⟩) (.ret ?_))))))))))
   have ej := Option.some.inj h
   subst ej
   exact Done.ret rfl rfl
  ·try dsimp only at h hq
   obtain ⟨rfl, hs⟩ := hq
   refine ⟨_, Sub.refl _ _, ?_⟩
   refine inB_ret (thn_ret ?_)
   have ej := Option.some.inj h
   subst ej
   exact hs
theorem open_ValidatePolicy_ok {ov : TOpenTask} {policy : List TChoice} {r : TFault} (h : open_ValidatePolicy ov policy = some r) : PureOk Tryz.prog 52 [.agg [int ov.facts, row 1 intI ov.init, row 1 intI ov.goal, row 3 eTOpenOperator ov.operators], .c (row 2 eTChoice policy)] (.agg [int r.code, int r.index]) := by
 unfold PureOk
 refine FnOk.enter (rs := [.cell 4 28 2]) Tryz.func52 rfl Tryz.ntmps52 Tryz.results52 rfl ⟨rv _ rfl, trivial⟩ (by kernel_rfl) rfl ?_
 unfold open_ValidatePolicy at h
 refine AWP.seq (.region (W.box rfl rfl rfl rfl rfl rfl (W.alloc rfl rfl rfl rfl (.nil (thn_normal (.seq (.seq ?_)))))))
 obtain ⟨a10, ha10, h⟩ := bind_some h
 refine AWP.region (W.loadAgg rfl rfl rfl rfl rfl rfl rfl (.callR rfl rfl rfl rfl (open_Validate_ok ha10) rfl (W.alloc rfl rfl rfl rfl (W.storeAgg rfl rfl rfl rfl rfl rfl rfl (.nil (thn_normal (.seq (.region (W.loadAgg rfl rfl rfl rfl rfl rfl rfl (W.build rfl rfl rfl rfl (.neqP rfl rfl rfl rfl rfl rfl rfl (.nil (thn_normal (.iteB rfl h (fun hc3 h => ?_) (fun hc3 h => ?_)))))))))))))))
 ·refine AWP.seq (.region (W.loadAgg rfl rfl rfl rfl rfl rfl rfl (W.storeAgg rfl rfl rfl rfl rfl rfl rfl (.nil (thn_normal (.ret (thn_ret ?_)))))))
  have ej := Option.some.inj h
  subst ej
  exact Done.ret rfl rfl
 ·refine AWP.skip (thn_normal (.seq (.seq (.region (.move rfl rfl (S.len rfl rfl (fun hl16 => .gtr rfl rfl rfl (.nil (thn_normal (.ite rfl h (fun hc4 h => ?_) (fun hc4 h => ?_)))))))))))
  ·refine AWP.seq (.region (W.build rfl rfl rfl rfl (W.storeAgg rfl rfl rfl rfl rfl rfl rfl (.nil (thn_normal (.ret (thn_ret ?_)))))))
   have ej := Option.some.inj h
   subst ej
   exact Done.ret rfl rfl
  ·refine AWP.skip (thn_normal (.seq (.seq (.region (.move rfl rfl (S.len rfl rfl (fun hl20 => .move rfl rfl (.nil (thn_normal (.block ?_))))))))))
   obtain ⟨oo, ho1, h⟩ := bind_some h
   refine AWP.rngS ho1 (fun t5 _ => ⟨[(1, .c (row 2 eTChoice policy)), (2, .c (.ptr 0 0 0)), (4, .c (.ptr 1 0 0)), (19, .c (row 2 eTChoice policy)), (20, .c (int (policy.length : Int))), (21, .c (int t5))], [.one (.cells 4 [[int ov.facts, row 1 intI ov.init, row 1 intI ov.goal, row 3 eTOpenOperator ov.operators]]), .one (.cells 2 [[int 0, int 0]])]⟩) (fun o e st => match o with | .inl _ => e = .exit 0 ∧ Sub [] st ⟨[(4, .c (.ptr 1 0 0))], [.one (.cells 4 [[int ov.facts, row 1 intI ov.init, row 1 intI ov.goal, row 3 eTOpenOperator ov.operators]]), .one (.cells 2 [[int 0, int 0]])]⟩ | .inr x => e = .ret ∧ Done [.cell 4 28 2] (fun t _ => t = .agg [int x.code, int x.index]) .ret st) ?_ ?_ ?_ ?_
   ·try dsimp only
    exact Sub.cut ⟨rfl, rfl, rfl, rfl, rfl, rfl, trivial⟩ rfl ⟨.one rfl, .one rfl, trivial⟩ rfl
   ·intro t5 s hlot5 hltt5 _
    try dsimp only
    refine AWP.seq (.region (.lss rfl rfl rfl (.nil (thn_normal (.seq (.condNP rfl hltt5 (.exit (thn_exit (thn_exit ⟨rfl, ?_⟩)))))))))
    exact Sub.env ⟨rfl, trivial⟩
   ·intro t5 s o hlot5 hltt5 h
    unfold open_ValidatePolicy_l1 at h
    try dsimp only at h ⊢
    refine AWP.seq (.region (.lss rfl rfl rfl (.nil (thn_normal (.seq (.condP rfl hltt5 (.skip (thn_normal (.seq (.block (.seq ?_)))))))))))
    obtain ⟨a24, ha24, h⟩ := bind_some h
    refine AWP.region (.move rfl rfl (S.idx ha24 rfl rfl rfl rfl (W.loadIAgg rfl rfl rfl rfl rfl (W.alloc rfl rfl rfl rfl (.assign rfl rfl (W.storeAgg rfl rfl rfl rfl rfl rfl rfl (.nil (thn_normal (.seq (.region (.assign rfl rfl (.nil (thn_normal ?_)))))))))))))
    obtain ⟨ev6, hx7, h⟩ := bind_some h
    refine AWP.seqJ (⟨[(1, .c (row 2 eTChoice policy)), (2, .c (.ptr 0 0 0)), (4, .c (.ptr 1 0 0)), (6, .c (int t5)), (8, .c (int ev6)), (19, .c (row 2 eTChoice policy)), (20, .c (int (policy.length : Int))), (21, .c (int t5))], [.one (.cells 4 [[int ov.facts, row 1 intI ov.init, row 1 intI ov.goal, row 3 eTOpenOperator ov.operators]]), .one (.cells 2 [[int 0, int 0]])]⟩) ?_ ?_
    ·refine AWP.block ?_
     obtain ⟨t8, hx9, hx7⟩ := bind_some hx7
     refine AWP.seqJ (⟨[(1, .c (row 2 eTChoice policy)), (2, .c (.ptr 0 0 0)), (4, .c (.ptr 1 0 0)), (6, .c (int t5)), (7, .c (.ptr 2 0 0)), (8, .c (int 0)), (19, .c (row 2 eTChoice policy)), (20, .c (int (policy.length : Int))), (21, .c (int t5)), (26, .c (bool t8))], [.one (.cells 4 [[int ov.facts, row 1 intI ov.init, row 1 intI ov.goal, row 3 eTOpenOperator ov.operators]]), .one (.cells 2 [[int 0, int 0]]), .one (.cells 2 [[row 1 intI a24.state, int a24.operator]])]⟩) ?_ ?_
     ·obtain ⟨a31, ha31, hx9⟩ := bind_some hx9
      rcases Bool.eq_false_or_eq_true (!a31) with hb10 | hb10
      ·replace hx9 := iteBT hb10 hx9
       refine AWP.drawI mixed rfl ?_
       apply DrawSeq.consF; exact rfl; intro E
       refine W.fieldAddr rfl rfl rfl rfl (.nil ⟨rfl, rfl⟩)
       exact rfl
       apply DrawSeq.consF; exact rfl; intro E
       refine AOps.load rfl rfl rfl rfl rfl rfl (.nil ⟨rfl, rfl⟩)
       exact rfl
       apply DrawSeq.consF; exact rfl; intro E
       refine W.fieldAddr rfl rfl rfl rfl (.nil ⟨rfl, rfl⟩)
       exact rfl
       apply DrawSeq.consF; exact rfl; intro E
       refine AOps.load rfl rfl rfl rfl rfl rfl (.nil ⟨rfl, rfl⟩)
       exact rfl
       apply DrawSeq.consF; exact rfl; intro E
       refine AOps.callR rfl rfl rfl rfl (strips_IsSet_ok ha31) rfl (.nil ⟨rfl, rfl⟩)
       exact rfl
       apply DrawSeq.consF; exact rfl; intro E
       refine AOps.not rfl rfl (.nil ⟨rfl, rfl⟩)
       exact rfl
       apply DrawSeq.consF; exact rfl; intro E
       refine AOps.move rfl rfl (.nil ⟨rfl, rfl⟩)
       exact rfl
       apply DrawSeq.consF; exact rfl; intro E
       refine AOps.guardF rfl rfl rfl hb10 (.nil ⟨rfl, rfl⟩)
       exact rfl
       apply DrawSeq.consF; exact rfl; intro E
       refine AOps.guardF rfl rfl rfl hb10 (.nil ⟨rfl, rfl⟩)
       exact rfl
       apply DrawSeq.consF; exact rfl; intro E
       refine AOps.guardF rfl rfl rfl hb10 (.nil ⟨rfl, rfl⟩)
       exact rfl
       apply DrawSeq.consF; exact rfl; intro E
       refine AOps.guardSkip rfl rfl rfl (.nil ⟨rfl, rfl⟩)
       exact rfl
       apply DrawSeq.consF; exact rfl; intro E
       refine AOps.guardSkip rfl rfl rfl (.nil ⟨rfl, rfl⟩)
       exact rfl
       apply DrawSeq.consF; exact rfl; intro E
       refine AOps.guardSkip rfl rfl rfl (.nil ⟨rfl, rfl⟩)
       exact rfl
       apply DrawSeq.consF; exact rfl; intro E
       refine AOps.guardSkip rfl rfl rfl (.nil ⟨rfl, rfl⟩)
       exact rfl
       apply DrawSeq.consF; exact rfl; intro E
       refine AOps.guardSkip rfl rfl rfl (.nil ⟨rfl, rfl⟩)
       exact rfl
       apply DrawSeq.consF; exact rfl; intro E
       refine AOps.guardSkip rfl rfl rfl (.nil ⟨rfl, rfl⟩)
       exact rfl
       apply DrawSeq.consF; exact rfl; intro E
       refine AOps.guardSkip rfl rfl rfl (.nil ⟨rfl, rfl⟩)
       exact rfl
       apply DrawSeq.consF; exact rfl; intro E
       refine AOps.guardSkip rfl rfl rfl (.nil ⟨rfl, rfl⟩)
       exact rfl
       apply DrawSeq.consF; exact rfl; intro E
       refine AOps.guardSkip rfl rfl rfl (.nil ⟨rfl, rfl⟩)
       exact rfl
       apply DrawSeq.consF; exact rfl; intro E
       refine AOps.guardSkip rfl rfl rfl (.nil ⟨rfl, rfl⟩)
       exact rfl
       apply DrawSeq.consF; exact rfl; intro E
       refine AOps.guardF rfl rfl rfl hb10 (.nil ⟨rfl, rfl⟩)
       exact rfl
       apply DrawSeq.consF; exact rfl; intro E
       refine AOps.pickT rfl hb10 rfl rfl (.nil ⟨rfl, rfl⟩)
       exact rfl
       apply DrawSeq.consF; exact rfl; intro E
       refine AOps.assign rfl rfl (.nil ⟨rfl, rfl⟩)
       exact rfl
       refine DrawSeq.done ?_
       dsimp only [envEnd]
       have ej := Option.some.inj hx9
       subst ej
       refine thn_normal (Sub.env ⟨rfl, rfl, rfl, rfl, rfl, rfl, rfl, rfl, rfl, rfl, trivial⟩)
      ·replace hx9 := iteBF hb10 hx9
       rcases Bool.eq_false_or_eq_true (decide (0 < t5)) with hb11 | hb11
       ·replace hx9 := iteDT hb11 hx9
        obtain ⟨a40, ha40, hx9⟩ := bind_some hx9
        obtain ⟨a45, ha45, hx9⟩ := bind_some hx9
        refine AWP.drawI mixed rfl ?_
        apply DrawSeq.consF; exact rfl; intro E
        refine W.fieldAddr rfl rfl rfl rfl (.nil ⟨rfl, rfl⟩)
        exact rfl
        apply DrawSeq.consF; exact rfl; intro E
        refine AOps.load rfl rfl rfl rfl rfl rfl (.nil ⟨rfl, rfl⟩)
        exact rfl
        apply DrawSeq.consF; exact rfl; intro E
        refine W.fieldAddr rfl rfl rfl rfl (.nil ⟨rfl, rfl⟩)
        exact rfl
        apply DrawSeq.consF; exact rfl; intro E
        refine AOps.load rfl rfl rfl rfl rfl rfl (.nil ⟨rfl, rfl⟩)
        exact rfl
        apply DrawSeq.consF; exact rfl; intro E
        refine AOps.callR rfl rfl rfl rfl (strips_IsSet_ok ha31) rfl (.nil ⟨rfl, rfl⟩)
        exact rfl
        apply DrawSeq.consF; exact rfl; intro E
        refine AOps.not rfl rfl (.nil ⟨rfl, rfl⟩)
        exact rfl
        apply DrawSeq.consF; exact rfl; intro E
        refine AOps.move rfl rfl (.nil ⟨rfl, rfl⟩)
        exact rfl
        apply DrawSeq.consF; exact rfl; intro E
        refine AOps.guardT rfl rfl rfl hb10 (.move rfl rfl (.nil ⟨rfl, rfl⟩))
        exact rfl
        apply DrawSeq.consF; exact rfl; intro E
        refine AOps.guardT rfl rfl rfl hb10 (.gtr rfl rfl rfl (.nil ⟨rfl, rfl⟩))
        exact rfl
        apply DrawSeq.consF; exact rfl; intro E
        refine AOps.guardT rfl rfl rfl hb10 (.move rfl rfl (.nil ⟨rfl, rfl⟩))
        exact rfl
        apply DrawSeq.consF; exact rfl; intro E
        refine AOps.guardT rfl rfl rfl hb11 (.move rfl rfl (.nil ⟨rfl, rfl⟩))
        exact rfl
        apply DrawSeq.consF; exact rfl; intro E
        refine AOps.guardT rfl rfl rfl hb11 (.move rfl rfl (.nil ⟨rfl, rfl⟩))
        exact rfl
        apply DrawSeq.consF; exact rfl; intro E
        refine AOps.guardT rfl rfl rfl hb11 (.sub' rfl rfl rfl (by omega) (.nil ⟨rfl, rfl⟩))
        exact rfl
        apply DrawSeq.consF; exact rfl; intro E
        refine AOps.guardT rfl rfl rfl hb11 (S.idx ha40 rfl rfl rfl rfl (.nil ⟨rfl, rfl⟩))
        exact rfl
        apply DrawSeq.consF; exact rfl; intro E
        refine AOps.guardT rfl rfl rfl hb11 (W.fieldAddrI rfl rfl rfl rfl (.nil ⟨rfl, rfl⟩))
        exact rfl
        apply DrawSeq.consF; exact rfl; intro E
        refine AOps.guardT rfl rfl rfl hb11 (.loadI rfl rfl rfl rfl (.nil ⟨rfl, rfl⟩))
        exact rfl
        apply DrawSeq.consF; exact rfl; intro E
        refine AOps.guardT rfl rfl rfl hb11 (W.fieldAddr rfl rfl rfl rfl (.nil ⟨rfl, rfl⟩))
        exact rfl
        apply DrawSeq.consF; exact rfl; intro E
        refine AOps.guardT rfl rfl rfl hb11 (.load rfl rfl rfl rfl rfl rfl (.nil ⟨rfl, rfl⟩))
        exact rfl
        apply DrawSeq.consF; exact rfl; intro E
        refine AOps.guardT rfl rfl rfl hb11 (.callR rfl rfl rfl rfl (slices_Compare_int_int_ok ha45) rfl (.nil ⟨rfl, rfl⟩))
        exact rfl
        apply DrawSeq.consF; exact rfl; intro E
        refine AOps.guardT rfl rfl rfl hb11 (.geq rfl rfl rfl (.nil ⟨rfl, rfl⟩))
        exact rfl
        apply DrawSeq.consF; exact rfl; intro E
        refine AOps.guardT rfl rfl rfl hb10 (.pickT rfl hb11 rfl rfl (.nil ⟨rfl, rfl⟩))
        exact rfl
        apply DrawSeq.consF; exact rfl; intro E
        refine AOps.pickF rfl hb10 rfl rfl (.nil ⟨rfl, rfl⟩)
        exact rfl
        apply DrawSeq.consF; exact rfl; intro E
        refine AOps.assign rfl rfl (.nil ⟨rfl, rfl⟩)
        exact rfl
        refine DrawSeq.done ?_
        dsimp only [envEnd]
        have ej := Option.some.inj hx9
        subst ej
        refine thn_normal (Sub.env ⟨rfl, rfl, rfl, rfl, rfl, rfl, rfl, rfl, rfl, rfl, trivial⟩)
       ·replace hx9 := iteDF hb11 hx9
        refine AWP.drawI mixed rfl ?_
        apply DrawSeq.consF; exact rfl; intro E
        refine W.fieldAddr rfl rfl rfl rfl (.nil ⟨rfl, rfl⟩)
        exact rfl
        apply DrawSeq.consF; exact rfl; intro E
        refine AOps.load rfl rfl rfl rfl rfl rfl (.nil ⟨rfl, rfl⟩)
        exact rfl
        apply DrawSeq.consF; exact rfl; intro E
        refine W.fieldAddr rfl rfl rfl rfl (.nil ⟨rfl, rfl⟩)
        exact rfl
        apply DrawSeq.consF; exact rfl; intro E
        refine AOps.load rfl rfl rfl rfl rfl rfl (.nil ⟨rfl, rfl⟩)
        exact rfl
        apply DrawSeq.consF; exact rfl; intro E
        refine AOps.callR rfl rfl rfl rfl (strips_IsSet_ok ha31) rfl (.nil ⟨rfl, rfl⟩)
        exact rfl
        apply DrawSeq.consF; exact rfl; intro E
        refine AOps.not rfl rfl (.nil ⟨rfl, rfl⟩)
        exact rfl
        apply DrawSeq.consF; exact rfl; intro E
        refine AOps.move rfl rfl (.nil ⟨rfl, rfl⟩)
        exact rfl
        apply DrawSeq.consF; exact rfl; intro E
        refine AOps.guardT rfl rfl rfl hb10 (.move rfl rfl (.nil ⟨rfl, rfl⟩))
        exact rfl
        apply DrawSeq.consF; exact rfl; intro E
        refine AOps.guardT rfl rfl rfl hb10 (.gtr rfl rfl rfl (.nil ⟨rfl, rfl⟩))
        exact rfl
        apply DrawSeq.consF; exact rfl; intro E
        refine AOps.guardT rfl rfl rfl hb10 (.move rfl rfl (.nil ⟨rfl, rfl⟩))
        exact rfl
        apply DrawSeq.consF; exact rfl; intro E
        refine AOps.guardF rfl rfl rfl hb11 (.nil ⟨rfl, rfl⟩)
        exact rfl
        apply DrawSeq.consF; exact rfl; intro E
        refine AOps.guardF rfl rfl rfl hb11 (.nil ⟨rfl, rfl⟩)
        exact rfl
        apply DrawSeq.consF; exact rfl; intro E
        refine AOps.guardF rfl rfl rfl hb11 (.nil ⟨rfl, rfl⟩)
        exact rfl
        apply DrawSeq.consF; exact rfl; intro E
        refine AOps.guardF rfl rfl rfl hb11 (.nil ⟨rfl, rfl⟩)
        exact rfl
        apply DrawSeq.consF; exact rfl; intro E
        refine AOps.guardF rfl rfl rfl hb11 (.nil ⟨rfl, rfl⟩)
        exact rfl
        apply DrawSeq.consF; exact rfl; intro E
        refine AOps.guardF rfl rfl rfl hb11 (.nil ⟨rfl, rfl⟩)
        exact rfl
        apply DrawSeq.consF; exact rfl; intro E
        refine AOps.guardF rfl rfl rfl hb11 (.nil ⟨rfl, rfl⟩)
        exact rfl
        apply DrawSeq.consF; exact rfl; intro E
        refine AOps.guardF rfl rfl rfl hb11 (.nil ⟨rfl, rfl⟩)
        exact rfl
        apply DrawSeq.consF; exact rfl; intro E
        refine AOps.guardF rfl rfl rfl hb11 (.nil ⟨rfl, rfl⟩)
        exact rfl
        apply DrawSeq.consF; exact rfl; intro E
        refine AOps.guardF rfl rfl rfl hb11 (.nil ⟨rfl, rfl⟩)
        exact rfl
        apply DrawSeq.consF; exact rfl; intro E
        refine AOps.guardT rfl rfl rfl hb10 (.pickF rfl hb11 rfl rfl (.nil ⟨rfl, rfl⟩))
        exact rfl
        apply DrawSeq.consF; exact rfl; intro E
        refine AOps.pickF rfl hb10 rfl rfl (.nil ⟨rfl, rfl⟩)
        exact rfl
        apply DrawSeq.consF; exact rfl; intro E
        refine AOps.assign rfl rfl (.nil ⟨rfl, rfl⟩)
        exact rfl
        refine DrawSeq.done ?_
        dsimp only [envEnd]
        have ej := Option.some.inj hx9
        subst ej
        refine thn_normal (Sub.env ⟨rfl, rfl, rfl, rfl, rfl, rfl, rfl, rfl, rfl, rfl, trivial⟩)
     ·refine AWP.iteB rfl hx7 (fun hc12 hx7 => ?_) (fun hc12 hx7 => ?_)
      ·refine AWP.region (.assign rfl rfl (.nil (inB_normal ?_)))
       have ej := Option.some.inj hx7
       subst ej
       refine thn_normal (Sub.cut ⟨rfl, rfl, rfl, rfl, rfl, rfl, rfl, rfl, trivial⟩ rfl ⟨.one rfl, .one rfl, trivial⟩ rfl)
      ·refine AWP.seqJ (⟨[(1, .c (row 2 eTChoice policy)), (2, .c (.ptr 0 0 0)), (4, .c (.ptr 1 0 0)), (6, .c (int t5)), (7, .c (.ptr 2 0 0)), (8, .c (int 0)), (19, .c (row 2 eTChoice policy)), (20, .c (int (policy.length : Int))), (21, .c (int t5)), (49, .c (bool ((decide (a24.operator < 0)) || (decide ((ov.operators.length : Int) ≤ a24.operator)))))], [.one (.cells 4 [[int ov.facts, row 1 intI ov.init, row 1 intI ov.goal, row 3 eTOpenOperator ov.operators]]), .one (.cells 2 [[int 0, int 0]]), .one (.cells 2 [[row 1 intI a24.state, int a24.operator]])]⟩) ?_ ?_
       ·rcases Bool.eq_false_or_eq_true (decide (a24.operator < 0)) with hb1 | hb1
        ·refine AWP.region (W.fieldAddr rfl rfl rfl rfl (.load rfl rfl rfl rfl rfl rfl (.lss rfl rfl rfl (.move rfl rfl (.guardF rfl rfl rfl hb1 (.guardF rfl rfl rfl hb1 (.guardF rfl rfl rfl hb1 (.guardF rfl rfl rfl hb1 (.guardF rfl rfl rfl hb1 (.guardF rfl rfl rfl hb1 (.pickT rfl hb1 rfl rfl (.assign rfl rfl (.nil (thn_normal ?_))))))))))))))
         simp only [and_t hb1, or_t hb1, Bool.false_or, Bool.true_or, Bool.false_and, Bool.true_and]
         exact Sub.env ⟨rfl, rfl, rfl, rfl, rfl, rfl, rfl, rfl, rfl, rfl, trivial⟩
        ·refine AWP.region (W.fieldAddr rfl rfl rfl rfl (.load rfl rfl rfl rfl rfl rfl (.lss rfl rfl rfl (.move rfl rfl (.guardT rfl rfl rfl hb1 (W.fieldAddr rfl rfl rfl rfl (.guardT rfl rfl rfl hb1 (.load rfl rfl rfl rfl rfl rfl (.guardT rfl rfl rfl hb1 (W.fieldAddr rfl rfl rfl rfl (.guardT rfl rfl rfl hb1 (.load rfl rfl rfl rfl rfl rfl ?_))))))))))))
         refine AOps.guardT rfl rfl rfl hb1 ?_; refine S.len rfl rfl (fun hl58 => ?_)
         refine AOps.guardT rfl rfl rfl hb1 (.geq rfl rfl rfl (.pickF rfl hb1 rfl rfl (.assign rfl rfl (.nil (thn_normal ?_)))))
         simp only [and_f hb1, or_f hb1, Bool.false_or, Bool.true_or, Bool.false_and, Bool.true_and]
         exact Sub.env ⟨rfl, rfl, rfl, rfl, rfl, rfl, rfl, rfl, rfl, rfl, trivial⟩
       ·refine AWP.iteB rfl hx7 (fun hc13 hx7 => ?_) (fun hc13 hx7 => ?_)
        ·refine AWP.region (.assign rfl rfl (.nil (inB_normal ?_)))
         have ej := Option.some.inj hx7
         subst ej
         refine thn_normal (Sub.cut ⟨rfl, rfl, rfl, rfl, rfl, rfl, rfl, rfl, trivial⟩ rfl ⟨.one rfl, .one rfl, trivial⟩ rfl)
        ·refine AWP.seq ?_
         obtain ⟨a67, ha67, hx7⟩ := bind_some hx7
         refine AWP.region (W.loadAgg rfl rfl rfl rfl rfl rfl rfl (W.fieldAddr rfl rfl rfl rfl (.load rfl rfl rfl rfl rfl rfl (W.fieldAddr rfl rfl rfl rfl (.load rfl rfl rfl rfl rfl rfl (.callR rfl rfl rfl rfl (open_Can_ok ha67) rfl (.not rfl rfl (.assign rfl rfl (.nil (thn_normal (.iteB rfl hx7 (fun hc14 hx7 => ?_) (fun hc14 hx7 => ?_))))))))))))
         ·refine AWP.region (.assign rfl rfl (.nil (inB_normal ?_)))
          have ej := Option.some.inj hx7
          subst ej
          refine thn_normal (Sub.cut ⟨rfl, rfl, rfl, rfl, rfl, rfl, rfl, rfl, trivial⟩ rfl ⟨.one rfl, .one rfl, trivial⟩ rfl)
         ·refine AWP.skip (inB_normal ?_)
          have ej := Option.some.inj hx7
          subst ej
          refine thn_normal (Sub.cut ⟨rfl, rfl, rfl, rfl, rfl, rfl, rfl, rfl, trivial⟩ rfl ⟨.one rfl, .one rfl, trivial⟩ rfl)
    ·refine AWP.seq (.region (.move rfl rfl (.neq rfl rfl rfl (.nil (thn_normal (.iteN rfl h (fun hc15 h => ?_) (fun hc15 h => ?_)))))))
     ·refine AWP.seq (.region (.move rfl rfl (.move rfl rfl (S.sub rfl rfl rfl (W.build rfl rfl rfl rfl (W.storeAgg rfl rfl rfl rfl rfl rfl rfl (.nil (thn_normal (.ret (inB_ret (thn_ret ?_)))))))))))
      have ej := Option.some.inj h
      subst ej
      refine thn_ret ⟨_, rfl, rfl, ?_⟩
      exact Done.ret rfl rfl
     ·refine AWP.skip (inB_normal (thn_normal (.region (.add rfl rfl rfl (by omega) (.move rfl rfl (.nil ?_))))))
      have ej := Option.some.inj h
      subst ej
      refine thn_normal ⟨_, rfl, ?_⟩
      exact Sub.env ⟨rfl, rfl, rfl, rfl, rfl, rfl, trivial⟩
   ·intro e s hq
    rcases oo with u | x
    ·try dsimp only at h hq
     obtain ⟨rfl, hs⟩ := hq
     refine ⟨_, hs, ?_⟩
     refine inB_exit (thn_normal (.seq (.region (W.build rfl rfl rfl rfl (W.storeAgg rfl rfl rfl rfl rfl rfl rfl (.nil (thn_normal (.ret ?_))))))))
     have ej := Option.some.inj h
     subst ej
     exact Done.ret rfl rfl
    ·try dsimp only at h hq
     obtain ⟨rfl, hs⟩ := hq
     refine ⟨_, Sub.refl _ _, ?_⟩
     refine inB_ret (thn_ret ?_)
     have ej := Option.some.inj h
     subst ej
     exact hs
theorem open_Visited_1_ok {xv : List Int} {c2 : List Int} {r : Bool} (h : open_Visited_1 xv c2 = some r) : PureOk Tryz.prog 81 [.c (row 1 intI xv), .c (.imm (.ipt [.sl 1 (List.map intI c2)]))] (.c (bool r)) := by
 unfold PureOk
 refine FnOk.enter (rs := [.t 3]) Tryz.func81 rfl Tryz.ntmps81 Tryz.results81 rfl ⟨trivial, trivial⟩ (by kernel_rfl) rfl ?_
 unfold open_Visited_1 at h
 refine AWP.seq (.region (.assign rfl rfl (.nil (thn_normal (.seq ?_)))))
 obtain ⟨a6, ha6, h⟩ := bind_some h
 refine AWP.region (.move rfl rfl (.loadI rfl rfl rfl rfl (.callR rfl rfl rfl rfl (slices_Equal_int_int_ok ha6) rfl (.assign rfl rfl (.nil (thn_normal (.ret ?_)))))))
 have ej := Option.some.inj h
 subst ej
 exact Done.ret rfl rfl
theorem slices_IndexFunc_LLint_ok {sv : List (List Int)} {fv : (List Int) → Option Bool} {r : Int} {fvfv : FuncId} {cvfv : List C} (hcvfv : C.okL 0 cvfv = true) (hfv : ∀ {y1 : List Int} {z : Bool}, fv y1 = some z → PureOk Tryz.prog fvfv ([.c (row 1 intI y1)] ++ cvfv.map T.c) (.c (bool z))) (h : slices_IndexFunc_LLint sv fv = some r) : PureOk Tryz.prog 98 [.c (row 1 eLi64 sv), .c (.fn fvfv cvfv)] (.c (int r)) := by
 unfold PureOk
 refine FnOk.enter (rs := [.t 4]) Tryz.func98 rfl Tryz.ntmps98 Tryz.results98 rfl ⟨trivial, trivial⟩ (by kernel_rfl) rfl ?_
 unfold slices_IndexFunc_LLint at h
 refine AWP.seq (.region (.assign rfl rfl (.nil (thn_normal (.seq (.seq (.region (.move rfl rfl (S.len rfl rfl (fun hl7 => .move rfl rfl (.nil (thn_normal (.block ?_)))))))))))))
 obtain ⟨oo, ho1, h⟩ := bind_some h
 refine AWP.rngS ho1 (fun t3 _ => ⟨[(0, .c (row 1 eLi64 sv)), (1, .c (.fn fvfv cvfv)), (7, .c (int (sv.length : Int))), (8, .c (int t3))], []⟩) (fun o e st => match o with | .inl _ => e = .exit 0 ∧ Sub [] st ⟨[], []⟩ | .inr x => e = .ret ∧ Done [.t 4] (fun t _ => t = .c (int x)) .ret st) ?_ ?_ ?_ ?_
 ·try dsimp only
  exact Sub.env ⟨rfl, rfl, rfl, rfl, trivial⟩
 ·intro t3 s hlot3 hltt3 _
  try dsimp only
  refine AWP.seq (.region (.lss rfl rfl rfl (.nil (thn_normal (.seq (.condNP rfl hltt3 (.exit (thn_exit (thn_exit ⟨rfl, ?_⟩)))))))))
  exact Sub.env trivial
 ·intro t3 s o hlot3 hltt3 h
  unfold slices_IndexFunc_LLint_l1 at h
  try dsimp only at h ⊢
  refine AWP.seq (.region (.lss rfl rfl rfl (.nil (thn_normal (.seq (.condP rfl hltt3 (.skip (thn_normal (.seq (.block (.seq (.region (.move rfl rfl (.assign rfl rfl (.nil (thn_normal (.seq ?_)))))))))))))))))
  obtain ⟨a14, ha14, h⟩ := bind_some h
  obtain ⟨a16, ha16, h⟩ := bind_some h
  refine AWP.region (.move rfl rfl (.move rfl rfl (.move rfl rfl (S.idx ha14 rfl rfl rfl rfl (.loadI rfl rfl rfl rfl (.callR rfl rfl (okL_app rfl hcvfv) rfl (hfv ha16) rfl (.nil (thn_normal (.iteB rfl h (fun hc4 h => ?_) (fun hc4 h => ?_))))))))))
  ·refine AWP.seq (.region (.move rfl rfl (.assign rfl rfl (.nil (thn_normal (.ret (inB_ret (thn_ret ?_))))))))
   have ej := Option.some.inj h
   subst ej
   refine thn_ret ⟨_, rfl, rfl, ?_⟩
   exact Done.ret rfl rfl
  ·refine AWP.skip (inB_normal (thn_normal (.region (.add rfl rfl rfl (by omega) (.move rfl rfl (.nil ?_))))))
   have ej := Option.some.inj h
   subst ej
   refine thn_normal ⟨_, rfl, ?_⟩
   exact Sub.env ⟨rfl, rfl, rfl, rfl, trivial⟩
 ·intro e s hq
  rcases oo with u | x
  ·try dsimp only at h hq
   obtain ⟨rfl, hs⟩ := hq
   refine ⟨_, hs, ?_⟩
   refine inB_exit (thn_normal (.seq (.region (.assign rfl rfl (.nil (thn_normal (.ret ?_)))))))
   have ej := Option.some.inj h
   subst ej
   exact Done.ret rfl rfl
  ·try dsimp only at h hq
   obtain ⟨rfl, hs⟩ := hq
   refine ⟨_, Sub.refl _ _, ?_⟩
   refine inB_ret (thn_ret ?_)
   have ej := Option.some.inj h
   subst ej
   exact hs
theorem slices_ContainsFunc_LLint_ok {sv : List (List Int)} {fv : (List Int) → Option Bool} {r : Bool} {fvfv : FuncId} {cvfv : List C} (hcvfv : C.okL 0 cvfv = true) (hfv : ∀ {y1 : List Int} {z : Bool}, fv y1 = some z → PureOk Tryz.prog fvfv ([.c (row 1 intI y1)] ++ cvfv.map T.c) (.c (bool z))) (h : slices_ContainsFunc_LLint sv fv = some r) : PureOk Tryz.prog 80 [.c (row 1 eLi64 sv), .c (.fn fvfv cvfv)] (.c (bool r)) := by
 unfold PureOk
 refine FnOk.enter (rs := [.t 4]) Tryz.func80 rfl Tryz.ntmps80 Tryz.results80 rfl ⟨trivial, trivial⟩ (by kernel_rfl) rfl ?_
 unfold slices_ContainsFunc_LLint at h
 refine AWP.seq (.region (.assign rfl rfl (.nil (thn_normal (.seq ?_)))))
 obtain ⟨a7, ha7, h⟩ := bind_some h
 refine AWP.region (.move rfl rfl (.move rfl rfl (.callR rfl rfl (by simp [T.okL, T.ok, C.ok, C.okL, hcvfv]) rfl (slices_IndexFunc_LLint_ok hcvfv hfv ha7) rfl (.geq rfl rfl rfl (.assign rfl rfl (.nil (thn_normal (.ret ?_))))))))
 have ej := Option.some.inj h
 subst ej
 exact Done.ret rfl rfl
end Ab
end
section
namespace Ab
open Go Go.Proofs
set_option maxHeartbeats 4000000
set_option linter.all false
attribute [local irreducible] AWP AOps thn inB Done PureOk FreshOk Sub
theorem open_Visited_ok {ov : TOpenTask} {policy : List TChoice} {r : (List (List Int))} (h : open_Visited ov policy = some r) : FreshOk Tryz.prog 53 [.agg [int ov.facts, row 1 intI ov.init, row 1 intI ov.goal, row 3 eTOpenOperator ov.operators], .c (row 2 eTChoice policy)] 1 (List.map eLi64 r) := by
 unfold FreshOk
 refine FnOk.enter (rs := [.t 4]) Tryz.func53 rfl Tryz.ntmps53 Tryz.results53 rfl ⟨trivial, trivial⟩ (by kernel_rfl) rfl ?_
 unfold open_Visited at h
 refine AWP.seq (.region (W.box rfl rfl rfl rfl rfl rfl (.assign rfl rfl (.nil (thn_normal (.seq ?_))))))
 obtain ⟨a14, ha14, h⟩ := bind_some h
 refine AWP.region (W.fieldAddr rfl rfl rfl rfl (.load rfl rfl rfl rfl rfl rfl (S.fresh rfl rfl rfl rfl (slices_Clone_int_int_ok ha14) rfl rfl (.frzV (id := 1) (l := a14) (env2 := [(1, .c (row 2 eTChoice policy)), (2, .c (.ptr 0 0 0)), (14, .c (row 1 intI a14))]) (σ2 := [.one (.cells 4 [[int ov.facts, row 1 intI ov.init, row 1 intI ov.goal, row 3 eTOpenOperator ov.operators]]), .dead]) rfl rfl (by exact ⟨⟨_, rfl, .inl ⟨rfl, rfl⟩⟩, ⟨_, rfl, .inl ⟨rfl, rfl⟩⟩, ⟨_, rfl, .inr ⟨_, rfl, rfl, rfl⟩⟩, trivial⟩) rfl (by exact ⟨⟨rfl, .inl ⟨rfl, rfl⟩, .inl ⟨rfl, rfl⟩, .inl ⟨rfl, rfl⟩, .inl ⟨rfl, rfl⟩, trivial⟩, trivial, trivial⟩) (S.lit (f := eLi64) (l := [a14]) (ess := [[row 1 intI a14]]) rfl rfl rfl rfl rfl rfl rfl ⟨⟨.inl rfl, trivial⟩, trivial⟩ rfl rfl rfl (.assign rfl rfl (.nil (thn_normal (.seq (.seq (.region (.assign rfl rfl (.nil (thn_normal (.block ?_)))))))))))))))
 obtain ⟨c5, ho1, h⟩ := bind_some h
 refine AWP.loopS ho1 (fun (c3, atv4) => ⟨[(1, .c (row 2 eTChoice policy)), (2, .c (.ptr 0 0 0)), (5, .c (.own 2 0 c3.length)), (6, .c (int atv4))], [.one (.cells 4 [[int ov.facts, row 1 intI ov.init, row 1 intI ov.goal, row 3 eTOpenOperator ov.operators]]), .dead, .one (vec 1 eLi64 c3)]⟩) (fun c5 e st => e = .exit 0 ∧ Sub [] st ⟨[(5, .c (.own 2 0 c5.length))], [.dead, .dead, .one (vec 1 eLi64 c5)]⟩) ?_ ?_ ?_
 ·try dsimp only
  exact Sub.env ⟨rfl, rfl, rfl, rfl, trivial⟩
 ·intro s o h
  obtain ⟨c3, atv4⟩ := s
  unfold open_Visited_l1 at h
  try dsimp only at h ⊢
  refine AWP.seq (.seq (.region (.move rfl rfl (.move rfl rfl (S.lenO rfl rfl rfl (fun hl18 => .lss rfl rfl rfl (.nil (thn_normal (.ite rfl h (fun hc6 h => ?_) (fun hc6 h => ?_))))))))))
  ·refine AWP.skip (thn_normal ?_)
   obtain ⟨c7, hx8, h⟩ := bind_some h
   refine AWP.seqJ (⟨[(1, .c (row 2 eTChoice policy)), (2, .c (.ptr 0 0 0)), (5, .c (.own 2 0 c7.length)), (6, .c (int atv4))], [.one (.cells 4 [[int ov.facts, row 1 intI ov.init, row 1 intI ov.goal, row 3 eTOpenOperator ov.operators]]), .dead, .one (vec 1 eLi64 c7)]⟩) ?_ ?_
   ·refine AWP.block (.seq ?_)
    obtain ⟨a25, ha25, hx8⟩ := bind_some hx8
    obtain ⟨a27, ha27, hx8⟩ := bind_some hx8
    refine AWP.region (.move rfl rfl (.move rfl rfl (.move rfl rfl (S.idxO ha25 rfl rfl rfl rfl rfl (S.loadO ha25 rfl rfl rfl rfl rfl (.callR rfl rfl rfl rfl (open_Chosen_ok ha27) rfl (.assign rfl rfl (.nil (thn_normal (.seq ?_))))))))))
    obtain ⟨t9, hx10, hx8⟩ := bind_some hx8
    refine AWP.seqJ (⟨[(1, .c (row 2 eTChoice policy)), (2, .c (.ptr 0 0 0)), (5, .c (.own 2 0 c3.length)), (6, .c (int atv4)), (7, .c (int a27)), (38, .c (bool t9))], [.one (.cells 4 [[int ov.facts, row 1 intI ov.init, row 1 intI ov.goal, row 3 eTOpenOperator ov.operators]]), .dead, .one (vec 1 eLi64 c3)]⟩) ?_ ?_
    ·rcases Bool.eq_false_or_eq_true (decide (a27 < 0)) with hb11 | hb11
     ·replace hx10 := iteDT hb11 hx10
      refine AWP.drawI mixed rfl ?_
      apply DrawSeq.consF; exact rfl; intro E
      refine AOps.move rfl rfl (.nil ⟨rfl, rfl⟩)
      exact rfl
      apply DrawSeq.consF; exact rfl; intro E
      refine AOps.lss rfl rfl rfl (.nil ⟨rfl, rfl⟩)
      exact rfl
      apply DrawSeq.consF; exact rfl; intro E
      refine AOps.move rfl rfl (.nil ⟨rfl, rfl⟩)
      exact rfl
      apply DrawSeq.consF; exact rfl; intro E
      refine AOps.guardF rfl rfl rfl hb11 (.nil ⟨rfl, rfl⟩)
      exact rfl
      apply DrawSeq.consF; exact rfl; intro E
      refine AOps.guardF rfl rfl rfl hb11 (.nil ⟨rfl, rfl⟩)
      exact rfl
      apply DrawSeq.consF; exact rfl; intro E
      refine AOps.guardF rfl rfl rfl hb11 (.nil ⟨rfl, rfl⟩)
      exact rfl
      apply DrawSeq.consF; exact rfl; intro E
      refine AOps.guardF rfl rfl rfl hb11 (.nil ⟨rfl, rfl⟩)
      exact rfl
      apply DrawSeq.consF; exact rfl; intro E
      refine AOps.guardF rfl rfl rfl hb11 (.nil ⟨rfl, rfl⟩)
      exact rfl
      apply DrawSeq.consF; exact rfl; intro E
      refine AOps.guardF rfl rfl rfl hb11 (.nil ⟨rfl, rfl⟩)
      exact rfl
      apply DrawSeq.consF; exact rfl; intro E
      refine AOps.guardF rfl rfl rfl hb11 (.nil ⟨rfl, rfl⟩)
      exact rfl
      apply DrawSeq.consF; exact rfl; intro E
      refine AOps.pickT rfl hb11 rfl rfl (.nil ⟨rfl, rfl⟩)
      exact rfl
      refine DrawSeq.done ?_
      dsimp only [envEnd]
      have ej := Option.some.inj hx10
      subst ej
      refine thn_normal (Sub.env ⟨rfl, rfl, rfl, rfl, rfl, rfl, trivial⟩)
     ·replace hx10 := iteDF hb11 hx10
      obtain ⟨a33, ha33, hx10⟩ := bind_some hx10
      obtain ⟨a37, ha37, hx10⟩ := bind_some hx10
      refine AWP.drawI mixed rfl ?_
      apply DrawSeq.consF; exact rfl; intro E
      refine AOps.move rfl rfl (.nil ⟨rfl, rfl⟩)
      exact rfl
      apply DrawSeq.consF; exact rfl; intro E
      refine AOps.lss rfl rfl rfl (.nil ⟨rfl, rfl⟩)
      exact rfl
      apply DrawSeq.consF; exact rfl; intro E
      refine AOps.move rfl rfl (.nil ⟨rfl, rfl⟩)
      exact rfl
      apply DrawSeq.consF; exact rfl; intro E
      refine AOps.guardT rfl rfl rfl hb11 (.move rfl rfl (.nil ⟨rfl, rfl⟩))
      exact rfl
      apply DrawSeq.consF; exact rfl; intro E
      refine AOps.guardT rfl rfl rfl hb11 (.move rfl rfl (.nil ⟨rfl, rfl⟩))
      exact rfl
      apply DrawSeq.consF; exact rfl; intro E
      refine AOps.guardT rfl rfl rfl hb11 (S.idxO ha33 rfl rfl rfl rfl rfl (.nil ⟨rfl, rfl⟩))
      exact rfl
      apply DrawSeq.consF; exact rfl; intro E
      refine AOps.guardT rfl rfl rfl hb11 (S.loadO ha33 rfl rfl rfl rfl rfl (.nil ⟨rfl, rfl⟩))
      exact rfl
      apply DrawSeq.consF; exact rfl; intro E
      refine AOps.guardT rfl rfl rfl hb11 (W.fieldAddr rfl rfl rfl rfl (.nil ⟨rfl, rfl⟩))
      exact rfl
      apply DrawSeq.consF; exact rfl; intro E
      refine AOps.guardT rfl rfl rfl hb11 (.load rfl rfl rfl rfl rfl rfl (.nil ⟨rfl, rfl⟩))
      exact rfl
      apply DrawSeq.consF; exact rfl; intro E
      refine AOps.guardT rfl rfl rfl hb11 (.callR rfl rfl rfl rfl (strips_Contains_ok ha37) rfl (.nil ⟨rfl, rfl⟩))
      exact rfl
      apply DrawSeq.consF; exact rfl; intro E
      refine AOps.pickF rfl hb11 rfl rfl (.nil ⟨rfl, rfl⟩)
      exact rfl
      refine DrawSeq.done ?_
      dsimp only [envEnd]
      have ej := Option.some.inj hx10
      subst ej
      refine thn_normal (Sub.env ⟨rfl, rfl, rfl, rfl, rfl, rfl, trivial⟩)
    ·refine AWP.iteB rfl hx8 (fun hc12 hx8 => ?_) (fun hc12 hx8 => ?_)
     ·refine AWP.exit (thn_exit (inB_exit ?_))
      have ej := Option.some.inj hx8
      subst ej
      refine thn_normal (Sub.env ⟨rfl, rfl, rfl, rfl, trivial⟩)
     ·refine AWP.skip (thn_normal (.seq ?_))
      obtain ⟨a43, ha43, hx8⟩ := bind_some hx8
      obtain ⟨a46, ha46, hx8⟩ := bind_some hx8
      refine AWP.drawI mixed rfl ?_
      apply DrawSeq.consF; exact rfl; intro E
      refine W.loadAgg rfl rfl rfl rfl rfl rfl rfl (.nil ⟨rfl, rfl⟩)
      exact rfl
      apply DrawSeq.consF; exact rfl; intro E
      refine AOps.move rfl rfl (.nil ⟨rfl, rfl⟩)
      exact rfl
      apply DrawSeq.consF; exact rfl; intro E
      refine AOps.move rfl rfl (.nil ⟨rfl, rfl⟩)
      exact rfl
      apply DrawSeq.consF; exact rfl; intro E
      refine S.idxO ha43 rfl rfl rfl rfl rfl (.nil ⟨rfl, rfl⟩)
      exact rfl
      apply DrawSeq.consF; exact rfl; intro E
      refine S.loadO ha43 rfl rfl rfl rfl rfl (.nil ⟨rfl, rfl⟩)
      exact rfl
      apply DrawSeq.consF; exact rfl; intro E
      refine AOps.move rfl rfl (.nil ⟨rfl, rfl⟩)
      exact rfl
      apply DrawSeq.consF; exact rfl; intro E
      refine AOps.callR rfl rfl rfl rfl (open_Results_ok ha46) rfl (.nil ⟨rfl, rfl⟩)
      exact rfl
      apply DrawSeq.consF; exact rfl; intro E
      refine AOps.move rfl rfl (.nil ⟨rfl, rfl⟩)
      exact rfl
      apply DrawSeq.consF; exact rfl; intro E
      refine AOps.extract rfl rfl rfl (.nil ⟨rfl, rfl⟩)
      exact rfl
      apply DrawSeq.consF; exact rfl; intro E
      refine AOps.extract rfl rfl rfl (.nil ⟨rfl, rfl⟩)
      exact rfl
      apply DrawSeq.consF; exact rfl; intro E
      refine AOps.assign rfl rfl (.nil ⟨rfl, rfl⟩)
      exact rfl
      apply DrawSeq.consF; exact rfl; intro E
      refine AOps.assign rfl rfl (.nil ⟨rfl, rfl⟩)
      exact rfl
      refine DrawSeq.done ?_
      dsimp only [envEnd]
      refine thn_normal (.seq (.region (.move rfl rfl (S.len rfl rfl (fun hl50 => .move rfl rfl (.nil (thn_normal (.block ?_))))))))
      obtain ⟨c13, ho2, hx8⟩ := bind_some hx8
      refine AWP.forS ho2 (fun t14 c13 => ⟨[(1, .c (row 2 eTChoice policy)), (2, .c (.ptr 0 0 0)), (5, .c (.own 2 0 c13.length)), (6, .c (int atv4)), (49, .c (row 1 eLi64 a46.1)), (50, .c (int (a46.1.length : Int))), (51, .c (int t14))], [.one (.cells 4 [[int ov.facts, row 1 intI ov.init, row 1 intI ov.goal, row 3 eTOpenOperator ov.operators]]), .dead, .one (vec 1 eLi64 c13)]⟩) (fun c13 e st => e = .exit 2 ∧ Sub [] st ⟨[(1, .c (row 2 eTChoice policy)), (2, .c (.ptr 0 0 0)), (5, .c (.own 2 0 c13.length)), (6, .c (int atv4))], [.one (.cells 4 [[int ov.facts, row 1 intI ov.init, row 1 intI ov.goal, row 3 eTOpenOperator ov.operators]]), .dead, .one (vec 1 eLi64 c13)]⟩) ?_ ?_ ?_ ?_
      ·try dsimp only
       exact Sub.env ⟨rfl, rfl, rfl, rfl, rfl, rfl, rfl, trivial⟩
      ·intro t14 c13 hlot14 hltt14 _
       try dsimp only
       refine AWP.seq (.region (.lss rfl rfl rfl (.nil (thn_normal (.seq (.condNP rfl hltt14 (.exit (thn_exit (thn_exit ⟨rfl, ?_⟩)))))))))
       exact Sub.env ⟨rfl, rfl, rfl, rfl, trivial⟩
      ·intro t14 c13 o hlot14 hltt14 h
       unfold open_Visited_l2 at h
       try dsimp only at h ⊢
       refine AWP.seq (.region (.lss rfl rfl rfl (.nil (thn_normal (.seq (.condP rfl hltt14 (.skip (thn_normal ?_))))))))
       obtain ⟨c15, hx16, h⟩ := bind_some h
       refine AWP.seqJ (⟨[(1, .c (row 2 eTChoice policy)), (2, .c (.ptr 0 0 0)), (5, .c (.own 5 0 c15.length)), (6, .c (int atv4)), (49, .c (row 1 eLi64 a46.1)), (50, .c (int (a46.1.length : Int))), (51, .c (int t14))], [.one (.cells 4 [[int ov.facts, row 1 intI ov.init, row 1 intI ov.goal, row 3 eTOpenOperator ov.operators]]), .dead, .dead, .dead, .dead, .one (vec 1 eLi64 c15)]⟩) ?_ ?_
       ·refine AWP.block (.seq ?_)
        obtain ⟨a53, ha53, hx16⟩ := bind_some hx16
        refine AWP.region (S.idx ha53 rfl rfl rfl rfl (.loadI rfl rfl rfl rfl (W.alloc rfl rfl rfl rfl (W.store rfl rfl rfl rfl rfl (.nil (thn_normal (.seq ?_)))))))
        obtain ⟨a57, ha57, hx16⟩ := bind_some hx16
        refine AWP.region (.move rfl rfl (.makeFunc rfl rfl (.callL rfl rfl (.cons (.c (.own rfl rfl)) (.cons (.c (.fn (.cons (.ptr (es := [.sl 1 (List.map intI a53)]) rfl rfl (.cons .imm .nil)) .nil))) .nil)) rfl (slices_ContainsFunc_LLint_ok rfl (fun hy => open_Visited_1_ok hy) ha57) rfl ?_)))
        refine AOps.not rfl rfl (.nil (thn_normal (.iteB rfl hx16 (fun hc17 hx16 => ?_) (fun hc17 hx16 => ?_))))
        ·obtain ⟨a62, ha62, hx16⟩ := bind_some hx16
         refine AWP.region (.move rfl rfl (.load rfl rfl rfl rfl rfl rfl (S.lit (f := eLi64) (l := [a53]) (ess := [[row 1 intI a53]]) rfl rfl rfl rfl rfl rfl rfl ⟨⟨.inl rfl, trivial⟩, trivial⟩ rfl rfl rfl (S.append (f := eLi64) ha62 rfl rfl rfl rfl rfl rfl (.own rfl rfl) rfl rfl rfl rfl (.assign rfl rfl (.nil (inB_normal ?_)))))))
         have ej := Option.some.inj hx16
         subst ej
         refine thn_normal (Sub.cut ⟨rfl, rfl, rfl, rfl, rfl, rfl, rfl, trivial⟩ rfl ⟨.one rfl, .dead, .dead, .dead, .dead, .vec, trivial⟩ rfl)
        ·refine AWP.skip (inB_normal ?_)
         have ej := Option.some.inj hx16
         subst ej
         refine thn_normal ((Sub.move (env' := [(1, .c (row 2 eTChoice policy)), (2, .c (.ptr 0 0 0)), (5, .c (.own 5 0 c13.length)), (6, .c (int atv4)), (49, .c (row 1 eLi64 a46.1)), (50, .c (int (a46.1.length : Int))), (51, .c (int t14))]) (σ' := [.one (.cells 4 [[int ov.facts, row 1 intI ov.init, row 1 intI ov.goal, row 3 eTOpenOperator ov.operators]]), .dead, .dead, .one (.cells 1 [[row 1 intI a53]]), .dead, .one (vec 1 eLi64 c13)]) 5 2 rfl rfl rfl ⟨rfl, rfl, rfl, rfl, rfl, rfl, rfl, trivial⟩ rfl ⟨⟨rfl, rfl⟩, trivial, trivial, ⟨rfl, rfl⟩, trivial, ⟨Blk.im_ok _ _ _, vec_mv rfl⟩, trivial⟩).trans (Sub.cut ⟨rfl, rfl, rfl, rfl, rfl, rfl, rfl, trivial⟩ rfl ⟨.one rfl, .dead, .dead, .dead, .dead, .vec, trivial⟩ rfl))
       ·refine AWP.region (.add rfl rfl rfl (by omega) (.move rfl rfl (.nil ?_)))
        have ej := Option.some.inj h
        subst ej
        refine thn_normal ((Sub.move (env' := [(1, .c (row 2 eTChoice policy)), (2, .c (.ptr 0 0 0)), (5, .c (.own 2 0 c15.length)), (6, .c (int atv4)), (49, .c (row 1 eLi64 a46.1)), (50, .c (int (a46.1.length : Int))), (51, .c (int (t14 + 1)))]) (σ' := [.one (.cells 4 [[int ov.facts, row 1 intI ov.init, row 1 intI ov.goal, row 3 eTOpenOperator ov.operators]]), .dead, .one (vec 1 eLi64 c15), .dead, .dead]) 2 5 rfl rfl rfl ⟨rfl, rfl, rfl, rfl, rfl, rfl, rfl, trivial⟩ rfl ⟨⟨rfl, rfl⟩, trivial, ⟨Blk.im_ok _ _ _, vec_mv rfl⟩, trivial, trivial, trivial⟩).trans (Sub.cut ⟨rfl, rfl, rfl, rfl, rfl, rfl, rfl, trivial⟩ rfl ⟨.one rfl, .dead, .vec, trivial⟩ rfl))
      ·intro e s hq
       obtain ⟨rfl, hs⟩ := hq
       refine ⟨_, hs, ?_⟩
       refine inB_exit (inB_normal ?_)
       have ej := Option.some.inj hx8
       subst ej
       refine thn_normal (Sub.env ⟨rfl, rfl, rfl, rfl, trivial⟩)
   ·refine AWP.region (.move rfl rfl (S.add rfl rfl rfl (.assign rfl rfl (.nil ?_))))
    have ej := Option.some.inj h
    subst ej
    refine thn_normal ⟨_, rfl, ?_⟩
    exact Sub.env ⟨rfl, rfl, rfl, rfl, trivial⟩
  ·refine AWP.exit (thn_exit ?_)
   have ej := Option.some.inj h
   subst ej
   refine thn_exit ⟨_, rfl, rfl, ?_⟩
   exact Sub.cut ⟨rfl, trivial⟩ rfl ⟨.dead, .dead, .vec, trivial⟩ rfl
 ·intro e s hq
  obtain ⟨rfl, hs⟩ := hq
  refine ⟨_, hs, ?_⟩
  refine inB_exit (thn_normal (.seq ?_))
  obtain ⟨a65, ha65, h⟩ := bind_some h
  refine AWP.region (.move rfl rfl (.callF (r2 := .c (.own 4 0 a65.length)) (σ'' := [.dead, .dead, .dead, .dead, .one (vec 1 eLi64 a65)]) rfl rfl rfl (FnOk.lend [2] (belief_Normal_w_ok ha65) rfl rfl rfl rfl rfl rfl (by exact ⟨.vec, trivial⟩) rfl (by exact ⟨(.live rfl .vec), trivial⟩) rfl rfl (by exact ⟨.dead, .dead, .dead, .dead, (.new 2 rfl rfl .vec), trivial⟩)) (.assign rfl rfl (.nil (thn_normal (.ret ?_))))))
  have ej := Option.some.inj h
  subst ej
  exact Done.ret rfl (Fresh.mk rfl rfl)
theorem slices_Index_int_int_ok {sv : List Int} {v : Int} {r : Int} (h : slices_Index_int_int sv v = some r) : PureOk Tryz.prog 85 [.c (row 1 intI sv), .c (int v)] (.c (int r)) := by
 unfold PureOk
 refine FnOk.enter (rs := [.t 4]) Tryz.func85 rfl Tryz.ntmps85 Tryz.results85 rfl ⟨trivial, trivial⟩ (by kernel_rfl) rfl ?_
 unfold slices_Index_int_int at h
 refine AWP.seq (.region (.assign rfl rfl (.nil (thn_normal (.seq (.seq (.region (.move rfl rfl (S.len rfl rfl (fun hl7 => .move rfl rfl (.nil (thn_normal (.block ?_)))))))))))))
 obtain ⟨oo, ho1, h⟩ := bind_some h
 refine AWP.rngS ho1 (fun t3 _ => ⟨[(0, .c (row 1 intI sv)), (1, .c (int v)), (7, .c (int (sv.length : Int))), (8, .c (int t3))], []⟩) (fun o e st => match o with | .inl _ => e = .exit 0 ∧ Sub [] st ⟨[], []⟩ | .inr x => e = .ret ∧ Done [.t 4] (fun t _ => t = .c (int x)) .ret st) ?_ ?_ ?_ ?_
 ·try dsimp only
  exact Sub.env ⟨rfl, rfl, rfl, rfl, trivial⟩
 ·intro t3 s hlot3 hltt3 _
  try dsimp only
  refine AWP.seq (.region (.lss rfl rfl rfl (.nil (thn_normal (.seq (.condNP rfl hltt3 (.exit (thn_exit (thn_exit ⟨rfl, ?_⟩)))))))))
  exact Sub.env trivial
 ·intro t3 s o hlot3 hltt3 h
  unfold slices_Index_int_int_l1 at h
  try dsimp only at h ⊢
  refine AWP.seq (.region (.lss rfl rfl rfl (.nil (thn_normal (.seq (.condP rfl hltt3 (.skip (thn_normal (.seq (.block (.seq (.region (.move rfl rfl (.assign rfl rfl (.nil (thn_normal (.seq ?_)))))))))))))))))
  obtain ⟨a14, ha14, h⟩ := bind_some h
  refine AWP.region (.move rfl rfl (.move rfl rfl (.move rfl rfl (S.idx ha14 rfl rfl rfl rfl (.loadI rfl rfl rfl rfl (.eql rfl rfl rfl (.nil (thn_normal (.ite rfl h (fun hc4 h => ?_) (fun hc4 h => ?_))))))))))
  ·refine AWP.seq (.region (.move rfl rfl (.assign rfl rfl (.nil (thn_normal (.ret (inB_ret (thn_ret ?_))))))))
   have ej := Option.some.inj h
   subst ej
   refine thn_ret ⟨_, rfl, rfl, ?_⟩
   exact Done.ret rfl rfl
  ·refine AWP.skip (inB_normal (thn_normal (.region (.add rfl rfl rfl (by omega) (.move rfl rfl (.nil ?_))))))
   have ej := Option.some.inj h
   subst ej
   refine thn_normal ⟨_, rfl, ?_⟩
   exact Sub.env ⟨rfl, rfl, rfl, rfl, trivial⟩
 ·intro e s hq
  rcases oo with u | x
  ·try dsimp only at h hq
   obtain ⟨rfl, hs⟩ := hq
   refine ⟨_, hs, ?_⟩
   refine inB_exit (thn_normal (.seq (.region (.assign rfl rfl (.nil (thn_normal (.ret ?_)))))))
   have ej := Option.some.inj h
   subst ej
   exact Done.ret rfl rfl
  ·try dsimp only at h hq
   obtain ⟨rfl, hs⟩ := hq
   refine ⟨_, Sub.refl _ _, ?_⟩
   refine inB_ret (thn_ret ?_)
   have ej := Option.some.inj h
   subst ej
   exact hs
theorem slices_Contains_int_int_ok {sv : List Int} {v : Int} {r : Bool} (h : slices_Contains_int_int sv v = some r) : PureOk Tryz.prog 57 [.c (row 1 intI sv), .c (int v)] (.c (bool r)) := by
 unfold PureOk
 refine FnOk.enter (rs := [.t 4]) Tryz.func57 rfl Tryz.ntmps57 Tryz.results57 rfl ⟨trivial, trivial⟩ (by kernel_rfl) rfl ?_
 unfold slices_Contains_int_int at h
 refine AWP.seq (.region (.assign rfl rfl (.nil (thn_normal (.seq ?_)))))
 obtain ⟨a7, ha7, h⟩ := bind_some h
 refine AWP.region (.move rfl rfl (.move rfl rfl (.callR rfl rfl rfl rfl (slices_Index_int_int_ok ha7) rfl (.geq rfl rfl rfl (.assign rfl rfl (.nil (thn_normal (.ret ?_))))))))
 have ej := Option.some.inj h
 subst ej
 exact Done.ret rfl rfl
theorem ref1_Ints_ok {av : List Int} {bv : List Int} {r : Bool} (h : ref1_Ints av bv = some r) : PureOk Tryz.prog 46 [.c (row 1 intI av), .c (row 1 intI bv)] (.c (bool r)) := by
 unfold PureOk
 refine FnOk.enter (rs := [.t 4]) Tryz.func46 rfl Tryz.ntmps46 Tryz.results46 rfl ⟨trivial, trivial⟩ (by kernel_rfl) rfl ?_
 unfold ref1_Ints at h
 refine AWP.seq (.region (.assign rfl rfl (.nil (thn_normal (.seq (.seq (.region (.move rfl rfl (S.len rfl rfl (fun hl7 => .move rfl rfl (S.len rfl rfl (fun hl9 => .neq rfl rfl rfl (.nil (thn_normal (.iteN rfl h (fun hc3 h => ?_) (fun hc3 h => ?_))))))))))))))))
 ·refine AWP.seq (.region (.assign rfl rfl (.nil (thn_normal (.ret (thn_ret ?_))))))
  have ej := Option.some.inj h
  subst ej
  exact Done.ret rfl rfl
 ·refine AWP.skip (thn_normal (.seq (.seq (.region (.assign rfl rfl (.nil (thn_normal (.block ?_))))))))
  obtain ⟨oo, ho1, h⟩ := bind_some h
  refine AWP.rngS ho1 (fun iv4 _ => ⟨[(0, .c (row 1 intI av)), (1, .c (row 1 intI bv)), (5, .c (int iv4))], []⟩) (fun o e st => match o with | .inl _ => e = .exit 0 ∧ Sub [] st ⟨[], []⟩ | .inr x => e = .ret ∧ Done [.t 4] (fun t _ => t = .c (bool x)) .ret st) ?_ ?_ ?_ ?_
  ·try dsimp only
   exact Sub.env ⟨rfl, rfl, rfl, trivial⟩
  ·intro iv4 s hloiv4 hltiv4 _
   try dsimp only
   refine AWP.seq (.seq (.region (.move rfl rfl (.move rfl rfl (S.len rfl rfl (fun hl13 => .lss rfl rfl rfl (.nil (thn_normal (.condNP rfl hltiv4 (.exit (thn_exit (thn_exit ⟨rfl, ?_⟩))))))))))))
   exact Sub.env trivial
  ·intro iv4 s o hloiv4 hltiv4 h
   unfold ref1_Ints_l1 at h
   try dsimp only at h ⊢
   refine AWP.seq (.seq (.region (.move rfl rfl (.move rfl rfl (S.len rfl rfl (fun hl13 => .lss rfl rfl rfl (.nil (thn_normal (.condP rfl hltiv4 (.skip (thn_normal (.seq (.block (.seq ?_))))))))))))))
   obtain ⟨a19, ha19, h⟩ := bind_some h
   obtain ⟨a23, ha23, h⟩ := bind_some h
   refine AWP.drawI mixed rfl ?_
   apply DrawSeq.consF; exact rfl; intro E
   refine AOps.move rfl rfl (.nil ⟨rfl, rfl⟩)
   exact rfl
   apply DrawSeq.consF; exact rfl; intro E
   refine AOps.move rfl rfl (.nil ⟨rfl, rfl⟩)
   exact rfl
   apply DrawSeq.consF; exact rfl; intro E
   refine S.idx ha19 rfl rfl rfl rfl (.nil ⟨rfl, rfl⟩)
   exact rfl
   apply DrawSeq.consF; exact rfl; intro E
   refine AOps.loadI rfl rfl rfl rfl (.nil ⟨rfl, rfl⟩)
   exact rfl
   apply DrawSeq.consF; exact rfl; intro E
   refine AOps.move rfl rfl (.nil ⟨rfl, rfl⟩)
   exact rfl
   apply DrawSeq.consF; exact rfl; intro E
   refine AOps.move rfl rfl (.nil ⟨rfl, rfl⟩)
   exact rfl
   apply DrawSeq.consF; exact rfl; intro E
   refine S.idx ha23 rfl rfl rfl rfl (.nil ⟨rfl, rfl⟩)
   exact rfl
   apply DrawSeq.consF; exact rfl; intro E
   refine AOps.loadI rfl rfl rfl rfl (.nil ⟨rfl, rfl⟩)
   exact rfl
   apply DrawSeq.consF; exact rfl; intro E
   refine AOps.neq rfl rfl rfl (.nil ⟨rfl, rfl⟩)
   exact rfl
   refine DrawSeq.done ?_
   dsimp only [envEnd]
   refine thn_normal (.iteN rfl h (fun hc5 h => ?_) (fun hc5 h => ?_))
   ·refine AWP.seq (.region (.assign rfl rfl (.nil (thn_normal (.ret (inB_ret (thn_ret ?_)))))))
    have ej := Option.some.inj h
    subst ej
    refine thn_ret ⟨_, rfl, rfl, ?_⟩
    exact Done.ret rfl rfl
   ·refine AWP.skip (inB_normal (thn_normal (.region (.move rfl rfl (.add rfl rfl rfl (by omega) (.assign rfl rfl (.nil ?_)))))))
    have ej := Option.some.inj h
    subst ej
    refine thn_normal ⟨_, rfl, ?_⟩
    exact Sub.env ⟨rfl, rfl, rfl, trivial⟩
  ·intro e s hq
   rcases oo with u | x
   ·try dsimp only at h hq
    obtain ⟨rfl, hs⟩ := hq
    refine ⟨_, hs, ?_⟩
    refine inB_exit (thn_normal (.seq (.region (.assign rfl rfl (.nil (thn_normal (.ret ?_)))))))
    have ej := Option.some.inj h
    subst ej
    exact Done.ret rfl rfl
   ·try dsimp only at h hq
    obtain ⟨rfl, hs⟩ := hq
    refine ⟨_, Sub.refl _ _, ?_⟩
    refine inB_ret (thn_ret ?_)
    have ej := Option.some.inj h
    subst ej
    exact hs
theorem ref8_Choices_ok {av : List TChoice} {bv : List TChoice} {r : Bool} (h : ref8_Choices av bv = some r) : PureOk Tryz.prog 18 [.c (row 2 eTChoice av), .c (row 2 eTChoice bv)] (.c (bool r)) := by
 unfold PureOk
 refine FnOk.enter (rs := [.t 4]) Tryz.func18 rfl Tryz.ntmps18 Tryz.results18 rfl ⟨trivial, trivial⟩ (by kernel_rfl) rfl ?_
 unfold ref8_Choices at h
 refine AWP.seq (.region (.assign rfl rfl (.nil (thn_normal (.seq (.seq (.region (.move rfl rfl (S.len rfl rfl (fun hl7 => .move rfl rfl (S.len rfl rfl (fun hl9 => .neq rfl rfl rfl (.nil (thn_normal (.iteN rfl h (fun hc3 h => ?_) (fun hc3 h => ?_))))))))))))))))
 ·refine AWP.seq (.region (.assign rfl rfl (.nil (thn_normal (.ret (thn_ret ?_))))))
  have ej := Option.some.inj h
  subst ej
  exact Done.ret rfl rfl
 ·refine AWP.skip (thn_normal (.seq (.seq (.region (.assign rfl rfl (.nil (thn_normal (.block ?_))))))))
  obtain ⟨oo, ho1, h⟩ := bind_some h
  refine AWP.rngS ho1 (fun iv4 _ => ⟨[(0, .c (row 2 eTChoice av)), (1, .c (row 2 eTChoice bv)), (5, .c (int iv4))], []⟩) (fun o e st => match o with | .inl _ => e = .exit 0 ∧ Sub [] st ⟨[], []⟩ | .inr x => e = .ret ∧ Done [.t 4] (fun t _ => t = .c (bool x)) .ret st) ?_ ?_ ?_ ?_
  ·try dsimp only
   exact Sub.env ⟨rfl, rfl, rfl, trivial⟩
  ·intro iv4 s hloiv4 hltiv4 _
   try dsimp only
   refine AWP.seq (.seq (.region (.move rfl rfl (.move rfl rfl (S.len rfl rfl (fun hl13 => .lss rfl rfl rfl (.nil (thn_normal (.condNP rfl hltiv4 (.exit (thn_exit (thn_exit ⟨rfl, ?_⟩))))))))))))
   exact Sub.env trivial
  ·intro iv4 s o hloiv4 hltiv4 h
   unfold ref8_Choices_l1 at h
   try dsimp only at h ⊢
   refine AWP.seq (.seq (.region (.move rfl rfl (.move rfl rfl (S.len rfl rfl (fun hl13 => .lss rfl rfl rfl (.nil (thn_normal (.condP rfl hltiv4 (.skip (thn_normal (.seq (.block ?_)))))))))))))
   obtain ⟨t5, hx6, h⟩ := bind_some h
   refine AWP.seqJ (⟨[(0, .c (row 2 eTChoice av)), (1, .c (row 2 eTChoice bv)), (5, .c (int iv4)), (41, .c (bool t5))], []⟩) ?_ ?_
   ·obtain ⟨a19, ha19, hx6⟩ := bind_some hx6
    obtain ⟨a24, ha24, hx6⟩ := bind_some hx6
    rcases Bool.eq_false_or_eq_true (!(decide (a19.operator = a24.operator))) with hb7 | hb7
    ·replace hx6 := iteBT hb7 hx6
     refine AWP.drawI mixed rfl ?_
     apply DrawSeq.consF; exact rfl; intro E
     refine AOps.move rfl rfl (.nil ⟨rfl, rfl⟩)
     exact rfl
     apply DrawSeq.consF; exact rfl; intro E
     refine AOps.move rfl rfl (.nil ⟨rfl, rfl⟩)
     exact rfl
     apply DrawSeq.consF; exact rfl; intro E
     refine S.idx ha19 rfl rfl rfl rfl (.nil ⟨rfl, rfl⟩)
     exact rfl
     apply DrawSeq.consF; exact rfl; intro E
     refine W.fieldAddrI rfl rfl rfl rfl (.nil ⟨rfl, rfl⟩)
     exact rfl
     apply DrawSeq.consF; exact rfl; intro E
     refine AOps.loadI rfl rfl rfl rfl (.nil ⟨rfl, rfl⟩)
     exact rfl
     apply DrawSeq.consF; exact rfl; intro E
     refine AOps.move rfl rfl (.nil ⟨rfl, rfl⟩)
     exact rfl
     apply DrawSeq.consF; exact rfl; intro E
     refine AOps.move rfl rfl (.nil ⟨rfl, rfl⟩)
     exact rfl
     apply DrawSeq.consF; exact rfl; intro E
     refine S.idx ha24 rfl rfl rfl rfl (.nil ⟨rfl, rfl⟩)
     exact rfl
     apply DrawSeq.consF; exact rfl; intro E
     refine W.fieldAddrI rfl rfl rfl rfl (.nil ⟨rfl, rfl⟩)
     exact rfl
     apply DrawSeq.consF; exact rfl; intro E
     refine AOps.loadI rfl rfl rfl rfl (.nil ⟨rfl, rfl⟩)
     exact rfl
     apply DrawSeq.consF; exact rfl; intro E
     refine AOps.neq rfl rfl rfl (.nil ⟨rfl, rfl⟩)
     exact rfl
     apply DrawSeq.consF; exact rfl; intro E
     refine AOps.move rfl rfl (.nil ⟨rfl, rfl⟩)
     exact rfl
     apply DrawSeq.consF; exact rfl; intro E
     refine AOps.guardF rfl rfl rfl hb7 (.nil ⟨rfl, rfl⟩)
     exact rfl
     apply DrawSeq.consF; exact rfl; intro E
     refine AOps.guardF rfl rfl rfl hb7 (.nil ⟨rfl, rfl⟩)
     exact rfl
     apply DrawSeq.consF; exact rfl; intro E
     refine AOps.guardF rfl rfl rfl hb7 (.nil ⟨rfl, rfl⟩)
     exact rfl
     apply DrawSeq.consF; exact rfl; intro E
     refine AOps.guardF rfl rfl rfl hb7 (.nil ⟨rfl, rfl⟩)
     exact rfl
     apply DrawSeq.consF; exact rfl; intro E
     refine AOps.guardF rfl rfl rfl hb7 (.nil ⟨rfl, rfl⟩)
     exact rfl
     apply DrawSeq.consF; exact rfl; intro E
     refine AOps.guardF rfl rfl rfl hb7 (.nil ⟨rfl, rfl⟩)
     exact rfl
     apply DrawSeq.consF; exact rfl; intro E
     refine AOps.guardF rfl rfl rfl hb7 (.nil ⟨rfl, rfl⟩)
     exact rfl
     apply DrawSeq.consF; exact rfl; intro E
     refine AOps.guardF rfl rfl rfl hb7 (.nil ⟨rfl, rfl⟩)
     exact rfl
     apply DrawSeq.consF; exact rfl; intro E
     refine AOps.guardF rfl rfl rfl hb7 (.nil ⟨rfl, rfl⟩)
     exact rfl
     apply DrawSeq.consF; exact rfl; intro E
     refine AOps.guardF rfl rfl rfl hb7 (.nil ⟨rfl, rfl⟩)
     exact rfl
     apply DrawSeq.consF; exact rfl; intro E
     refine AOps.guardF rfl rfl rfl hb7 (.nil ⟨rfl, rfl⟩)
     exact rfl
     apply DrawSeq.consF; exact rfl; intro E
     refine AOps.guardF rfl rfl rfl hb7 (.nil ⟨rfl, rfl⟩)
     exact rfl
     apply DrawSeq.consF; exact rfl; intro E
     refine AOps.pickT rfl hb7 rfl rfl (.nil ⟨rfl, rfl⟩)
     exact rfl
     refine DrawSeq.done ?_
     dsimp only [envEnd]
     have ej := Option.some.inj hx6
     subst ej
     refine thn_normal (Sub.env ⟨rfl, rfl, rfl, rfl, trivial⟩)
    ·replace hx6 := iteBF hb7 hx6
     obtain ⟨a31, ha31, hx6⟩ := bind_some hx6
     obtain ⟨a36, ha36, hx6⟩ := bind_some hx6
     obtain ⟨a39, ha39, hx6⟩ := bind_some hx6
     refine AWP.drawI mixed rfl ?_
     apply DrawSeq.consF; exact rfl; intro E
     refine AOps.move rfl rfl (.nil ⟨rfl, rfl⟩)
     exact rfl
     apply DrawSeq.consF; exact rfl; intro E
     refine AOps.move rfl rfl (.nil ⟨rfl, rfl⟩)
     exact rfl
     apply DrawSeq.consF; exact rfl; intro E
     refine S.idx ha19 rfl rfl rfl rfl (.nil ⟨rfl, rfl⟩)
     exact rfl
     apply DrawSeq.consF; exact rfl; intro E
     refine W.fieldAddrI rfl rfl rfl rfl (.nil ⟨rfl, rfl⟩)
     exact rfl
     apply DrawSeq.consF; exact rfl; intro E
     refine AOps.loadI rfl rfl rfl rfl (.nil ⟨rfl, rfl⟩)
     exact rfl
     apply DrawSeq.consF; exact rfl; intro E
     refine AOps.move rfl rfl (.nil ⟨rfl, rfl⟩)
     exact rfl
     apply DrawSeq.consF; exact rfl; intro E
     refine AOps.move rfl rfl (.nil ⟨rfl, rfl⟩)
     exact rfl
     apply DrawSeq.consF; exact rfl; intro E
     refine S.idx ha24 rfl rfl rfl rfl (.nil ⟨rfl, rfl⟩)
     exact rfl
     apply DrawSeq.consF; exact rfl; intro E
     refine W.fieldAddrI rfl rfl rfl rfl (.nil ⟨rfl, rfl⟩)
     exact rfl
     apply DrawSeq.consF; exact rfl; intro E
     refine AOps.loadI rfl rfl rfl rfl (.nil ⟨rfl, rfl⟩)
     exact rfl
     apply DrawSeq.consF; exact rfl; intro E
     refine AOps.neq rfl rfl rfl (.nil ⟨rfl, rfl⟩)
     exact rfl
     apply DrawSeq.consF; exact rfl; intro E
     refine AOps.move rfl rfl (.nil ⟨rfl, rfl⟩)
     exact rfl
     apply DrawSeq.consF; exact rfl; intro E
     refine AOps.guardT rfl rfl rfl hb7 (.move rfl rfl (.nil ⟨rfl, rfl⟩))
     exact rfl
     apply DrawSeq.consF; exact rfl; intro E
     refine AOps.guardT rfl rfl rfl hb7 (.move rfl rfl (.nil ⟨rfl, rfl⟩))
     exact rfl
     apply DrawSeq.consF; exact rfl; intro E
     refine AOps.guardT rfl rfl rfl hb7 (S.idx ha31 rfl rfl rfl rfl (.nil ⟨rfl, rfl⟩))
     exact rfl
     apply DrawSeq.consF; exact rfl; intro E
     refine AOps.guardT rfl rfl rfl hb7 (W.fieldAddrI rfl rfl rfl rfl (.nil ⟨rfl, rfl⟩))
     exact rfl
     apply DrawSeq.consF; exact rfl; intro E
     refine AOps.guardT rfl rfl rfl hb7 (.loadI rfl rfl rfl rfl (.nil ⟨rfl, rfl⟩))
     exact rfl
     apply DrawSeq.consF; exact rfl; intro E
     refine AOps.guardT rfl rfl rfl hb7 (.move rfl rfl (.nil ⟨rfl, rfl⟩))
     exact rfl
     apply DrawSeq.consF; exact rfl; intro E
     refine AOps.guardT rfl rfl rfl hb7 (.move rfl rfl (.nil ⟨rfl, rfl⟩))
     exact rfl
     apply DrawSeq.consF; exact rfl; intro E
     refine AOps.guardT rfl rfl rfl hb7 (S.idx ha36 rfl rfl rfl rfl (.nil ⟨rfl, rfl⟩))
     exact rfl
     apply DrawSeq.consF; exact rfl; intro E
     refine AOps.guardT rfl rfl rfl hb7 (W.fieldAddrI rfl rfl rfl rfl (.nil ⟨rfl, rfl⟩))
     exact rfl
     apply DrawSeq.consF; exact rfl; intro E
     refine AOps.guardT rfl rfl rfl hb7 (.loadI rfl rfl rfl rfl (.nil ⟨rfl, rfl⟩))
     exact rfl
     apply DrawSeq.consF; exact rfl; intro E
     refine AOps.guardT rfl rfl rfl hb7 (.callR rfl rfl rfl rfl (ref1_Ints_ok ha39) rfl (.nil ⟨rfl, rfl⟩))
     exact rfl
     apply DrawSeq.consF; exact rfl; intro E
     refine AOps.guardT rfl rfl rfl hb7 (.not rfl rfl (.nil ⟨rfl, rfl⟩))
     exact rfl
     apply DrawSeq.consF; exact rfl; intro E
     refine AOps.pickF rfl hb7 rfl rfl (.nil ⟨rfl, rfl⟩)
     exact rfl
     refine DrawSeq.done ?_
     dsimp only [envEnd]
     have ej := Option.some.inj hx6
     subst ej
     refine thn_normal (Sub.env ⟨rfl, rfl, rfl, rfl, trivial⟩)
   ·refine AWP.iteB rfl h (fun hc8 h => ?_) (fun hc8 h => ?_)
    ·refine AWP.seq (.region (.assign rfl rfl (.nil (thn_normal (.ret (inB_ret (thn_ret ?_)))))))
     have ej := Option.some.inj h
     subst ej
     refine thn_ret ⟨_, rfl, rfl, ?_⟩
     exact Done.ret rfl rfl
    ·refine AWP.skip (inB_normal (thn_normal (.region (.move rfl rfl (.add rfl rfl rfl (by omega) (.assign rfl rfl (.nil ?_)))))))
     have ej := Option.some.inj h
     subst ej
     refine thn_normal ⟨_, rfl, ?_⟩
     exact Sub.env ⟨rfl, rfl, rfl, trivial⟩
  ·intro e s hq
   rcases oo with u | x
   ·try dsimp only at h hq
    obtain ⟨rfl, hs⟩ := hq
    refine ⟨_, hs, ?_⟩
    refine inB_exit (thn_normal (.seq (.region (.assign rfl rfl (.nil (thn_normal (.ret ?_)))))))
    have ej := Option.some.inj h
    subst ej
    exact Done.ret rfl rfl
   ·try dsimp only at h hq
    obtain ⟨rfl, hs⟩ := hq
    refine ⟨_, Sub.refl _ _, ?_⟩
    refine inB_ret (thn_ret ?_)
    have ej := Option.some.inj h
    subst ej
    exact hs
end Ab
end
