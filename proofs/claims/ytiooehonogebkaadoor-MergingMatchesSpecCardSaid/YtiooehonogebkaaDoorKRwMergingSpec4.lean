/-
  Texts that the proof stands on.
-/
import Derived.Test.YtiooehonogebkaaDoorKRwMergingSpec3
set_option linter.all false
section
namespace Ab
open Go Go.Proofs
set_option maxHeartbeats 4000000
set_option linter.all false
attribute [local irreducible] AWP AOps thn inB Done PureOk FreshOk Sub
theorem strips_IsSet_ok {l : List Int} {nv : Int} {r : Bool} (h : strips_IsSet l nv = some r) : PureOk Tryd.prog 40 [.c (row 1 intI l), .c (int nv)] (.c (bool r)) := by
  unfold PureOk
  refine FnOk.enter (rs := [.t 4]) Tryd.func40 rfl Tryd.ntmps40 Tryd.results40 rfl ⟨trivial, trivial⟩ (by kernel_rfl) rfl ?_
  unfold strips_IsSet at h
  refine AWP.seq ?_
  refine AWP.region ?_
  refine AOps.assign rfl rfl ?_
  refine AOps.nil ?_
  refine thn_normal ?_
  refine AWP.seq ?_
  refine AWP.seq ?_
  refine AWP.region ?_
  refine AOps.move rfl rfl ?_
  refine S.len rfl rfl (fun hl8 => ?_)
  refine AOps.move rfl rfl ?_
  refine AOps.nil ?_
  refine thn_normal ?_
  refine AWP.block ?_
  obtain ⟨oo, ho1, h⟩ := bind_some h
  refine AWP.rngS ho1 (fun t3 _ => ⟨[(0, .c (row 1 intI l)), (1, .c (int nv)), (7, .c (row 1 intI l)), (8, .c (int (l.length : Int))), (9, .c (int t3))], []⟩) (fun o e st => match o with | .inl _ => e = .exit 0 ∧ Sub [] st ⟨[], []⟩ | .inr x => e = .ret ∧ Done [.t 4] (fun t _ => t = .c (bool x)) .ret st) ?_ ?_ ?_ ?_
  · try dsimp only
    exact Sub.env ⟨rfl, rfl, rfl, rfl, rfl, trivial⟩
  · intro t3 s hlot3 hltt3 _
    try dsimp only
    refine AWP.seq ?_
    refine AWP.region ?_
    refine AOps.lss rfl rfl rfl ?_
    refine AOps.nil ?_
    refine thn_normal ?_
    refine AWP.seq ?_
    refine AWP.condNP rfl hltt3 ?_
    refine AWP.exit ?_
    refine thn_exit ?_
    refine thn_exit ⟨rfl, ?_⟩
    exact Sub.env trivial
  · intro t3 s o hlot3 hltt3 h
    unfold strips_IsSet_l1 at h
    try dsimp only at h ⊢
    refine AWP.seq ?_
    refine AWP.region ?_
    refine AOps.lss rfl rfl rfl ?_
    refine AOps.nil ?_
    refine thn_normal ?_
    refine AWP.seq ?_
    refine AWP.condP rfl hltt3 ?_
    refine AWP.skip ?_
    refine thn_normal ?_
    refine AWP.seq ?_
    refine AWP.block ?_
    refine AWP.seq ?_
    obtain ⟨a12, ha12, h⟩ := bind_some h
    refine AWP.region ?_
    refine AOps.move rfl rfl ?_
    refine S.idx ha12 rfl rfl rfl rfl ?_
    refine AOps.loadI rfl rfl rfl rfl ?_
    refine AOps.assign rfl rfl ?_
    refine AOps.assign rfl rfl ?_
    refine AOps.nil ?_
    refine thn_normal ?_
    obtain ⟨t4, hx5, h⟩ := bind_some h
    refine AWP.seqJ (⟨[(0, .c (row 1 intI l)), (1, .c (int nv)), (7, .c (row 1 intI l)), (8, .c (int (l.length : Int))), (9, .c (int t3)), (33, .c (bool t4))], []⟩) ?_ ?_
    · rcases Bool.eq_false_or_eq_true (decide (a12 < 0)) with hb6 | hb6
      · replace hx5 := iteDT hb6 hx5
        refine AWP.region ?_
        refine AOps.move rfl rfl ?_
        refine AOps.lss rfl rfl rfl ?_
        refine AOps.move rfl rfl ?_
        refine AOps.guardF rfl rfl rfl hb6 ?_
        refine AOps.guardF rfl rfl rfl hb6 ?_
        refine AOps.guardF rfl rfl rfl hb6 ?_
        refine AOps.pickT rfl hb6 rfl rfl ?_
        refine AOps.move rfl rfl ?_
        refine AOps.guardF rfl rfl rfl rfl ?_
        refine AOps.guardF rfl rfl rfl rfl ?_
        refine AOps.guardF rfl rfl rfl rfl ?_
        refine AOps.guardSkip rfl rfl rfl ?_
        refine AOps.guardSkip rfl rfl rfl ?_
        refine AOps.guardSkip rfl rfl rfl ?_
        refine AOps.guardSkip rfl rfl rfl ?_
        refine AOps.guardSkip rfl rfl rfl ?_
        refine AOps.guardSkip rfl rfl rfl ?_
        refine AOps.guardSkip rfl rfl rfl ?_
        refine AOps.guardF rfl rfl rfl rfl ?_
        refine AOps.pickT rfl rfl rfl rfl ?_
        refine AOps.nil ?_
        have ej := Option.some.inj hx5
        subst ej
        refine thn_normal ?_
        exact Sub.env ⟨rfl, rfl, rfl, rfl, rfl, rfl, trivial⟩
      · replace hx5 := iteDF hb6 hx5
        rcases Bool.eq_false_or_eq_true (decide (nv ≤ a12)) with hb7 | hb7
        · replace hx5 := iteDT hb7 hx5
          refine AWP.region ?_
          refine AOps.move rfl rfl ?_
          refine AOps.lss rfl rfl rfl ?_
          refine AOps.move rfl rfl ?_
          refine AOps.guardT rfl rfl rfl hb6 ?_; refine AOps.move rfl rfl ?_
          refine AOps.guardT rfl rfl rfl hb6 ?_; refine AOps.move rfl rfl ?_
          refine AOps.guardT rfl rfl rfl hb6 ?_; refine AOps.geq rfl rfl rfl ?_
          refine AOps.pickF rfl hb6 rfl rfl ?_
          refine AOps.move rfl rfl ?_
          refine AOps.guardF rfl rfl rfl hb7 ?_
          refine AOps.guardF rfl rfl rfl hb7 ?_
          refine AOps.guardF rfl rfl rfl hb7 ?_
          refine AOps.guardSkip rfl rfl rfl ?_
          refine AOps.guardSkip rfl rfl rfl ?_
          refine AOps.guardSkip rfl rfl rfl ?_
          refine AOps.guardSkip rfl rfl rfl ?_
          refine AOps.guardSkip rfl rfl rfl ?_
          refine AOps.guardSkip rfl rfl rfl ?_
          refine AOps.guardSkip rfl rfl rfl ?_
          refine AOps.guardF rfl rfl rfl hb7 ?_
          refine AOps.pickT rfl hb7 rfl rfl ?_
          refine AOps.nil ?_
          have ej := Option.some.inj hx5
          subst ej
          refine thn_normal ?_
          exact Sub.env ⟨rfl, rfl, rfl, rfl, rfl, rfl, trivial⟩
        · replace hx5 := iteDF hb7 hx5
          rcases Bool.eq_false_or_eq_true (decide (0 < t3)) with hb8 | hb8
          · replace hx5 := iteDT hb8 hx5
            obtain ⟨a29, ha29, hx5⟩ := bind_some hx5
            refine AWP.region ?_
            refine AOps.move rfl rfl ?_
            refine AOps.lss rfl rfl rfl ?_
            refine AOps.move rfl rfl ?_
            refine AOps.guardT rfl rfl rfl hb6 ?_; refine AOps.move rfl rfl ?_
            refine AOps.guardT rfl rfl rfl hb6 ?_; refine AOps.move rfl rfl ?_
            refine AOps.guardT rfl rfl rfl hb6 ?_; refine AOps.geq rfl rfl rfl ?_
            refine AOps.pickF rfl hb6 rfl rfl ?_
            refine AOps.move rfl rfl ?_
            refine AOps.guardT rfl rfl rfl hb7 ?_; refine AOps.move rfl rfl ?_
            refine AOps.guardT rfl rfl rfl hb7 ?_; refine AOps.gtr rfl rfl rfl ?_
            refine AOps.guardT rfl rfl rfl hb7 ?_; refine AOps.move rfl rfl ?_
            refine AOps.guardT rfl rfl rfl hb8 ?_; refine AOps.move rfl rfl ?_
            refine AOps.guardT rfl rfl rfl hb8 ?_; refine AOps.move rfl rfl ?_
            refine AOps.guardT rfl rfl rfl hb8 ?_; refine AOps.move rfl rfl ?_
            refine AOps.guardT rfl rfl rfl hb8 ?_; refine AOps.sub' rfl rfl rfl (by omega) ?_
            refine AOps.guardT rfl rfl rfl hb8 ?_; refine S.idx ha29 rfl rfl rfl rfl ?_
            refine AOps.guardT rfl rfl rfl hb8 ?_; refine AOps.loadI rfl rfl rfl rfl ?_
            refine AOps.guardT rfl rfl rfl hb8 ?_; refine AOps.leq rfl rfl rfl ?_
            refine AOps.guardT rfl rfl rfl hb7 ?_; refine AOps.pickT rfl hb8 rfl rfl ?_
            refine AOps.pickF rfl hb7 rfl rfl ?_
            refine AOps.nil ?_
            have ej := Option.some.inj hx5
            subst ej
            refine thn_normal ?_
            exact Sub.env ⟨rfl, rfl, rfl, rfl, rfl, rfl, trivial⟩
          · replace hx5 := iteDF hb8 hx5
            refine AWP.region ?_
            refine AOps.move rfl rfl ?_
            refine AOps.lss rfl rfl rfl ?_
            refine AOps.move rfl rfl ?_
            refine AOps.guardT rfl rfl rfl hb6 ?_; refine AOps.move rfl rfl ?_
            refine AOps.guardT rfl rfl rfl hb6 ?_; refine AOps.move rfl rfl ?_
            refine AOps.guardT rfl rfl rfl hb6 ?_; refine AOps.geq rfl rfl rfl ?_
            refine AOps.pickF rfl hb6 rfl rfl ?_
            refine AOps.move rfl rfl ?_
            refine AOps.guardT rfl rfl rfl hb7 ?_; refine AOps.move rfl rfl ?_
            refine AOps.guardT rfl rfl rfl hb7 ?_; refine AOps.gtr rfl rfl rfl ?_
            refine AOps.guardT rfl rfl rfl hb7 ?_; refine AOps.move rfl rfl ?_
            refine AOps.guardF rfl rfl rfl hb8 ?_
            refine AOps.guardF rfl rfl rfl hb8 ?_
            refine AOps.guardF rfl rfl rfl hb8 ?_
            refine AOps.guardF rfl rfl rfl hb8 ?_
            refine AOps.guardF rfl rfl rfl hb8 ?_
            refine AOps.guardF rfl rfl rfl hb8 ?_
            refine AOps.guardF rfl rfl rfl hb8 ?_
            refine AOps.guardT rfl rfl rfl hb7 ?_; refine AOps.pickF rfl hb8 rfl rfl ?_
            refine AOps.pickF rfl hb7 rfl rfl ?_
            refine AOps.nil ?_
            have ej := Option.some.inj hx5
            subst ej
            refine thn_normal ?_
            exact Sub.env ⟨rfl, rfl, rfl, rfl, rfl, rfl, trivial⟩
    · refine AWP.iteB rfl h (fun hc9 h => ?_) (fun hc9 h => ?_)
      · refine AWP.seq ?_
        refine AWP.region ?_
        refine AOps.assign rfl rfl ?_
        refine AOps.nil ?_
        refine thn_normal ?_
        refine AWP.ret ?_
        refine inB_ret ?_
        refine thn_ret ?_
        have ej := Option.some.inj h
        subst ej
        refine thn_ret ⟨_, rfl, rfl, ?_⟩
        exact Done.ret rfl rfl
      · refine AWP.skip ?_
        refine inB_normal ?_
        refine thn_normal ?_
        refine AWP.region ?_
        refine AOps.add rfl rfl rfl (by omega) ?_
        refine AOps.move rfl rfl ?_
        refine AOps.nil ?_
        have ej := Option.some.inj h
        subst ej
        refine thn_normal ⟨_, rfl, ?_⟩
        exact Sub.env ⟨rfl, rfl, rfl, rfl, rfl, trivial⟩
  · intro e s hq
    rcases oo with u | x
    · try dsimp only at h hq
      obtain ⟨rfl, hs⟩ := hq
      refine ⟨_, hs, ?_⟩
      refine inB_exit ?_
      refine thn_normal ?_
      refine AWP.seq ?_
      refine AWP.region ?_
      refine AOps.assign rfl rfl ?_
      refine AOps.nil ?_
      refine thn_normal ?_
      refine AWP.ret ?_
      have ej := Option.some.inj h
      subst ej
      exact Done.ret rfl rfl
    · try dsimp only at h hq
      obtain ⟨rfl, hs⟩ := hq
      refine ⟨_, Sub.refl _ _, ?_⟩
      refine inB_ret ?_
      refine thn_ret ?_
      have ej := Option.some.inj h
      subst ej
      exact hs
theorem cmp_isNaN_int_ok {xv : Int} {r : Bool} (h : cmp_isNaN_int xv = some r) : PureOk Tryd.prog 62 [.c (int xv)] (.c (bool r)) := by
  unfold PureOk
  refine FnOk.enter (rs := [.t 2]) Tryd.func62 rfl Tryd.ntmps62 Tryd.results62 rfl ⟨trivial, trivial⟩ (by kernel_rfl) rfl ?_
  unfold cmp_isNaN_int at h
  refine AWP.seq ?_
  refine AWP.region ?_
  refine AOps.assign rfl rfl ?_
  refine AOps.nil ?_
  refine thn_normal ?_
  refine AWP.seq ?_
  refine AWP.region ?_
  refine AOps.move rfl rfl ?_
  refine AOps.move rfl rfl ?_
  refine AOps.neq rfl rfl rfl ?_
  refine AOps.assign rfl rfl ?_
  refine AOps.nil ?_
  refine thn_normal ?_
  refine AWP.ret ?_
  have ej := Option.some.inj h
  subst ej
  exact Done.ret rfl rfl
theorem cmp_Less_int_ok {xv : Int} {yv : Int} {r : Bool} (h : cmp_Less_int xv yv = some r) : PureOk Tryd.prog 56 [.c (int xv), .c (int yv)] (.c (bool r)) := by
  unfold PureOk
  refine FnOk.enter (rs := [.t 4]) Tryd.func56 rfl Tryd.ntmps56 Tryd.results56 rfl ⟨trivial, trivial⟩ (by kernel_rfl) rfl ?_
  unfold cmp_Less_int at h
  refine AWP.seq ?_
  refine AWP.region ?_
  refine AOps.assign rfl rfl ?_
  refine AOps.nil ?_
  refine thn_normal ?_
  obtain ⟨t3, hx4, h⟩ := bind_some h
  refine AWP.seqJ (⟨[(4, .c (bool t3))], []⟩) ?_ ?_
  · obtain ⟨a6, ha6, hx4⟩ := bind_some hx4
    rcases Bool.eq_false_or_eq_true (a6) with hb5 | hb5
    · replace hx4 := iteBT hb5 hx4
      obtain ⟨a9, ha9, hx4⟩ := bind_some hx4
      rcases Bool.eq_false_or_eq_true (!a9) with hb6 | hb6
      · replace hx4 := iteBT hb6 hx4
        refine AWP.region ?_
        refine AOps.move rfl rfl ?_
        refine AOps.callR rfl rfl rfl rfl (cmp_isNaN_int_ok ha6) rfl ?_
        refine AOps.move rfl rfl ?_
        refine AOps.guardT rfl rfl rfl hb5 ?_; refine AOps.move rfl rfl ?_
        refine AOps.guardT rfl rfl rfl hb5 ?_; refine AOps.callR rfl rfl rfl rfl (cmp_isNaN_int_ok ha9) rfl ?_
        refine AOps.guardT rfl rfl rfl hb5 ?_; refine AOps.not rfl rfl ?_
        refine AOps.pickT rfl hb5 rfl rfl ?_
        refine AOps.move rfl rfl ?_
        refine AOps.guardF rfl rfl rfl hb6 ?_
        refine AOps.guardF rfl rfl rfl hb6 ?_
        refine AOps.guardF rfl rfl rfl hb6 ?_
        refine AOps.pickT rfl hb6 rfl rfl ?_
        refine AOps.assign rfl rfl ?_
        refine AOps.nil ?_
        have ej := Option.some.inj hx4
        subst ej
        refine thn_normal ?_
        exact Sub.env ⟨rfl, trivial⟩
      · replace hx4 := iteBF hb6 hx4
        refine AWP.region ?_
        refine AOps.move rfl rfl ?_
        refine AOps.callR rfl rfl rfl rfl (cmp_isNaN_int_ok ha6) rfl ?_
        refine AOps.move rfl rfl ?_
        refine AOps.guardT rfl rfl rfl hb5 ?_; refine AOps.move rfl rfl ?_
        refine AOps.guardT rfl rfl rfl hb5 ?_; refine AOps.callR rfl rfl rfl rfl (cmp_isNaN_int_ok ha9) rfl ?_
        refine AOps.guardT rfl rfl rfl hb5 ?_; refine AOps.not rfl rfl ?_
        refine AOps.pickT rfl hb5 rfl rfl ?_
        refine AOps.move rfl rfl ?_
        refine AOps.guardT rfl rfl rfl hb6 ?_; refine AOps.move rfl rfl ?_
        refine AOps.guardT rfl rfl rfl hb6 ?_; refine AOps.move rfl rfl ?_
        refine AOps.guardT rfl rfl rfl hb6 ?_; refine AOps.lss rfl rfl rfl ?_
        refine AOps.pickF rfl hb6 rfl rfl ?_
        refine AOps.assign rfl rfl ?_
        refine AOps.nil ?_
        have ej := Option.some.inj hx4
        subst ej
        refine thn_normal ?_
        exact Sub.env ⟨rfl, trivial⟩
    · replace hx4 := iteBF hb5 hx4
      refine AWP.region ?_
      refine AOps.move rfl rfl ?_
      refine AOps.callR rfl rfl rfl rfl (cmp_isNaN_int_ok ha6) rfl ?_
      refine AOps.move rfl rfl ?_
      refine AOps.guardF rfl rfl rfl hb5 ?_
      refine AOps.guardF rfl rfl rfl hb5 ?_
      refine AOps.guardF rfl rfl rfl hb5 ?_
      refine AOps.pickF rfl hb5 rfl rfl ?_
      refine AOps.move rfl rfl ?_
      refine AOps.guardT rfl rfl rfl rfl ?_; refine AOps.move rfl rfl ?_
      refine AOps.guardT rfl rfl rfl rfl ?_; refine AOps.move rfl rfl ?_
      refine AOps.guardT rfl rfl rfl rfl ?_; refine AOps.lss rfl rfl rfl ?_
      refine AOps.pickF rfl rfl rfl rfl ?_
      refine AOps.assign rfl rfl ?_
      refine AOps.nil ?_
      have ej := Option.some.inj hx4
      subst ej
      refine thn_normal ?_
      exact Sub.env ⟨rfl, trivial⟩
  · refine AWP.ret ?_
    have ej := Option.some.inj h
    subst ej
    exact Done.ret rfl rfl
theorem slices_isNaN_int_ok {xv : Int} {r : Bool} (h : slices_isNaN_int xv = some r) : PureOk Tryd.prog 57 [.c (int xv)] (.c (bool r)) := by
  unfold PureOk
  refine FnOk.enter (rs := [.t 2]) Tryd.func57 rfl Tryd.ntmps57 Tryd.results57 rfl ⟨trivial, trivial⟩ (by kernel_rfl) rfl ?_
  unfold slices_isNaN_int at h
  refine AWP.seq ?_
  refine AWP.region ?_
  refine AOps.assign rfl rfl ?_
  refine AOps.nil ?_
  refine thn_normal ?_
  refine AWP.seq ?_
  refine AWP.region ?_
  refine AOps.move rfl rfl ?_
  refine AOps.move rfl rfl ?_
  refine AOps.neq rfl rfl rfl ?_
  refine AOps.assign rfl rfl ?_
  refine AOps.nil ?_
  refine thn_normal ?_
  refine AWP.ret ?_
  have ej := Option.some.inj h
  subst ej
  exact Done.ret rfl rfl
theorem slices_BinarySearch_int_int_ok {xv : List Int} {target : Int} {r : Int × Bool} (h : slices_BinarySearch_int_int xv target = some r) : PureOk Tryd.prog 50 [.c (row 1 intI xv), .c (int target)] (.tup [.c (int r.1), .c (bool r.2)]) := by
  unfold PureOk
  refine FnOk.enter (rs := [.t 4, .t 5]) Tryd.func50 rfl Tryd.ntmps50 Tryd.results50 rfl ⟨trivial, trivial, trivial⟩ (by kernel_rfl) rfl ?_
  unfold slices_BinarySearch_int_int at h
  refine AWP.seq ?_
  refine AWP.region ?_
  refine AOps.assign rfl rfl ?_
  refine AOps.assign rfl rfl ?_
  refine AOps.nil ?_
  refine thn_normal ?_
  refine AWP.seq ?_
  refine AWP.region ?_
  refine AOps.move rfl rfl ?_
  refine S.len rfl rfl (fun hl11 => ?_)
  refine AOps.assign rfl rfl ?_
  refine AOps.nil ?_
  refine thn_normal ?_
  refine AWP.seq ?_
  refine AWP.region ?_
  refine AOps.move rfl rfl ?_
  refine AOps.assign rfl rfl ?_
  refine AOps.assign rfl rfl ?_
  refine AOps.nil ?_
  refine thn_normal ?_
  refine AWP.seq ?_
  refine AWP.block ?_
  obtain ⟨iv5, ho1, h⟩ := bind_some h
  refine AWP.loopS ho1 (fun (iv3, j4) => ⟨[(0, .c (row 1 intI xv)), (1, .c (int target)), (6, .c (int (xv.length : Int))), (7, .c (int iv3)), (8, .c (int j4))], []⟩) (fun iv5 e st => e = .exit 0 ∧ Sub [] st ⟨[(0, .c (row 1 intI xv)), (1, .c (int target)), (6, .c (int (xv.length : Int))), (7, .c (int iv5))], []⟩) ?_ ?_ ?_
  · try dsimp only
    exact Sub.env ⟨rfl, rfl, rfl, rfl, rfl, trivial⟩
  · intro s o h
    obtain ⟨iv3, j4⟩ := s
    unfold slices_BinarySearch_int_int_l1 at h
    try dsimp only at h ⊢
    refine AWP.seq ?_
    refine AWP.seq ?_
    refine AWP.region ?_
    refine AOps.move rfl rfl ?_
    refine AOps.move rfl rfl ?_
    refine AOps.lss rfl rfl rfl ?_
    refine AOps.nil ?_
    refine thn_normal ?_
    refine AWP.ite rfl h (fun hc6 h => ?_) (fun hc6 h => ?_)
    · refine AWP.skip ?_
      refine thn_normal ?_
      refine AWP.block ?_
      refine AWP.seq ?_
      refine AWP.region ?_
      refine AOps.move rfl rfl ?_
      refine AOps.move rfl rfl ?_
      refine S.add rfl rfl rfl ?_
      refine AOps.convInt rfl rfl ?_
      refine AOps.shr rfl rfl rfl (by decide) rfl ?_
      refine AOps.convInt rfl rfl ?_
      refine AOps.assign rfl rfl ?_
      refine AOps.nil ?_
      refine thn_normal ?_
      refine AWP.seq ?_
      obtain ⟨a24, ha24, h⟩ := bind_some h
      obtain ⟨a27, ha27, h⟩ := bind_some h
      refine AWP.region ?_
      refine AOps.move rfl rfl ?_
      refine AOps.move rfl rfl ?_
      refine S.idx ha24 rfl rfl rfl rfl ?_
      refine AOps.loadI rfl rfl rfl rfl ?_
      refine AOps.move rfl rfl ?_
      refine AOps.callR rfl rfl rfl rfl (cmp_Less_int_ok ha27) rfl ?_
      refine AOps.nil ?_
      refine thn_normal ?_
      refine AWP.iteB rfl h (fun hc7 h => ?_) (fun hc7 h => ?_)
      · refine AWP.region ?_
        refine AOps.move rfl rfl ?_
        refine S.add rfl rfl rfl ?_
        refine AOps.assign rfl rfl ?_
        refine AOps.nil ?_
        refine inB_normal ?_
        have ej := Option.some.inj h
        subst ej
        refine thn_normal ⟨_, rfl, ?_⟩
        exact Sub.env ⟨rfl, rfl, rfl, rfl, rfl, trivial⟩
      · refine AWP.region ?_
        refine AOps.move rfl rfl ?_
        refine AOps.assign rfl rfl ?_
        refine AOps.nil ?_
        refine inB_normal ?_
        have ej := Option.some.inj h
        subst ej
        refine thn_normal ⟨_, rfl, ?_⟩
        exact Sub.env ⟨rfl, rfl, rfl, rfl, rfl, trivial⟩
    · refine AWP.exit ?_
      refine thn_exit ?_
      have ej := Option.some.inj h
      subst ej
      refine thn_exit ⟨_, rfl, rfl, ?_⟩
      exact Sub.env ⟨rfl, rfl, rfl, rfl, trivial⟩
  · intro e s hq
    obtain ⟨rfl, hs⟩ := hq
    refine ⟨_, hs, ?_⟩
    refine inB_exit ?_
    refine thn_normal ?_
    obtain ⟨t8, hx9, h⟩ := bind_some h
    refine AWP.seqJ (⟨[(4, .c (int iv5)), (5, .c (bool t8))], []⟩) ?_ ?_
    · rcases Bool.eq_false_or_eq_true (decide (iv5 < (xv.length : Int))) with hb10 | hb10
      · replace hx9 := iteDT hb10 hx9
        obtain ⟨a38, ha38, hx9⟩ := bind_some hx9
        rcases Bool.eq_false_or_eq_true (decide (a38 = target)) with hb11 | hb11
        · replace hx9 := iteDT hb11 hx9
          refine AWP.region ?_
          refine AOps.move rfl rfl ?_
          refine AOps.move rfl rfl ?_
          refine AOps.move rfl rfl ?_
          refine AOps.lss rfl rfl rfl ?_
          refine AOps.move rfl rfl ?_
          refine AOps.guardT rfl rfl rfl hb10 ?_; refine AOps.move rfl rfl ?_
          refine AOps.guardT rfl rfl rfl hb10 ?_; refine AOps.move rfl rfl ?_
          refine AOps.guardT rfl rfl rfl hb10 ?_; refine S.idx ha38 rfl rfl rfl rfl ?_
          refine AOps.guardT rfl rfl rfl hb10 ?_; refine AOps.loadI rfl rfl rfl rfl ?_
          refine AOps.guardT rfl rfl rfl hb10 ?_; refine AOps.move rfl rfl ?_
          refine AOps.guardT rfl rfl rfl hb10 ?_; refine AOps.eql rfl rfl rfl ?_
          refine AOps.guardT rfl rfl rfl hb10 ?_; refine AOps.move rfl rfl ?_
          refine AOps.guardF rfl rfl rfl hb11 ?_
          refine AOps.guardF rfl rfl rfl hb11 ?_
          refine AOps.guardF rfl rfl rfl hb11 ?_
          refine AOps.guardF rfl rfl rfl hb11 ?_
          refine AOps.guardF rfl rfl rfl hb11 ?_
          refine AOps.guardF rfl rfl rfl hb11 ?_
          refine AOps.guardSkip rfl rfl rfl ?_
          refine AOps.guardSkip rfl rfl rfl ?_
          refine AOps.guardF rfl rfl rfl hb11 ?_
          refine AOps.guardT rfl rfl rfl hb10 ?_; refine AOps.pickT rfl hb11 rfl rfl ?_
          refine AOps.pickT rfl hb10 rfl rfl ?_
          refine AOps.assign rfl rfl ?_
          refine AOps.assign rfl rfl ?_
          refine AOps.nil ?_
          have ej := Option.some.inj hx9
          subst ej
          refine thn_normal ?_
          exact Sub.env ⟨rfl, rfl, trivial⟩
        · replace hx9 := iteDF hb11 hx9
          obtain ⟨a45, ha45, hx9⟩ := bind_some hx9
          obtain ⟨a47, ha47, hx9⟩ := bind_some hx9
          rcases Bool.eq_false_or_eq_true (a47) with hb12 | hb12
          · replace hx9 := iteBT hb12 hx9
            obtain ⟨a50, ha50, hx9⟩ := bind_some hx9
            refine AWP.region ?_
            refine AOps.move rfl rfl ?_
            refine AOps.move rfl rfl ?_
            refine AOps.move rfl rfl ?_
            refine AOps.lss rfl rfl rfl ?_
            refine AOps.move rfl rfl ?_
            refine AOps.guardT rfl rfl rfl hb10 ?_; refine AOps.move rfl rfl ?_
            refine AOps.guardT rfl rfl rfl hb10 ?_; refine AOps.move rfl rfl ?_
            refine AOps.guardT rfl rfl rfl hb10 ?_; refine S.idx ha38 rfl rfl rfl rfl ?_
            refine AOps.guardT rfl rfl rfl hb10 ?_; refine AOps.loadI rfl rfl rfl rfl ?_
            refine AOps.guardT rfl rfl rfl hb10 ?_; refine AOps.move rfl rfl ?_
            refine AOps.guardT rfl rfl rfl hb10 ?_; refine AOps.eql rfl rfl rfl ?_
            refine AOps.guardT rfl rfl rfl hb10 ?_; refine AOps.move rfl rfl ?_
            refine AOps.guardT rfl rfl rfl hb11 ?_; refine AOps.move rfl rfl ?_
            refine AOps.guardT rfl rfl rfl hb11 ?_; refine AOps.move rfl rfl ?_
            refine AOps.guardT rfl rfl rfl hb11 ?_; refine S.idx ha45 rfl rfl rfl rfl ?_
            refine AOps.guardT rfl rfl rfl hb11 ?_; refine AOps.loadI rfl rfl rfl rfl ?_
            refine AOps.guardT rfl rfl rfl hb11 ?_; refine AOps.callR rfl rfl rfl rfl (slices_isNaN_int_ok ha47) rfl ?_
            refine AOps.guardT rfl rfl rfl hb11 ?_; refine AOps.move rfl rfl ?_
            refine AOps.guardT rfl rfl rfl hb12 ?_; refine AOps.move rfl rfl ?_
            refine AOps.guardT rfl rfl rfl hb12 ?_; refine AOps.callR rfl rfl rfl rfl (slices_isNaN_int_ok ha50) rfl ?_
            refine AOps.guardT rfl rfl rfl hb11 ?_; refine AOps.pickT rfl hb12 rfl rfl ?_
            refine AOps.guardT rfl rfl rfl hb10 ?_; refine AOps.pickF rfl hb11 rfl rfl ?_
            refine AOps.pickT rfl hb10 rfl rfl ?_
            refine AOps.assign rfl rfl ?_
            refine AOps.assign rfl rfl ?_
            refine AOps.nil ?_
            have ej := Option.some.inj hx9
            subst ej
            refine thn_normal ?_
            exact Sub.env ⟨rfl, rfl, trivial⟩
          · replace hx9 := iteBF hb12 hx9
            refine AWP.region ?_
            refine AOps.move rfl rfl ?_
            refine AOps.move rfl rfl ?_
            refine AOps.move rfl rfl ?_
            refine AOps.lss rfl rfl rfl ?_
            refine AOps.move rfl rfl ?_
            refine AOps.guardT rfl rfl rfl hb10 ?_; refine AOps.move rfl rfl ?_
            refine AOps.guardT rfl rfl rfl hb10 ?_; refine AOps.move rfl rfl ?_
            refine AOps.guardT rfl rfl rfl hb10 ?_; refine S.idx ha38 rfl rfl rfl rfl ?_
            refine AOps.guardT rfl rfl rfl hb10 ?_; refine AOps.loadI rfl rfl rfl rfl ?_
            refine AOps.guardT rfl rfl rfl hb10 ?_; refine AOps.move rfl rfl ?_
            refine AOps.guardT rfl rfl rfl hb10 ?_; refine AOps.eql rfl rfl rfl ?_
            refine AOps.guardT rfl rfl rfl hb10 ?_; refine AOps.move rfl rfl ?_
            refine AOps.guardT rfl rfl rfl hb11 ?_; refine AOps.move rfl rfl ?_
            refine AOps.guardT rfl rfl rfl hb11 ?_; refine AOps.move rfl rfl ?_
            refine AOps.guardT rfl rfl rfl hb11 ?_; refine S.idx ha45 rfl rfl rfl rfl ?_
            refine AOps.guardT rfl rfl rfl hb11 ?_; refine AOps.loadI rfl rfl rfl rfl ?_
            refine AOps.guardT rfl rfl rfl hb11 ?_; refine AOps.callR rfl rfl rfl rfl (slices_isNaN_int_ok ha47) rfl ?_
            refine AOps.guardT rfl rfl rfl hb11 ?_; refine AOps.move rfl rfl ?_
            refine AOps.guardF rfl rfl rfl hb12 ?_
            refine AOps.guardF rfl rfl rfl hb12 ?_
            refine AOps.guardT rfl rfl rfl hb11 ?_; refine AOps.pickF rfl hb12 rfl rfl ?_
            refine AOps.guardT rfl rfl rfl hb10 ?_; refine AOps.pickF rfl hb11 rfl rfl ?_
            refine AOps.pickT rfl hb10 rfl rfl ?_
            refine AOps.assign rfl rfl ?_
            refine AOps.assign rfl rfl ?_
            refine AOps.nil ?_
            have ej := Option.some.inj hx9
            subst ej
            refine thn_normal ?_
            exact Sub.env ⟨rfl, rfl, trivial⟩
      · replace hx9 := iteDF hb10 hx9
        refine AWP.region ?_
        refine AOps.move rfl rfl ?_
        refine AOps.move rfl rfl ?_
        refine AOps.move rfl rfl ?_
        refine AOps.lss rfl rfl rfl ?_
        refine AOps.move rfl rfl ?_
        refine AOps.guardF rfl rfl rfl hb10 ?_
        refine AOps.guardF rfl rfl rfl hb10 ?_
        refine AOps.guardF rfl rfl rfl hb10 ?_
        refine AOps.guardF rfl rfl rfl hb10 ?_
        refine AOps.guardF rfl rfl rfl hb10 ?_
        refine AOps.guardF rfl rfl rfl hb10 ?_
        refine AOps.guardF rfl rfl rfl hb10 ?_
        refine AOps.guardSkip rfl rfl rfl ?_
        refine AOps.guardSkip rfl rfl rfl ?_
        refine AOps.guardSkip rfl rfl rfl ?_
        refine AOps.guardSkip rfl rfl rfl ?_
        refine AOps.guardSkip rfl rfl rfl ?_
        refine AOps.guardSkip rfl rfl rfl ?_
        refine AOps.guardSkip rfl rfl rfl ?_
        refine AOps.guardSkip rfl rfl rfl ?_
        refine AOps.guardSkip rfl rfl rfl ?_
        refine AOps.guardF rfl rfl rfl hb10 ?_
        refine AOps.pickF rfl hb10 rfl rfl ?_
        refine AOps.assign rfl rfl ?_
        refine AOps.assign rfl rfl ?_
        refine AOps.nil ?_
        have ej := Option.some.inj hx9
        subst ej
        refine thn_normal ?_
        exact Sub.env ⟨rfl, rfl, trivial⟩
    · refine AWP.ret ?_
      have ej := Option.some.inj h
      subst ej
      exact Done.ret rfl rfl
theorem strips_Meets_1_ok {xv : Int} {c2 : List Int} {r : Bool} (h : strips_Meets_1 xv c2 = some r) : PureOk Tryd.prog 54 [.c (int xv), .c (.imm (.ipt [.sl 1 (List.map intI c2)]))] (.c (bool r)) := by
  unfold PureOk
  refine FnOk.enter (rs := [.t 3]) Tryd.func54 rfl Tryd.ntmps54 Tryd.results54 rfl ⟨trivial, trivial⟩ (by kernel_rfl) rfl ?_
  unfold strips_Meets_1 at h
  refine AWP.seq ?_
  refine AWP.region ?_
  refine AOps.assign rfl rfl ?_
  refine AOps.nil ?_
  refine thn_normal ?_
  refine AWP.seq ?_
  obtain ⟨a9, ha9, h⟩ := bind_some h
  refine AWP.region ?_
  refine AOps.loadI rfl rfl rfl rfl ?_
  refine AOps.move rfl rfl ?_
  refine AOps.callR rfl rfl rfl rfl (slices_BinarySearch_int_int_ok ha9) rfl ?_
  refine AOps.move rfl rfl ?_
  refine AOps.extract rfl rfl rfl ?_
  refine AOps.extract rfl rfl rfl ?_
  refine AOps.assign rfl rfl ?_
  refine AOps.assign rfl rfl ?_
  refine AOps.nil ?_
  refine thn_normal ?_
  refine AWP.seq ?_
  refine AWP.region ?_
  refine AOps.move rfl rfl ?_
  refine AOps.assign rfl rfl ?_
  refine AOps.nil ?_
  refine thn_normal ?_
  refine AWP.ret ?_
  have ej := Option.some.inj h
  subst ej
  exact Done.ret rfl rfl
theorem slices_IndexFunc_int_int_ok {sv : List Int} {fv : Int → Option Bool} {r : Int} {fvfv : FuncId} {cvfv : List C} (hcvfv : C.okL 0 cvfv = true) (hfv : ∀ {y1 : Int} {z : Bool}, fv y1 = some z → PureOk Tryd.prog fvfv ([.c (int y1)] ++ cvfv.map T.c) (.c (bool z))) (h : slices_IndexFunc_int_int sv fv = some r) : PureOk Tryd.prog 60 [.c (row 1 intI sv), .c (.fn fvfv cvfv)] (.c (int r)) := by
  unfold PureOk
  refine FnOk.enter (rs := [.t 4]) Tryd.func60 rfl Tryd.ntmps60 Tryd.results60 rfl ⟨trivial, trivial⟩ (by kernel_rfl) rfl ?_
  unfold slices_IndexFunc_int_int at h
  refine AWP.seq ?_
  refine AWP.region ?_
  refine AOps.assign rfl rfl ?_
  refine AOps.nil ?_
  refine thn_normal ?_
  refine AWP.seq ?_
  refine AWP.seq ?_
  refine AWP.region ?_
  refine AOps.move rfl rfl ?_
  refine S.len rfl rfl (fun hl7 => ?_)
  refine AOps.move rfl rfl ?_
  refine AOps.nil ?_
  refine thn_normal ?_
  refine AWP.block ?_
  obtain ⟨oo, ho1, h⟩ := bind_some h
  refine AWP.rngS ho1 (fun t3 _ => ⟨[(0, .c (row 1 intI sv)), (1, .c (.fn fvfv cvfv)), (7, .c (int (sv.length : Int))), (8, .c (int t3))], []⟩) (fun o e st => match o with | .inl _ => e = .exit 0 ∧ Sub [] st ⟨[], []⟩ | .inr x => e = .ret ∧ Done [.t 4] (fun t _ => t = .c (int x)) .ret st) ?_ ?_ ?_ ?_
  · try dsimp only
    exact Sub.env ⟨rfl, rfl, rfl, rfl, trivial⟩
  · intro t3 s hlot3 hltt3 _
    try dsimp only
    refine AWP.seq ?_
    refine AWP.region ?_
    refine AOps.lss rfl rfl rfl ?_
    refine AOps.nil ?_
    refine thn_normal ?_
    refine AWP.seq ?_
    refine AWP.condNP rfl hltt3 ?_
    refine AWP.exit ?_
    refine thn_exit ?_
    refine thn_exit ⟨rfl, ?_⟩
    exact Sub.env trivial
  · intro t3 s o hlot3 hltt3 h
    unfold slices_IndexFunc_int_int_l1 at h
    try dsimp only at h ⊢
    refine AWP.seq ?_
    refine AWP.region ?_
    refine AOps.lss rfl rfl rfl ?_
    refine AOps.nil ?_
    refine thn_normal ?_
    refine AWP.seq ?_
    refine AWP.condP rfl hltt3 ?_
    refine AWP.skip ?_
    refine thn_normal ?_
    refine AWP.seq ?_
    refine AWP.block ?_
    refine AWP.seq ?_
    refine AWP.region ?_
    refine AOps.move rfl rfl ?_
    refine AOps.assign rfl rfl ?_
    refine AOps.nil ?_
    refine thn_normal ?_
    refine AWP.seq ?_
    obtain ⟨a14, ha14, h⟩ := bind_some h
    obtain ⟨a16, ha16, h⟩ := bind_some h
    refine AWP.region ?_
    refine AOps.move rfl rfl ?_
    refine AOps.move rfl rfl ?_
    refine AOps.move rfl rfl ?_
    refine S.idx ha14 rfl rfl rfl rfl ?_
    refine AOps.loadI rfl rfl rfl rfl ?_
    refine AOps.callR rfl rfl (okL_app rfl hcvfv) rfl (hfv ha16) rfl ?_
    refine AOps.nil ?_
    refine thn_normal ?_
    refine AWP.iteB rfl h (fun hc4 h => ?_) (fun hc4 h => ?_)
    · refine AWP.seq ?_
      refine AWP.region ?_
      refine AOps.move rfl rfl ?_
      refine AOps.assign rfl rfl ?_
      refine AOps.nil ?_
      refine thn_normal ?_
      refine AWP.ret ?_
      refine inB_ret ?_
      refine thn_ret ?_
      have ej := Option.some.inj h
      subst ej
      refine thn_ret ⟨_, rfl, rfl, ?_⟩
      exact Done.ret rfl rfl
    · refine AWP.skip ?_
      refine inB_normal ?_
      refine thn_normal ?_
      refine AWP.region ?_
      refine AOps.add rfl rfl rfl (by omega) ?_
      refine AOps.move rfl rfl ?_
      refine AOps.nil ?_
      have ej := Option.some.inj h
      subst ej
      refine thn_normal ⟨_, rfl, ?_⟩
      exact Sub.env ⟨rfl, rfl, rfl, rfl, trivial⟩
  · intro e s hq
    rcases oo with u | x
    · try dsimp only at h hq
      obtain ⟨rfl, hs⟩ := hq
      refine ⟨_, hs, ?_⟩
      refine inB_exit ?_
      refine thn_normal ?_
      refine AWP.seq ?_
      refine AWP.region ?_
      refine AOps.assign rfl rfl ?_
      refine AOps.nil ?_
      refine thn_normal ?_
      refine AWP.ret ?_
      have ej := Option.some.inj h
      subst ej
      exact Done.ret rfl rfl
    · try dsimp only at h hq
      obtain ⟨rfl, hs⟩ := hq
      refine ⟨_, Sub.refl _ _, ?_⟩
      refine inB_ret ?_
      refine thn_ret ?_
      have ej := Option.some.inj h
      subst ej
      exact hs
theorem slices_ContainsFunc_int_int_ok {sv : List Int} {fv : Int → Option Bool} {r : Bool} {fvfv : FuncId} {cvfv : List C} (hcvfv : C.okL 0 cvfv = true) (hfv : ∀ {y1 : Int} {z : Bool}, fv y1 = some z → PureOk Tryd.prog fvfv ([.c (int y1)] ++ cvfv.map T.c) (.c (bool z))) (h : slices_ContainsFunc_int_int sv fv = some r) : PureOk Tryd.prog 53 [.c (row 1 intI sv), .c (.fn fvfv cvfv)] (.c (bool r)) := by
  unfold PureOk
  refine FnOk.enter (rs := [.t 4]) Tryd.func53 rfl Tryd.ntmps53 Tryd.results53 rfl ⟨trivial, trivial⟩ (by kernel_rfl) rfl ?_
  unfold slices_ContainsFunc_int_int at h
  refine AWP.seq ?_
  refine AWP.region ?_
  refine AOps.assign rfl rfl ?_
  refine AOps.nil ?_
  refine thn_normal ?_
  refine AWP.seq ?_
  obtain ⟨a7, ha7, h⟩ := bind_some h
  refine AWP.region ?_
  refine AOps.move rfl rfl ?_
  refine AOps.move rfl rfl ?_
  refine AOps.callR rfl rfl (by simp [T.okL, T.ok, C.ok, C.okL, hcvfv]) rfl (slices_IndexFunc_int_int_ok hcvfv hfv ha7) rfl ?_
  refine AOps.geq rfl rfl rfl ?_
  refine AOps.assign rfl rfl ?_
  refine AOps.nil ?_
  refine thn_normal ?_
  refine AWP.ret ?_
  have ej := Option.some.inj h
  subst ej
  exact Done.ret rfl rfl
theorem strips_Meets_ok {av : List Int} {bv : List Int} {r : Bool} (h : strips_Meets av bv = some r) : PureOk Tryd.prog 45 [.c (row 1 intI av), .c (row 1 intI bv)] (.c (bool r)) := by
  unfold PureOk
  refine FnOk.enter (rs := [.t 4]) Tryd.func45 rfl Tryd.ntmps45 Tryd.results45 rfl ⟨trivial, trivial⟩ (by kernel_rfl) rfl ?_
  unfold strips_Meets at h
  refine AWP.seq ?_
  refine AWP.region ?_
  refine W.box rfl rfl rfl rfl rfl rfl ?_
  refine AOps.assign rfl rfl ?_
  refine AOps.nil ?_
  refine thn_normal ?_
  refine AWP.seq ?_
  obtain ⟨a7, ha7, h⟩ := bind_some h
  refine AWP.region ?_
  refine AOps.move rfl rfl ?_
  refine AOps.makeFunc rfl rfl ?_
  refine AOps.callL rfl rfl (.cons (.c .imm) (.cons (.c (.fn (.cons (.ptr (es := [.sl 1 (List.map intI bv)]) rfl rfl (.cons .imm .nil)) .nil))) .nil)) rfl (slices_ContainsFunc_int_int_ok rfl (fun hy => strips_Meets_1_ok hy) ha7) rfl ?_
  refine AOps.assign rfl rfl ?_
  refine AOps.nil ?_
  refine thn_normal ?_
  refine AWP.ret ?_
  have ej := Option.some.inj h
  subst ej
  exact Done.ret rfl rfl
theorem strips_operator_ok {ov : TOperator} {facts : Int} {r : Int} (h : strips_operator ov facts = some r) : PureOk Tryd.prog 48 [.agg [row 1 intI ov.pre, row 1 intI ov.add, row 1 intI ov.del, int ov.cost], .c (int facts)] (.c (int r)) := by
  unfold PureOk
  refine FnOk.enter (rs := [.t 4]) Tryd.func48 rfl Tryd.ntmps48 Tryd.results48 rfl ⟨trivial, trivial⟩ (by kernel_rfl) rfl ?_
  unfold strips_operator at h
  refine AWP.seq ?_
  refine AWP.region ?_
  refine W.box rfl rfl rfl rfl rfl rfl ?_
  refine AOps.assign rfl rfl ?_
  refine AOps.nil ?_
  refine thn_normal ?_
  refine AWP.seq ?_
  refine AWP.block ?_
  obtain ⟨t3, hx4, h⟩ := bind_some h
  refine AWP.seqJ (⟨[(2, .c (.ptr 0 0 0)), (5, .c (bool t3))], [.one (.cells 4 [[row 1 intI ov.pre, row 1 intI ov.add, row 1 intI ov.del, int ov.cost]])]⟩) ?_ ?_
  · obtain ⟨a9, ha9, hx4⟩ := bind_some hx4
    rcases Bool.eq_false_or_eq_true (!a9) with hb5 | hb5
    · replace hx4 := iteBT hb5 hx4
      refine AWP.region ?_
      refine W.fieldAddr rfl rfl rfl rfl ?_
      refine AOps.load rfl rfl rfl rfl rfl rfl ?_
      refine AOps.move rfl rfl ?_
      refine AOps.callR rfl rfl rfl rfl (strips_IsSet_ok ha9) rfl ?_
      refine AOps.not rfl rfl ?_
      refine AOps.move rfl rfl ?_
      refine AOps.guardF rfl rfl rfl hb5 ?_
      refine AOps.guardF rfl rfl rfl hb5 ?_
      refine AOps.guardF rfl rfl rfl hb5 ?_
      refine AOps.guardF rfl rfl rfl hb5 ?_
      refine AOps.guardF rfl rfl rfl hb5 ?_
      refine AOps.pickT rfl hb5 rfl rfl ?_
      refine AOps.move rfl rfl ?_
      refine AOps.guardF rfl rfl rfl rfl ?_
      refine AOps.guardF rfl rfl rfl rfl ?_
      refine AOps.guardF rfl rfl rfl rfl ?_
      refine AOps.guardF rfl rfl rfl rfl ?_
      refine AOps.guardF rfl rfl rfl rfl ?_
      refine AOps.pickT rfl rfl rfl rfl ?_
      refine AOps.move rfl rfl ?_
      refine AOps.guardF rfl rfl rfl rfl ?_
      refine AOps.guardF rfl rfl rfl rfl ?_
      refine AOps.guardF rfl rfl rfl rfl ?_
      refine AOps.guardF rfl rfl rfl rfl ?_
      refine AOps.guardF rfl rfl rfl rfl ?_
      refine AOps.pickT rfl rfl rfl rfl ?_
      refine AOps.assign rfl rfl ?_
      refine AOps.nil ?_
      have ej := Option.some.inj hx4
      subst ej
      refine thn_normal ?_
      exact Sub.env ⟨rfl, rfl, trivial⟩
    · replace hx4 := iteBF hb5 hx4
      obtain ⟨a15, ha15, hx4⟩ := bind_some hx4
      rcases Bool.eq_false_or_eq_true (!a15) with hb6 | hb6
      · replace hx4 := iteBT hb6 hx4
        refine AWP.region ?_
        refine W.fieldAddr rfl rfl rfl rfl ?_
        refine AOps.load rfl rfl rfl rfl rfl rfl ?_
        refine AOps.move rfl rfl ?_
        refine AOps.callR rfl rfl rfl rfl (strips_IsSet_ok ha9) rfl ?_
        refine AOps.not rfl rfl ?_
        refine AOps.move rfl rfl ?_
        refine AOps.guardT rfl rfl rfl hb5 ?_; refine W.fieldAddr rfl rfl rfl rfl ?_
        refine AOps.guardT rfl rfl rfl hb5 ?_; refine AOps.load rfl rfl rfl rfl rfl rfl ?_
        refine AOps.guardT rfl rfl rfl hb5 ?_; refine AOps.move rfl rfl ?_
        refine AOps.guardT rfl rfl rfl hb5 ?_; refine AOps.callR rfl rfl rfl rfl (strips_IsSet_ok ha15) rfl ?_
        refine AOps.guardT rfl rfl rfl hb5 ?_; refine AOps.not rfl rfl ?_
        refine AOps.pickF rfl hb5 rfl rfl ?_
        refine AOps.move rfl rfl ?_
        refine AOps.guardF rfl rfl rfl hb6 ?_
        refine AOps.guardF rfl rfl rfl hb6 ?_
        refine AOps.guardF rfl rfl rfl hb6 ?_
        refine AOps.guardF rfl rfl rfl hb6 ?_
        refine AOps.guardF rfl rfl rfl hb6 ?_
        refine AOps.pickT rfl hb6 rfl rfl ?_
        refine AOps.move rfl rfl ?_
        refine AOps.guardF rfl rfl rfl rfl ?_
        refine AOps.guardF rfl rfl rfl rfl ?_
        refine AOps.guardF rfl rfl rfl rfl ?_
        refine AOps.guardF rfl rfl rfl rfl ?_
        refine AOps.guardF rfl rfl rfl rfl ?_
        refine AOps.pickT rfl rfl rfl rfl ?_
        refine AOps.assign rfl rfl ?_
        refine AOps.nil ?_
        have ej := Option.some.inj hx4
        subst ej
        refine thn_normal ?_
        exact Sub.env ⟨rfl, rfl, trivial⟩
      · replace hx4 := iteBF hb6 hx4
        obtain ⟨a22, ha22, hx4⟩ := bind_some hx4
        rcases Bool.eq_false_or_eq_true (!a22) with hb7 | hb7
        · replace hx4 := iteBT hb7 hx4
          refine AWP.region ?_
          refine W.fieldAddr rfl rfl rfl rfl ?_
          refine AOps.load rfl rfl rfl rfl rfl rfl ?_
          refine AOps.move rfl rfl ?_
          refine AOps.callR rfl rfl rfl rfl (strips_IsSet_ok ha9) rfl ?_
          refine AOps.not rfl rfl ?_
          refine AOps.move rfl rfl ?_
          refine AOps.guardT rfl rfl rfl hb5 ?_; refine W.fieldAddr rfl rfl rfl rfl ?_
          refine AOps.guardT rfl rfl rfl hb5 ?_; refine AOps.load rfl rfl rfl rfl rfl rfl ?_
          refine AOps.guardT rfl rfl rfl hb5 ?_; refine AOps.move rfl rfl ?_
          refine AOps.guardT rfl rfl rfl hb5 ?_; refine AOps.callR rfl rfl rfl rfl (strips_IsSet_ok ha15) rfl ?_
          refine AOps.guardT rfl rfl rfl hb5 ?_; refine AOps.not rfl rfl ?_
          refine AOps.pickF rfl hb5 rfl rfl ?_
          refine AOps.move rfl rfl ?_
          refine AOps.guardT rfl rfl rfl hb6 ?_; refine W.fieldAddr rfl rfl rfl rfl ?_
          refine AOps.guardT rfl rfl rfl hb6 ?_; refine AOps.load rfl rfl rfl rfl rfl rfl ?_
          refine AOps.guardT rfl rfl rfl hb6 ?_; refine AOps.move rfl rfl ?_
          refine AOps.guardT rfl rfl rfl hb6 ?_; refine AOps.callR rfl rfl rfl rfl (strips_IsSet_ok ha22) rfl ?_
          refine AOps.guardT rfl rfl rfl hb6 ?_; refine AOps.not rfl rfl ?_
          refine AOps.pickF rfl hb6 rfl rfl ?_
          refine AOps.move rfl rfl ?_
          refine AOps.guardF rfl rfl rfl hb7 ?_
          refine AOps.guardF rfl rfl rfl hb7 ?_
          refine AOps.guardF rfl rfl rfl hb7 ?_
          refine AOps.guardF rfl rfl rfl hb7 ?_
          refine AOps.guardF rfl rfl rfl hb7 ?_
          refine AOps.pickT rfl hb7 rfl rfl ?_
          refine AOps.assign rfl rfl ?_
          refine AOps.nil ?_
          have ej := Option.some.inj hx4
          subst ej
          refine thn_normal ?_
          exact Sub.env ⟨rfl, rfl, trivial⟩
        · replace hx4 := iteBF hb7 hx4
          obtain ⟨a30, ha30, hx4⟩ := bind_some hx4
          refine AWP.region ?_
          refine W.fieldAddr rfl rfl rfl rfl ?_
          refine AOps.load rfl rfl rfl rfl rfl rfl ?_
          refine AOps.move rfl rfl ?_
          refine AOps.callR rfl rfl rfl rfl (strips_IsSet_ok ha9) rfl ?_
          refine AOps.not rfl rfl ?_
          refine AOps.move rfl rfl ?_
          refine AOps.guardT rfl rfl rfl hb5 ?_; refine W.fieldAddr rfl rfl rfl rfl ?_
          refine AOps.guardT rfl rfl rfl hb5 ?_; refine AOps.load rfl rfl rfl rfl rfl rfl ?_
          refine AOps.guardT rfl rfl rfl hb5 ?_; refine AOps.move rfl rfl ?_
          refine AOps.guardT rfl rfl rfl hb5 ?_; refine AOps.callR rfl rfl rfl rfl (strips_IsSet_ok ha15) rfl ?_
          refine AOps.guardT rfl rfl rfl hb5 ?_; refine AOps.not rfl rfl ?_
          refine AOps.pickF rfl hb5 rfl rfl ?_
          refine AOps.move rfl rfl ?_
          refine AOps.guardT rfl rfl rfl hb6 ?_; refine W.fieldAddr rfl rfl rfl rfl ?_
          refine AOps.guardT rfl rfl rfl hb6 ?_; refine AOps.load rfl rfl rfl rfl rfl rfl ?_
          refine AOps.guardT rfl rfl rfl hb6 ?_; refine AOps.move rfl rfl ?_
          refine AOps.guardT rfl rfl rfl hb6 ?_; refine AOps.callR rfl rfl rfl rfl (strips_IsSet_ok ha22) rfl ?_
          refine AOps.guardT rfl rfl rfl hb6 ?_; refine AOps.not rfl rfl ?_
          refine AOps.pickF rfl hb6 rfl rfl ?_
          refine AOps.move rfl rfl ?_
          refine AOps.guardT rfl rfl rfl hb7 ?_; refine W.fieldAddr rfl rfl rfl rfl ?_
          refine AOps.guardT rfl rfl rfl hb7 ?_; refine AOps.load rfl rfl rfl rfl rfl rfl ?_
          refine AOps.guardT rfl rfl rfl hb7 ?_; refine W.fieldAddr rfl rfl rfl rfl ?_
          refine AOps.guardT rfl rfl rfl hb7 ?_; refine AOps.load rfl rfl rfl rfl rfl rfl ?_
          refine AOps.guardT rfl rfl rfl hb7 ?_; refine AOps.callR rfl rfl rfl rfl (strips_Meets_ok ha30) rfl ?_
          refine AOps.pickF rfl hb7 rfl rfl ?_
          refine AOps.assign rfl rfl ?_
          refine AOps.nil ?_
          have ej := Option.some.inj hx4
          subst ej
          refine thn_normal ?_
          exact Sub.env ⟨rfl, rfl, trivial⟩
  · refine AWP.iteB rfl h (fun hc8 h => ?_) (fun hc8 h => ?_)
    · refine AWP.seq ?_
      refine AWP.region ?_
      refine AOps.assign rfl rfl ?_
      refine AOps.nil ?_
      refine thn_normal ?_
      refine AWP.ret ?_
      refine inB_ret ?_
      refine thn_ret ?_
      have ej := Option.some.inj h
      subst ej
      exact Done.ret rfl rfl
    · refine AWP.seqJ (⟨[(32, .c (bool ((decide (ov.cost < 0)) || (decide (100 < ov.cost)))))], [.one (.cells 4 [[row 1 intI ov.pre, row 1 intI ov.add, row 1 intI ov.del, int ov.cost]])]⟩) ?_ ?_
      · rcases Bool.eq_false_or_eq_true (decide (ov.cost < 0)) with hb1 | hb1
        · refine AWP.region ?_
          refine W.fieldAddr rfl rfl rfl rfl ?_
          refine AOps.load rfl rfl rfl rfl rfl rfl ?_
          refine AOps.lss rfl rfl rfl ?_
          refine AOps.move rfl rfl ?_
          refine AOps.guardF rfl rfl rfl hb1 ?_
          refine AOps.guardF rfl rfl rfl hb1 ?_
          refine AOps.guardF rfl rfl rfl hb1 ?_
          refine AOps.pickT rfl hb1 rfl rfl ?_
          refine AOps.assign rfl rfl ?_
          refine AOps.nil ?_
          refine thn_normal ?_
          simp only [and_t hb1, or_t hb1, Bool.false_or, Bool.true_or, Bool.false_and, Bool.true_and]
          exact Sub.env ⟨rfl, trivial⟩
        · refine AWP.region ?_
          refine W.fieldAddr rfl rfl rfl rfl ?_
          refine AOps.load rfl rfl rfl rfl rfl rfl ?_
          refine AOps.lss rfl rfl rfl ?_
          refine AOps.move rfl rfl ?_
          refine AOps.guardT rfl rfl rfl hb1 ?_; refine W.fieldAddr rfl rfl rfl rfl ?_
          refine AOps.guardT rfl rfl rfl hb1 ?_; refine AOps.load rfl rfl rfl rfl rfl rfl ?_
          refine AOps.guardT rfl rfl rfl hb1 ?_; refine AOps.gtr rfl rfl rfl ?_
          refine AOps.pickF rfl hb1 rfl rfl ?_
          refine AOps.assign rfl rfl ?_
          refine AOps.nil ?_
          refine thn_normal ?_
          simp only [and_f hb1, or_f hb1, Bool.false_or, Bool.true_or, Bool.false_and, Bool.true_and]
          exact Sub.env ⟨rfl, trivial⟩
      · refine AWP.iteB rfl h (fun hc9 h => ?_) (fun hc9 h => ?_)
        · refine AWP.seq ?_
          refine AWP.region ?_
          refine AOps.assign rfl rfl ?_
          refine AOps.nil ?_
          refine thn_normal ?_
          refine AWP.ret ?_
          refine inB_ret ?_
          refine thn_ret ?_
          have ej := Option.some.inj h
          subst ej
          exact Done.ret rfl rfl
        · refine AWP.skip ?_
          refine inB_normal ?_
          refine thn_normal ?_
          refine AWP.seq ?_
          refine AWP.region ?_
          refine AOps.assign rfl rfl ?_
          refine AOps.nil ?_
          refine thn_normal ?_
          refine AWP.ret ?_
          have ej := Option.some.inj h
          subst ej
          exact Done.ret rfl rfl
theorem strips_Validate_ok {t : TTask} {r : TFault} (h : strips_Validate t = some r) : PureOk Tryd.prog 39 [.agg [int t.facts, row 1 intI t.init, row 1 intI t.goal, row 4 eTOperator t.operators]] (.agg [int r.code, int r.index]) := by
  unfold PureOk
  refine FnOk.enter (rs := [.cell 2 28 2]) Tryd.func39 rfl Tryd.ntmps39 Tryd.results39 rfl ⟨rv _ rfl, trivial⟩ (by kernel_rfl) rfl ?_
  unfold strips_Validate at h
  refine AWP.seq ?_
  refine AWP.region ?_
  refine W.box rfl rfl rfl rfl rfl rfl ?_
  refine W.alloc rfl rfl rfl rfl ?_
  refine AOps.nil ?_
  refine thn_normal ?_
  refine AWP.seq ?_
  refine AWP.block ?_
  refine AWP.seqJ (⟨[(1, .c (.ptr 0 0 0)), (2, .c (.ptr 1 0 0)), (6, .c (bool ((decide (t.facts < 0)) || (decide (24 < t.facts)))))], [.one (.cells 4 [[int t.facts, row 1 intI t.init, row 1 intI t.goal, row 4 eTOperator t.operators]]), .one (.cells 2 [[int 0, int 0]])]⟩) ?_ ?_
  · rcases Bool.eq_false_or_eq_true (decide (t.facts < 0)) with hb1 | hb1
    · refine AWP.region ?_
      refine W.fieldAddr rfl rfl rfl rfl ?_
      refine AOps.load rfl rfl rfl rfl rfl rfl ?_
      refine AOps.lss rfl rfl rfl ?_
      refine AOps.move rfl rfl ?_
      refine AOps.guardF rfl rfl rfl hb1 ?_
      refine AOps.guardF rfl rfl rfl hb1 ?_
      refine AOps.guardF rfl rfl rfl hb1 ?_
      refine AOps.pickT rfl hb1 rfl rfl ?_
      refine AOps.assign rfl rfl ?_
      refine AOps.nil ?_
      refine thn_normal ?_
      simp only [and_t hb1, or_t hb1, Bool.false_or, Bool.true_or, Bool.false_and, Bool.true_and]
      exact Sub.env ⟨rfl, rfl, rfl, trivial⟩
    · refine AWP.region ?_
      refine W.fieldAddr rfl rfl rfl rfl ?_
      refine AOps.load rfl rfl rfl rfl rfl rfl ?_
      refine AOps.lss rfl rfl rfl ?_
      refine AOps.move rfl rfl ?_
      refine AOps.guardT rfl rfl rfl hb1 ?_; refine W.fieldAddr rfl rfl rfl rfl ?_
      refine AOps.guardT rfl rfl rfl hb1 ?_; refine AOps.load rfl rfl rfl rfl rfl rfl ?_
      refine AOps.guardT rfl rfl rfl hb1 ?_; refine AOps.gtr rfl rfl rfl ?_
      refine AOps.pickF rfl hb1 rfl rfl ?_
      refine AOps.assign rfl rfl ?_
      refine AOps.nil ?_
      refine thn_normal ?_
      simp only [and_f hb1, or_f hb1, Bool.false_or, Bool.true_or, Bool.false_and, Bool.true_and]
      exact Sub.env ⟨rfl, rfl, rfl, trivial⟩
  · refine AWP.iteB rfl h (fun hc2 h => ?_) (fun hc2 h => ?_)
    · refine AWP.seq ?_
      refine AWP.region ?_
      refine W.build rfl rfl rfl rfl ?_
      refine W.storeAgg rfl rfl rfl rfl rfl rfl rfl ?_
      refine AOps.nil ?_
      refine thn_normal ?_
      refine AWP.ret ?_
      refine inB_ret ?_
      refine thn_ret ?_
      have ej := Option.some.inj h
      subst ej
      exact Done.ret rfl rfl
    · refine AWP.seq ?_
      obtain ⟨a21, ha21, h⟩ := bind_some h
      refine AWP.region ?_
      refine W.fieldAddr rfl rfl rfl rfl ?_
      refine AOps.load rfl rfl rfl rfl rfl rfl ?_
      refine W.fieldAddr rfl rfl rfl rfl ?_
      refine AOps.load rfl rfl rfl rfl rfl rfl ?_
      refine AOps.callR rfl rfl rfl rfl (strips_IsSet_ok ha21) rfl ?_
      refine AOps.not rfl rfl ?_
      refine AOps.assign rfl rfl ?_
      refine AOps.nil ?_
      refine thn_normal ?_
      refine AWP.iteB rfl h (fun hc3 h => ?_) (fun hc3 h => ?_)
      · refine AWP.seq ?_
        refine AWP.region ?_
        refine W.build rfl rfl rfl rfl ?_
        refine W.storeAgg rfl rfl rfl rfl rfl rfl rfl ?_
        refine AOps.nil ?_
        refine thn_normal ?_
        refine AWP.ret ?_
        refine inB_ret ?_
        refine thn_ret ?_
        have ej := Option.some.inj h
        subst ej
        exact Done.ret rfl rfl
      · refine AWP.seq ?_
        obtain ⟨a29, ha29, h⟩ := bind_some h
        refine AWP.region ?_
        refine W.fieldAddr rfl rfl rfl rfl ?_
        refine AOps.load rfl rfl rfl rfl rfl rfl ?_
        refine W.fieldAddr rfl rfl rfl rfl ?_
        refine AOps.load rfl rfl rfl rfl rfl rfl ?_
        refine AOps.callR rfl rfl rfl rfl (strips_IsSet_ok ha29) rfl ?_
        refine AOps.not rfl rfl ?_
        refine AOps.assign rfl rfl ?_
        refine AOps.nil ?_
        refine thn_normal ?_
        refine AWP.iteB rfl h (fun hc4 h => ?_) (fun hc4 h => ?_)
        · refine AWP.seq ?_
          refine AWP.region ?_
          refine W.build rfl rfl rfl rfl ?_
          refine W.storeAgg rfl rfl rfl rfl rfl rfl rfl ?_
          refine AOps.nil ?_
          refine thn_normal ?_
          refine AWP.ret ?_
          refine inB_ret ?_
          refine thn_ret ?_
          have ej := Option.some.inj h
          subst ej
          exact Done.ret rfl rfl
        · refine AWP.seq ?_
          refine AWP.region ?_
          refine W.fieldAddr rfl rfl rfl rfl ?_
          refine AOps.load rfl rfl rfl rfl rfl rfl ?_
          refine S.len rfl rfl (fun hl35 => ?_)
          refine AOps.gtr rfl rfl rfl ?_
          refine AOps.assign rfl rfl ?_
          refine AOps.nil ?_
          refine thn_normal ?_
          refine AWP.ite rfl h (fun hc5 h => ?_) (fun hc5 h => ?_)
          · refine AWP.seq ?_
            refine AWP.region ?_
            refine W.build rfl rfl rfl rfl ?_
            refine W.storeAgg rfl rfl rfl rfl rfl rfl rfl ?_
            refine AOps.nil ?_
            refine thn_normal ?_
            refine AWP.ret ?_
            refine inB_ret ?_
            refine thn_ret ?_
            have ej := Option.some.inj h
            subst ej
            exact Done.ret rfl rfl
          · refine AWP.skip ?_
            refine inB_normal ?_
            refine thn_normal ?_
            refine AWP.seq ?_
            refine AWP.seq ?_
            refine AWP.region ?_
            refine W.fieldAddr rfl rfl rfl rfl ?_
            refine AOps.load rfl rfl rfl rfl rfl rfl ?_
            refine S.len rfl rfl (fun hl40 => ?_)
            refine AOps.move rfl rfl ?_
            refine AOps.nil ?_
            refine thn_normal ?_
            refine AWP.block ?_
            obtain ⟨oo, ho1, h⟩ := bind_some h
            refine AWP.rngS ho1 (fun t6 _ => ⟨[(1, .c (.ptr 0 0 0)), (2, .c (.ptr 1 0 0)), (39, .c (row 4 eTOperator t.operators)), (40, .c (int (t.operators.length : Int))), (41, .c (int t6))], [.one (.cells 4 [[int t.facts, row 1 intI t.init, row 1 intI t.goal, row 4 eTOperator t.operators]]), .one (.cells 2 [[int 0, int 0]])]⟩) (fun o e st => match o with | .inl _ => e = .exit 1 ∧ Sub [] st ⟨[(2, .c (.ptr 1 0 0))], [.one (.cells 4 [[int t.facts, row 1 intI t.init, row 1 intI t.goal, row 4 eTOperator t.operators]]), .one (.cells 2 [[int 0, int 0]])]⟩ | .inr x => e = .ret ∧ Done [.cell 2 28 2] (fun t _ => t = .agg [int x.code, int x.index]) .ret st) ?_ ?_ ?_ ?_
            · try dsimp only
              exact Sub.env ⟨rfl, rfl, rfl, rfl, rfl, trivial⟩
            · intro t6 s hlot6 hltt6 _
              try dsimp only
              refine AWP.seq ?_
              refine AWP.region ?_
              refine AOps.lss rfl rfl rfl ?_
              refine AOps.nil ?_
              refine thn_normal ?_
              refine AWP.seq ?_
              refine AWP.condNP rfl hltt6 ?_
              refine AWP.exit ?_
              refine thn_exit ?_
              refine thn_exit ⟨rfl, ?_⟩
              exact Sub.env ⟨rfl, trivial⟩
            · intro t6 s o hlot6 hltt6 h
              unfold strips_Validate_l1 at h
              try dsimp only at h ⊢
              refine AWP.seq ?_
              refine AWP.region ?_
              refine AOps.lss rfl rfl rfl ?_
              refine AOps.nil ?_
              refine thn_normal ?_
              refine AWP.seq ?_
              refine AWP.condP rfl hltt6 ?_
              refine AWP.skip ?_
              refine thn_normal ?_
              refine AWP.seq ?_
              refine AWP.block ?_
              refine AWP.seq ?_
              obtain ⟨a44, ha44, h⟩ := bind_some h
              refine AWP.region ?_
              refine AOps.move rfl rfl ?_
              refine S.idx ha44 rfl rfl rfl rfl ?_
              refine W.loadIAgg rfl rfl rfl rfl rfl ?_
              refine W.alloc rfl rfl rfl rfl ?_
              refine AOps.assign rfl rfl ?_
              refine W.storeAgg rfl rfl rfl rfl rfl rfl rfl ?_
              refine AOps.nil ?_
              refine thn_normal ?_
              refine AWP.seq ?_
              obtain ⟨a49, ha49, h⟩ := bind_some h
              refine AWP.region ?_
              refine W.loadAgg rfl rfl rfl rfl rfl rfl rfl ?_
              refine W.fieldAddr rfl rfl rfl rfl ?_
              refine AOps.load rfl rfl rfl rfl rfl rfl ?_
              refine AOps.callR rfl rfl rfl rfl (strips_operator_ok ha49) rfl ?_
              refine AOps.assign rfl rfl ?_
              refine AOps.nil ?_
              refine thn_normal ?_
              refine AWP.seq ?_
              refine AWP.region ?_
              refine AOps.move rfl rfl ?_
              refine AOps.neq rfl rfl rfl ?_
              refine AOps.nil ?_
              refine thn_normal ?_
              refine AWP.iteN rfl h (fun hc7 h => ?_) (fun hc7 h => ?_)
              · refine AWP.seq ?_
                refine AWP.region ?_
                refine AOps.move rfl rfl ?_
                refine AOps.move rfl rfl ?_
                refine W.build rfl rfl rfl rfl ?_
                refine W.storeAgg rfl rfl rfl rfl rfl rfl rfl ?_
                refine AOps.nil ?_
                refine thn_normal ?_
                refine AWP.ret ?_
                refine inB_ret ?_
                refine thn_ret ?_
                have ej := Option.some.inj h
                subst ej
                refine thn_ret ⟨_, rfl, rfl, ?_⟩
                exact Done.ret rfl rfl
              · refine AWP.skip ?_
                refine inB_normal ?_
                refine thn_normal ?_
                refine AWP.region ?_
                refine AOps.add rfl rfl rfl (by omega) ?_
                refine AOps.move rfl rfl ?_
                refine AOps.nil ?_
                have ej := Option.some.inj h
                subst ej
                refine thn_normal ⟨_, rfl, ?_⟩
                exact Sub.cut ⟨rfl, rfl, rfl, rfl, rfl, trivial⟩ rfl ⟨.one rfl, .one rfl, trivial⟩ rfl
            · intro e s hq
              rcases oo with u | x
              · try dsimp only at h hq
                obtain ⟨rfl, hs⟩ := hq
                refine ⟨_, hs, ?_⟩
                refine inB_exit ?_
                refine thn_normal ?_
                refine AWP.seq ?_
                refine AWP.region ?_
                refine W.build rfl rfl rfl rfl ?_
                refine W.storeAgg rfl rfl rfl rfl rfl rfl rfl ?_
                refine AOps.nil ?_
                refine thn_normal ?_
                refine AWP.ret ?_
                have ej := Option.some.inj h
                subst ej
                exact Done.ret rfl rfl
              · try dsimp only at h hq
                obtain ⟨rfl, hs⟩ := hq
                refine ⟨_, Sub.refl _ _, ?_⟩
                refine inB_ret ?_
                refine thn_ret ?_
                have ej := Option.some.inj h
                subst ej
                exact hs
theorem merging_check_ok {t : TTask} {goals : List (List Int)} {plans : List (List Int)} {r : TFault} (h : merging_check t goals plans = some r) : PureOk Tryd.prog 23 [.agg [int t.facts, row 1 intI t.init, row 1 intI t.goal, row 4 eTOperator t.operators], .c (row 1 eLi64 goals), .c (row 1 eLi64 plans)] (.agg [int r.code, int r.index]) := by
  unfold PureOk
  refine FnOk.enter (rs := [.cell 6 28 2]) Tryd.func23 rfl Tryd.ntmps23 Tryd.results23 rfl ⟨rv _ rfl, trivial⟩ (by kernel_rfl) rfl ?_
  unfold merging_check at h
  refine AWP.seq ?_
  refine AWP.region ?_
  refine W.box rfl rfl rfl rfl rfl rfl ?_
  refine W.alloc rfl rfl rfl rfl ?_
  refine AOps.nil ?_
  refine thn_normal ?_
  refine AWP.seq ?_
  refine AWP.seq ?_
  obtain ⟨a15, ha15, h⟩ := bind_some h
  refine AWP.region ?_
  refine W.loadAgg rfl rfl rfl rfl rfl rfl rfl ?_
  refine AOps.callR rfl rfl rfl rfl (strips_Validate_ok ha15) rfl ?_
  refine W.alloc rfl rfl rfl rfl ?_
  refine W.storeAgg rfl rfl rfl rfl rfl rfl rfl ?_
  refine AOps.nil ?_
  refine thn_normal ?_
  refine AWP.seq ?_
  refine AWP.region ?_
  refine W.loadAgg rfl rfl rfl rfl rfl rfl rfl ?_
  refine W.build rfl rfl rfl rfl ?_
  refine AOps.neqP rfl rfl rfl rfl rfl rfl rfl ?_
  refine AOps.nil ?_
  refine thn_normal ?_
  refine AWP.iteB rfl h (fun hc4 h => ?_) (fun hc4 h => ?_)
  · refine AWP.seq ?_
    refine AWP.region ?_
    refine W.loadAgg rfl rfl rfl rfl rfl rfl rfl ?_
    refine W.storeAgg rfl rfl rfl rfl rfl rfl rfl ?_
    refine AOps.nil ?_
    refine thn_normal ?_
    refine AWP.ret ?_
    refine thn_ret ?_
    have ej := Option.some.inj h
    subst ej
    exact Done.ret rfl rfl
  · refine AWP.skip ?_
    refine thn_normal ?_
    refine AWP.seq ?_
    refine AWP.block ?_
    refine AWP.seqJ (⟨[(1, .c (row 1 eLi64 goals)), (2, .c (row 1 eLi64 plans)), (3, .c (.ptr 0 0 0)), (6, .c (.ptr 1 0 0)), (20, .c (bool ((decide ((plans.length : Int) = 0)) || (decide (4 < (plans.length : Int))))))], [.one (.cells 4 [[int t.facts, row 1 intI t.init, row 1 intI t.goal, row 4 eTOperator t.operators]]), .one (.cells 2 [[int 0, int 0]]), .one (.cells 2 [[int a15.code, int a15.index]])]⟩) ?_ ?_
    · rcases Bool.eq_false_or_eq_true (decide ((plans.length : Int) = 0)) with hb1 | hb1
      · refine AWP.region ?_
        refine AOps.move rfl rfl ?_
        refine S.len rfl rfl (fun hl22 => ?_)
        refine AOps.eql rfl rfl rfl ?_
        refine AOps.move rfl rfl ?_
        refine AOps.guardF rfl rfl rfl hb1 ?_
        refine AOps.guardF rfl rfl rfl hb1 ?_
        refine AOps.guardF rfl rfl rfl hb1 ?_
        refine AOps.pickT rfl hb1 rfl rfl ?_
        refine AOps.assign rfl rfl ?_
        refine AOps.nil ?_
        refine thn_normal ?_
        simp only [and_t hb1, or_t hb1, Bool.false_or, Bool.true_or, Bool.false_and, Bool.true_and]
        exact Sub.env ⟨rfl, rfl, rfl, rfl, rfl, trivial⟩
      · refine AWP.region ?_
        refine AOps.move rfl rfl ?_
        refine S.len rfl rfl (fun hl22 => ?_)
        refine AOps.eql rfl rfl rfl ?_
        refine AOps.move rfl rfl ?_
        refine AOps.guardT rfl rfl rfl hb1 ?_; refine AOps.move rfl rfl ?_
        refine AOps.guardT rfl rfl rfl hb1 ?_; refine S.len rfl rfl (fun hl26 => ?_)
        refine AOps.guardT rfl rfl rfl hb1 ?_; refine AOps.gtr rfl rfl rfl ?_
        refine AOps.pickF rfl hb1 rfl rfl ?_
        refine AOps.assign rfl rfl ?_
        refine AOps.nil ?_
        refine thn_normal ?_
        simp only [and_f hb1, or_f hb1, Bool.false_or, Bool.true_or, Bool.false_and, Bool.true_and]
        exact Sub.env ⟨rfl, rfl, rfl, rfl, rfl, trivial⟩
    · refine AWP.iteB rfl h (fun hc5 h => ?_) (fun hc5 h => ?_)
      · refine AWP.seq ?_
        refine AWP.region ?_
        refine W.build rfl rfl rfl rfl ?_
        refine W.storeAgg rfl rfl rfl rfl rfl rfl rfl ?_
        refine AOps.nil ?_
        refine thn_normal ?_
        refine AWP.ret ?_
        refine inB_ret ?_
        refine thn_ret ?_
        have ej := Option.some.inj h
        subst ej
        exact Done.ret rfl rfl
      · refine AWP.seq ?_
        refine AWP.region ?_
        refine AOps.move rfl rfl ?_
        refine S.len rfl rfl (fun hl32 => ?_)
        refine AOps.move rfl rfl ?_
        refine S.len rfl rfl (fun hl34 => ?_)
        refine AOps.neq rfl rfl rfl ?_
        refine AOps.assign rfl rfl ?_
        refine AOps.nil ?_
        refine thn_normal ?_
        refine AWP.iteN rfl h (fun hc6 h => ?_) (fun hc6 h => ?_)
        · refine AWP.seq ?_
          refine AWP.region ?_
          refine W.build rfl rfl rfl rfl ?_
          refine W.storeAgg rfl rfl rfl rfl rfl rfl rfl ?_
          refine AOps.nil ?_
          refine thn_normal ?_
          refine AWP.ret ?_
          refine inB_ret ?_
          refine thn_ret ?_
          have ej := Option.some.inj h
          subst ej
          exact Done.ret rfl rfl
        · refine AWP.skip ?_
          refine inB_normal ?_
          refine thn_normal ?_
          refine AWP.seq ?_
          refine AWP.seq ?_
          refine AWP.region ?_
          refine AOps.move rfl rfl ?_
          refine S.len rfl rfl (fun hl38 => ?_)
          refine AOps.move rfl rfl ?_
          refine AOps.nil ?_
          refine thn_normal ?_
          refine AWP.block ?_
          obtain ⟨oo, ho1, h⟩ := bind_some h
          refine AWP.rngS ho1 (fun t7 _ => ⟨[(2, .c (row 1 eLi64 plans)), (3, .c (.ptr 0 0 0)), (6, .c (.ptr 1 0 0)), (37, .c (row 1 eLi64 goals)), (38, .c (int (goals.length : Int))), (39, .c (int t7))], [.one (.cells 4 [[int t.facts, row 1 intI t.init, row 1 intI t.goal, row 4 eTOperator t.operators]]), .one (.cells 2 [[int 0, int 0]])]⟩) (fun o e st => match o with | .inl _ => e = .exit 1 ∧ Sub [] st ⟨[(2, .c (row 1 eLi64 plans)), (3, .c (.ptr 0 0 0)), (6, .c (.ptr 1 0 0))], [.one (.cells 4 [[int t.facts, row 1 intI t.init, row 1 intI t.goal, row 4 eTOperator t.operators]]), .one (.cells 2 [[int 0, int 0]])]⟩ | .inr x => e = .ret ∧ Done [.cell 6 28 2] (fun t _ => t = .agg [int x.code, int x.index]) .ret st) ?_ ?_ ?_ ?_
          · try dsimp only
            exact Sub.cut ⟨rfl, rfl, rfl, rfl, rfl, rfl, trivial⟩ rfl ⟨.one rfl, .one rfl, trivial⟩ rfl
          · intro t7 s hlot7 hltt7 _
            try dsimp only
            refine AWP.seq ?_
            refine AWP.region ?_
            refine AOps.lss rfl rfl rfl ?_
            refine AOps.nil ?_
            refine thn_normal ?_
            refine AWP.seq ?_
            refine AWP.condNP rfl hltt7 ?_
            refine AWP.exit ?_
            refine thn_exit ?_
            refine thn_exit ⟨rfl, ?_⟩
            exact Sub.env ⟨rfl, rfl, rfl, trivial⟩
          · intro t7 s o hlot7 hltt7 h
            unfold merging_check_l1 at h
            try dsimp only at h ⊢
            refine AWP.seq ?_
            refine AWP.region ?_
            refine AOps.lss rfl rfl rfl ?_
            refine AOps.nil ?_
            refine thn_normal ?_
            refine AWP.seq ?_
            refine AWP.condP rfl hltt7 ?_
            refine AWP.skip ?_
            refine thn_normal ?_
            refine AWP.seq ?_
            refine AWP.block ?_
            refine AWP.seq ?_
            obtain ⟨a42, ha42, h⟩ := bind_some h
            refine AWP.region ?_
            refine AOps.move rfl rfl ?_
            refine S.idx ha42 rfl rfl rfl rfl ?_
            refine AOps.loadI rfl rfl rfl rfl ?_
            refine AOps.assign rfl rfl ?_
            refine AOps.assign rfl rfl ?_
            refine AOps.nil ?_
            refine thn_normal ?_
            refine AWP.seq ?_
            obtain ⟨a47, ha47, h⟩ := bind_some h
            refine AWP.region ?_
            refine AOps.move rfl rfl ?_
            refine W.fieldAddr rfl rfl rfl rfl ?_
            refine AOps.load rfl rfl rfl rfl rfl rfl ?_
            refine AOps.callR rfl rfl rfl rfl (strips_IsSet_ok ha47) rfl ?_
            refine AOps.not rfl rfl ?_
            refine AOps.nil ?_
            refine thn_normal ?_
            refine AWP.iteB rfl h (fun hc8 h => ?_) (fun hc8 h => ?_)
            · refine AWP.seq ?_
              refine AWP.region ?_
              refine AOps.move rfl rfl ?_
              refine S.sub rfl rfl rfl ?_
              refine W.build rfl rfl rfl rfl ?_
              refine W.storeAgg rfl rfl rfl rfl rfl rfl rfl ?_
              refine AOps.nil ?_
              refine thn_normal ?_
              refine AWP.ret ?_
              refine inB_ret ?_
              refine thn_ret ?_
              have ej := Option.some.inj h
              subst ej
              refine thn_ret ⟨_, rfl, rfl, ?_⟩
              exact Done.ret rfl rfl
            · refine AWP.skip ?_
              refine inB_normal ?_
              refine thn_normal ?_
              refine AWP.region ?_
              refine AOps.add rfl rfl rfl (by omega) ?_
              refine AOps.move rfl rfl ?_
              refine AOps.nil ?_
              have ej := Option.some.inj h
              subst ej
              refine thn_normal ⟨_, rfl, ?_⟩
              exact Sub.env ⟨rfl, rfl, rfl, rfl, rfl, rfl, trivial⟩
          · intro e s hq
            rcases oo with u | x
            · try dsimp only at h hq
              obtain ⟨rfl, hs⟩ := hq
              refine ⟨_, hs, ?_⟩
              refine inB_exit ?_
              refine thn_normal ?_
              refine AWP.seq ?_
              refine AWP.seq ?_
              refine AWP.region ?_
              refine AOps.move rfl rfl ?_
              refine S.len rfl rfl (fun hl54 => ?_)
              refine AOps.move rfl rfl ?_
              refine AOps.nil ?_
              refine thn_normal ?_
              refine AWP.block ?_
              obtain ⟨oo, ho2, h⟩ := bind_some h
              refine AWP.rngS ho2 (fun t9 _ => ⟨[(3, .c (.ptr 0 0 0)), (6, .c (.ptr 1 0 0)), (53, .c (row 1 eLi64 plans)), (54, .c (int (plans.length : Int))), (55, .c (int t9))], [.one (.cells 4 [[int t.facts, row 1 intI t.init, row 1 intI t.goal, row 4 eTOperator t.operators]]), .one (.cells 2 [[int 0, int 0]])]⟩) (fun o e st => match o with | .inl _ => e = .exit 3 ∧ Sub [] st ⟨[(6, .c (.ptr 1 0 0))], [.one (.cells 4 [[int t.facts, row 1 intI t.init, row 1 intI t.goal, row 4 eTOperator t.operators]]), .one (.cells 2 [[int 0, int 0]])]⟩ | .inr x => e = .ret ∧ Done [.cell 6 28 2] (fun t _ => t = .agg [int x.code, int x.index]) .ret st) ?_ ?_ ?_ ?_
              · try dsimp only
                exact Sub.env ⟨rfl, rfl, rfl, rfl, rfl, trivial⟩
              · intro t9 s hlot9 hltt9 _
                try dsimp only
                refine AWP.seq ?_
                refine AWP.region ?_
                refine AOps.lss rfl rfl rfl ?_
                refine AOps.nil ?_
                refine thn_normal ?_
                refine AWP.seq ?_
                refine AWP.condNP rfl hltt9 ?_
                refine AWP.exit ?_
                refine thn_exit ?_
                refine thn_exit ⟨rfl, ?_⟩
                exact Sub.env ⟨rfl, trivial⟩
              · intro t9 s o hlot9 hltt9 h
                unfold merging_check_l2 at h
                try dsimp only at h ⊢
                refine AWP.seq ?_
                refine AWP.region ?_
                refine AOps.lss rfl rfl rfl ?_
                refine AOps.nil ?_
                refine thn_normal ?_
                refine AWP.seq ?_
                refine AWP.condP rfl hltt9 ?_
                refine AWP.skip ?_
                refine thn_normal ?_
                refine AWP.seq ?_
                refine AWP.block ?_
                refine AWP.seq ?_
                obtain ⟨a58, ha58, h⟩ := bind_some h
                refine AWP.region ?_
                refine AOps.move rfl rfl ?_
                refine S.idx ha58 rfl rfl rfl rfl ?_
                refine AOps.loadI rfl rfl rfl rfl ?_
                refine AOps.assign rfl rfl ?_
                refine AOps.assign rfl rfl ?_
                refine AOps.nil ?_
                refine thn_normal ?_
                refine AWP.seq ?_
                refine AWP.seq ?_
                refine AWP.region ?_
                refine AOps.move rfl rfl ?_
                refine S.len rfl rfl (fun hl61 => ?_)
                refine AOps.gtr rfl rfl rfl ?_
                refine AOps.nil ?_
                refine thn_normal ?_
                refine AWP.ite rfl h (fun hc10 h => ?_) (fun hc10 h => ?_)
                · refine AWP.seq ?_
                  refine AWP.region ?_
                  refine AOps.move rfl rfl ?_
                  refine S.sub rfl rfl rfl ?_
                  refine W.build rfl rfl rfl rfl ?_
                  refine W.storeAgg rfl rfl rfl rfl rfl rfl rfl ?_
                  refine AOps.nil ?_
                  refine thn_normal ?_
                  refine AWP.ret ?_
                  refine thn_ret ?_
                  refine inB_ret ?_
                  refine thn_ret ?_
                  have ej := Option.some.inj h
                  subst ej
                  refine thn_ret ⟨_, rfl, rfl, ?_⟩
                  exact Done.ret rfl rfl
                · refine AWP.skip ?_
                  refine thn_normal ?_
                  refine AWP.seq ?_
                  refine AWP.region ?_
                  refine AOps.move rfl rfl ?_
                  refine S.len rfl rfl (fun hl67 => ?_)
                  refine AOps.move rfl rfl ?_
                  refine AOps.nil ?_
                  refine thn_normal ?_
                  refine AWP.block ?_
                  obtain ⟨oo, ho3, h⟩ := bind_some h
                  refine AWP.rngS ho3 (fun t11 _ => ⟨[(3, .c (.ptr 0 0 0)), (6, .c (.ptr 1 0 0)), (10, .c (int t9)), (53, .c (row 1 eLi64 plans)), (54, .c (int (plans.length : Int))), (55, .c (int t9)), (66, .c (row 1 intI a58)), (67, .c (int (a58.length : Int))), (68, .c (int t11))], [.one (.cells 4 [[int t.facts, row 1 intI t.init, row 1 intI t.goal, row 4 eTOperator t.operators]]), .one (.cells 2 [[int 0, int 0]])]⟩) (fun o e st => match o with | .inl _ => e = .exit 5 ∧ Sub [] st ⟨[(3, .c (.ptr 0 0 0)), (6, .c (.ptr 1 0 0)), (53, .c (row 1 eLi64 plans)), (54, .c (int (plans.length : Int))), (55, .c (int t9))], [.one (.cells 4 [[int t.facts, row 1 intI t.init, row 1 intI t.goal, row 4 eTOperator t.operators]]), .one (.cells 2 [[int 0, int 0]])]⟩ | .inr x => e = .ret ∧ Done [.cell 6 28 2] (fun t _ => t = .agg [int x.code, int x.index]) .ret st) ?_ ?_ ?_ ?_
                  · try dsimp only
                    exact Sub.env ⟨rfl, rfl, rfl, rfl, rfl, rfl, rfl, rfl, rfl, trivial⟩
                  · intro t11 s hlot11 hltt11 _
                    try dsimp only
                    refine AWP.seq ?_
                    refine AWP.region ?_
                    refine AOps.lss rfl rfl rfl ?_
                    refine AOps.nil ?_
                    refine thn_normal ?_
                    refine AWP.seq ?_
                    refine AWP.condNP rfl hltt11 ?_
                    refine AWP.exit ?_
                    refine thn_exit ?_
                    refine thn_exit ⟨rfl, ?_⟩
                    exact Sub.env ⟨rfl, rfl, rfl, rfl, rfl, trivial⟩
                  · intro t11 s o hlot11 hltt11 h
                    unfold merging_check_l3 at h
                    try dsimp only at h ⊢
                    refine AWP.seq ?_
                    refine AWP.region ?_
                    refine AOps.lss rfl rfl rfl ?_
                    refine AOps.nil ?_
                    refine thn_normal ?_
                    refine AWP.seq ?_
                    refine AWP.condP rfl hltt11 ?_
                    refine AWP.skip ?_
                    refine thn_normal ?_
                    refine AWP.seq ?_
                    refine AWP.block ?_
                    refine AWP.seq ?_
                    obtain ⟨a70, ha70, h⟩ := bind_some h
                    refine AWP.region ?_
                    refine S.idx ha70 rfl rfl rfl rfl ?_
                    refine AOps.loadI rfl rfl rfl rfl ?_
                    refine AOps.assign rfl rfl ?_
                    refine AOps.nil ?_
                    refine thn_normal ?_
                    refine AWP.seqJ (⟨[(3, .c (.ptr 0 0 0)), (6, .c (.ptr 1 0 0)), (10, .c (int t9)), (53, .c (row 1 eLi64 plans)), (54, .c (int (plans.length : Int))), (55, .c (int t9)), (66, .c (row 1 intI a58)), (67, .c (int (a58.length : Int))), (68, .c (int t11)), (80, .c (bool ((decide (a70 < 0)) || (decide ((t.operators.length : Int) ≤ a70)))))], [.one (.cells 4 [[int t.facts, row 1 intI t.init, row 1 intI t.goal, row 4 eTOperator t.operators]]), .one (.cells 2 [[int 0, int 0]])]⟩) ?_ ?_
                    · rcases Bool.eq_false_or_eq_true (decide (a70 < 0)) with hb1 | hb1
                      · refine AWP.region ?_
                        refine AOps.move rfl rfl ?_
                        refine AOps.lss rfl rfl rfl ?_
                        refine AOps.move rfl rfl ?_
                        refine AOps.guardF rfl rfl rfl hb1 ?_
                        refine AOps.guardF rfl rfl rfl hb1 ?_
                        refine AOps.guardF rfl rfl rfl hb1 ?_
                        refine AOps.guardF rfl rfl rfl hb1 ?_
                        refine AOps.guardF rfl rfl rfl hb1 ?_
                        refine AOps.pickT rfl hb1 rfl rfl ?_
                        refine AOps.nil ?_
                        refine thn_normal ?_
                        simp only [and_t hb1, or_t hb1, Bool.false_or, Bool.true_or, Bool.false_and, Bool.true_and]
                        exact Sub.env ⟨rfl, rfl, rfl, rfl, rfl, rfl, rfl, rfl, rfl, rfl, trivial⟩
                      · refine AWP.region ?_
                        refine AOps.move rfl rfl ?_
                        refine AOps.lss rfl rfl rfl ?_
                        refine AOps.move rfl rfl ?_
                        refine AOps.guardT rfl rfl rfl hb1 ?_; refine AOps.move rfl rfl ?_
                        refine AOps.guardT rfl rfl rfl hb1 ?_; refine W.fieldAddr rfl rfl rfl rfl ?_
                        refine AOps.guardT rfl rfl rfl hb1 ?_; refine AOps.load rfl rfl rfl rfl rfl rfl ?_
                        refine AOps.guardT rfl rfl rfl hb1 ?_; refine S.len rfl rfl (fun hl78 => ?_)
                        refine AOps.guardT rfl rfl rfl hb1 ?_; refine AOps.geq rfl rfl rfl ?_
                        refine AOps.pickF rfl hb1 rfl rfl ?_
                        refine AOps.nil ?_
                        refine thn_normal ?_
                        simp only [and_f hb1, or_f hb1, Bool.false_or, Bool.true_or, Bool.false_and, Bool.true_and]
                        exact Sub.env ⟨rfl, rfl, rfl, rfl, rfl, rfl, rfl, rfl, rfl, rfl, trivial⟩
                    · refine AWP.iteB rfl h (fun hc12 h => ?_) (fun hc12 h => ?_)
                      · refine AWP.seq ?_
                        refine AWP.region ?_
                        refine AOps.move rfl rfl ?_
                        refine S.sub rfl rfl rfl ?_
                        refine W.build rfl rfl rfl rfl ?_
                        refine W.storeAgg rfl rfl rfl rfl rfl rfl rfl ?_
                        refine AOps.nil ?_
                        refine thn_normal ?_
                        refine AWP.ret ?_
                        refine inB_ret ?_
                        refine thn_ret ?_
                        have ej := Option.some.inj h
                        subst ej
                        refine thn_ret ⟨_, rfl, rfl, ?_⟩
                        exact Done.ret rfl rfl
                      · refine AWP.skip ?_
                        refine inB_normal ?_
                        refine thn_normal ?_
                        refine AWP.region ?_
                        refine AOps.add rfl rfl rfl (by omega) ?_
                        refine AOps.move rfl rfl ?_
                        refine AOps.nil ?_
                        have ej := Option.some.inj h
                        subst ej
                        refine thn_normal ⟨_, rfl, ?_⟩
                        exact Sub.env ⟨rfl, rfl, rfl, rfl, rfl, rfl, rfl, rfl, rfl, trivial⟩
                  · intro e s hq
                    rcases oo with u | x
                    · try dsimp only at h hq
                      obtain ⟨rfl, hs⟩ := hq
                      refine ⟨_, hs, ?_⟩
                      refine inB_exit ?_
                      refine inB_normal ?_
                      refine thn_normal ?_
                      refine AWP.region ?_
                      refine AOps.add rfl rfl rfl (by omega) ?_
                      refine AOps.move rfl rfl ?_
                      refine AOps.nil ?_
                      have ej := Option.some.inj h
                      subst ej
                      refine thn_normal ⟨_, rfl, ?_⟩
                      exact Sub.env ⟨rfl, rfl, rfl, rfl, rfl, trivial⟩
                    · try dsimp only at h hq
                      obtain ⟨rfl, hs⟩ := hq
                      refine ⟨_, Sub.refl _ _, ?_⟩
                      refine inB_ret ?_
                      refine inB_ret ?_
                      refine thn_ret ?_
                      have ej := Option.some.inj h
                      subst ej
                      refine thn_ret ⟨_, rfl, rfl, ?_⟩
                      exact hs
              · intro e s hq
                rcases oo with u | x
                · try dsimp only at h hq
                  obtain ⟨rfl, hs⟩ := hq
                  refine ⟨_, hs, ?_⟩
                  refine inB_exit ?_
                  refine thn_normal ?_
                  refine AWP.seq ?_
                  refine AWP.region ?_
                  refine W.build rfl rfl rfl rfl ?_
                  refine W.storeAgg rfl rfl rfl rfl rfl rfl rfl ?_
                  refine AOps.nil ?_
                  refine thn_normal ?_
                  refine AWP.ret ?_
                  have ej := Option.some.inj h
                  subst ej
                  exact Done.ret rfl rfl
                · try dsimp only at h hq
                  obtain ⟨rfl, hs⟩ := hq
                  refine ⟨_, Sub.refl _ _, ?_⟩
                  refine inB_ret ?_
                  refine thn_ret ?_
                  have ej := Option.some.inj h
                  subst ej
                  exact hs
            · try dsimp only at h hq
              obtain ⟨rfl, hs⟩ := hq
              refine ⟨_, Sub.refl _ _, ?_⟩
              refine inB_ret ?_
              refine thn_ret ?_
              have ej := Option.some.inj h
              subst ej
              exact hs
theorem strips_Update_ok {sv : List Int} {add : List Int} {del : List Int} {r : (List Int)} (h : strips_Update sv add del = some r) : FreshOk Tryd.prog 44 [.c (row 1 intI sv), .c (row 1 intI add), .c (row 1 intI del)] 1 (List.map intI r) := by
  unfold FreshOk
  refine FnOk.enter (rs := [.t 6]) Tryd.func44 rfl Tryd.ntmps44 Tryd.results44 rfl ⟨trivial, trivial⟩ (by kernel_rfl) rfl ?_
  unfold strips_Update at h
  refine AWP.seq ?_
  refine AWP.region ?_
  refine AOps.assign rfl rfl ?_
  refine AOps.nil ?_
  refine thn_normal ?_
  refine AWP.seq ?_
  refine AWP.region ?_
  refine AOps.assign rfl rfl ?_
  refine AOps.nil ?_
  refine thn_normal ?_
  refine AWP.seq ?_
  refine AWP.seq ?_
  refine AWP.region ?_
  refine AOps.move rfl rfl ?_
  refine S.len rfl rfl (fun hl13 => ?_)
  refine AOps.move rfl rfl ?_
  refine AOps.nil ?_
  refine thn_normal ?_
  refine AWP.block ?_
  refine AWP.virtV 1 intI 7 rfl rfl rfl ?_
  obtain ⟨c4, ho1, h⟩ := bind_some h
  refine AWP.forS ho1 (fun t5 c4 => ⟨[(1, .c (row 1 intI add)), (2, .c (row 1 intI del)), (7, .c (.own 0 0 c4.length)), (12, .c (row 1 intI sv)), (13, .c (int (sv.length : Int))), (14, .c (int t5))], [.one (vec 1 intI c4)]⟩) (fun c4 e st => e = .exit 0 ∧ Sub [] st ⟨[(1, .c (row 1 intI add)), (7, .c (.own 0 0 c4.length))], [.one (vec 1 intI c4)]⟩) ?_ ?_ ?_ ?_
  · try dsimp only
    exact Sub.env ⟨rfl, rfl, (own_len (by first | rfl | simp only [List.length_set])), rfl, rfl, rfl, trivial⟩
  · intro t5 c4 hlot5 hltt5 _
    try dsimp only
    refine AWP.seq ?_
    refine AWP.region ?_
    refine AOps.lss rfl rfl rfl ?_
    refine AOps.nil ?_
    refine thn_normal ?_
    refine AWP.seq ?_
    refine AWP.condNP rfl hltt5 ?_
    refine AWP.exit ?_
    refine thn_exit ?_
    refine thn_exit ⟨rfl, ?_⟩
    exact Sub.env ⟨rfl, rfl, trivial⟩
  · intro t5 c4 o hlot5 hltt5 h
    unfold strips_Update_l1 at h
    try dsimp only at h ⊢
    refine AWP.seq ?_
    refine AWP.region ?_
    refine AOps.lss rfl rfl rfl ?_
    refine AOps.nil ?_
    refine thn_normal ?_
    refine AWP.seq ?_
    refine AWP.condP rfl hltt5 ?_
    refine AWP.skip ?_
    refine thn_normal ?_
    obtain ⟨c6, hx7, h⟩ := bind_some h
    refine AWP.seqJ (⟨[(1, .c (row 1 intI add)), (2, .c (row 1 intI del)), (7, .c (.own 2 0 c6.length)), (12, .c (row 1 intI sv)), (13, .c (int (sv.length : Int))), (14, .c (int t5))], [.dead, .dead, .one (vec 1 intI c6)]⟩) ?_ ?_
    · refine AWP.block ?_
      refine AWP.seq ?_
      obtain ⟨a16, ha16, hx7⟩ := bind_some hx7
      refine AWP.region ?_
      refine S.idx ha16 rfl rfl rfl rfl ?_
      refine AOps.loadI rfl rfl rfl rfl ?_
      refine AOps.assign rfl rfl ?_
      refine AOps.nil ?_
      refine thn_normal ?_
      refine AWP.seq ?_
      obtain ⟨a21, ha21, hx7⟩ := bind_some hx7
      refine AWP.region ?_
      refine AOps.move rfl rfl ?_
      refine AOps.move rfl rfl ?_
      refine AOps.callR rfl rfl rfl rfl (slices_BinarySearch_int_int_ok ha21) rfl ?_
      refine AOps.move rfl rfl ?_
      refine AOps.extract rfl rfl rfl ?_
      refine AOps.extract rfl rfl rfl ?_
      refine AOps.assign rfl rfl ?_
      refine AOps.assign rfl rfl ?_
      refine AOps.nil ?_
      refine thn_normal ?_
      refine AWP.seq ?_
      refine AWP.region ?_
      refine AOps.move rfl rfl ?_
      refine AOps.not rfl rfl ?_
      refine AOps.nil ?_
      refine thn_normal ?_
      refine AWP.iteB rfl hx7 (fun hc8 hx7 => ?_) (fun hc8 hx7 => ?_)
      · obtain ⟨a29, ha29, hx7⟩ := bind_some hx7
        refine AWP.region ?_
        refine AOps.move rfl rfl ?_
        refine AOps.move rfl rfl ?_
        refine S.lit (f := intI) (l := [a16]) (ess := [[int a16]]) rfl rfl rfl rfl rfl rfl rfl ⟨⟨.inl rfl, trivial⟩, trivial⟩ rfl rfl rfl ?_
        refine S.append (f := intI) ha29 rfl rfl rfl rfl rfl rfl (.own rfl rfl) rfl rfl rfl rfl ?_
        refine AOps.assign rfl rfl ?_
        refine AOps.nil ?_
        refine inB_normal ?_
        have ej := Option.some.inj hx7
        subst ej
        refine thn_normal ?_
        exact Sub.cut ⟨rfl, rfl, rfl, rfl, rfl, rfl, trivial⟩ rfl ⟨.dead, .dead, .vec, trivial⟩ rfl
      · refine AWP.skip ?_
        refine inB_normal ?_
        have ej := Option.some.inj hx7
        subst ej
        refine thn_normal ?_
        exact (Sub.move (env' := [(1, .c (row 1 intI add)), (2, .c (row 1 intI del)), (7, .c (.own 2 0 c4.length)), (12, .c (row 1 intI sv)), (13, .c (int (sv.length : Int))), (14, .c (int t5))]) (σ' := [.dead, .dead, .one (vec 1 intI c4)]) 2 0 rfl rfl rfl ⟨rfl, rfl, rfl, rfl, rfl, rfl, trivial⟩ rfl ⟨trivial, trivial, ⟨Blk.im_ok _ _ _, vec_mv rfl⟩, trivial⟩).trans (Sub.env ⟨rfl, rfl, rfl, rfl, rfl, rfl, trivial⟩)
    · refine AWP.region ?_
      refine AOps.add rfl rfl rfl (by omega) ?_
      refine AOps.move rfl rfl ?_
      refine AOps.nil ?_
      have ej := Option.some.inj h
      subst ej
      refine thn_normal ?_
      exact (Sub.move (env' := [(1, .c (row 1 intI add)), (2, .c (row 1 intI del)), (7, .c (.own 0 0 c6.length)), (12, .c (row 1 intI sv)), (13, .c (int (sv.length : Int))), (14, .c (int (t5 + 1)))]) (σ' := [.one (vec 1 intI c6), .dead]) 0 2 rfl rfl rfl ⟨rfl, rfl, rfl, rfl, rfl, rfl, trivial⟩ rfl ⟨⟨Blk.im_ok _ _ _, vec_mv rfl⟩, trivial, trivial⟩).trans (Sub.cut ⟨rfl, rfl, rfl, rfl, rfl, rfl, trivial⟩ rfl ⟨.vec, trivial⟩ rfl)
  · intro e s hq
    obtain ⟨rfl, hs⟩ := hq
    refine ⟨_, hs, ?_⟩
    refine inB_exit ?_
    refine thn_normal ?_
    refine AWP.seq ?_
    obtain ⟨a33, ha33, h⟩ := bind_some h
    refine AWP.region ?_
    refine AOps.move rfl rfl ?_
    refine AOps.move rfl rfl ?_
    refine S.append (f := intI) ha33 rfl rfl rfl rfl rfl rfl .row rfl rfl rfl rfl ?_
    refine AOps.assign rfl rfl ?_
    refine AOps.nil ?_
    refine thn_normal ?_
    refine AWP.seq ?_
    refine AWP.move (env' := [(7, .c (.own 0 0 a33.length))]) (σ' := [.one (vec 1 intI a33)]) 0 1 rfl rfl rfl ⟨rfl, trivial⟩ rfl ⟨⟨Blk.im_ok _ _ _, vec_mv rfl⟩, trivial⟩ ?_
    obtain ⟨a35, ha35, h⟩ := bind_some h
    refine AWP.region ?_
    refine AOps.move rfl rfl ?_
    refine S.sort ha35 sortL_ok rfl rfl rfl rfl rfl rfl ?_
    refine AOps.nil ?_
    refine thn_normal ?_
    refine AWP.seq ?_
    refine AWP.region ?_
    refine AOps.move rfl rfl ?_
    refine S.compact compactL_ok rfl rfl (sortL_len ha35) rfl rfl rfl rfl rfl ?_
    refine AOps.assign rfl rfl ?_
    refine AOps.nil ?_
    refine thn_normal ?_
    refine AWP.ret ?_
    have ej := Option.some.inj h
    subst ej
    exact Done.ret rfl (Fresh.mk rfl rfl)
theorem strips_Union_ok {av : List Int} {bv : List Int} {r : (List Int)} (h : strips_Union av bv = some r) : FreshOk Tryd.prog 41 [.c (row 1 intI av), .c (row 1 intI bv)] 1 (List.map intI r) := by
  unfold FreshOk
  refine FnOk.enter (rs := [.t 4]) Tryd.func41 rfl Tryd.ntmps41 Tryd.results41 rfl ⟨trivial, trivial⟩ (by kernel_rfl) rfl ?_
  unfold strips_Union at h
  refine AWP.seq ?_
  refine AWP.region ?_
  refine AOps.assign rfl rfl ?_
  refine AOps.nil ?_
  refine thn_normal ?_
  refine AWP.seq ?_
  obtain ⟨a7, ha7, h⟩ := bind_some h
  refine AWP.region ?_
  refine AOps.move rfl rfl ?_
  refine AOps.move rfl rfl ?_
  refine S.fresh rfl rfl rfl rfl (FreshOk.nil (by exact ⟨(.inl rfl), (.inl rfl), (.inr ⟨rfl, _, rfl⟩), trivial⟩) (strips_Update_ok ha7)) rfl rfl ?_
  refine AOps.assign rfl rfl ?_
  refine AOps.nil ?_
  refine thn_normal ?_
  refine AWP.ret ?_
  have ej := Option.some.inj h
  subst ej
  exact Done.ret rfl (Fresh.mk rfl rfl)
theorem merging_union_ok {l : List (List Int)} {r : (List Int)} (h : merging_union l = some r) : FreshOk Tryd.prog 24 [.c (row 1 eLi64 l)] 1 (List.map intI r) := by
  unfold FreshOk
  refine FnOk.enter (rs := [.t 2]) Tryd.func24 rfl Tryd.ntmps24 Tryd.results24 rfl ⟨trivial, trivial⟩ (by kernel_rfl) rfl ?_
  unfold merging_union at h
  refine AWP.seq ?_
  refine AWP.region ?_
  refine AOps.assign rfl rfl ?_
  refine AOps.nil ?_
  refine thn_normal ?_
  refine AWP.seq ?_
  refine AWP.region ?_
  refine AOps.assign rfl rfl ?_
  refine AOps.nil ?_
  refine thn_normal ?_
  refine AWP.seq ?_
  refine AWP.seq ?_
  refine AWP.region ?_
  refine AOps.move rfl rfl ?_
  refine S.len rfl rfl (fun hl7 => ?_)
  refine AOps.move rfl rfl ?_
  refine AOps.nil ?_
  refine thn_normal ?_
  refine AWP.block ?_
  refine AWP.virtV 1 intI 3 rfl rfl rfl ?_
  obtain ⟨c2, ho1, h⟩ := bind_some h
  refine AWP.forS ho1 (fun t3 c2 => ⟨[(3, .c (.own 0 0 c2.length)), (6, .c (row 1 eLi64 l)), (7, .c (int (l.length : Int))), (8, .c (int t3))], [.one (vec 1 intI c2)]⟩) (fun c2 e st => e = .exit 0 ∧ Sub [] st ⟨[(3, .c (.own 0 0 c2.length))], [.one (vec 1 intI c2)]⟩) ?_ ?_ ?_ ?_
  · try dsimp only
    exact Sub.env ⟨(own_len (by first | rfl | simp only [List.length_set])), rfl, rfl, rfl, trivial⟩
  · intro t3 c2 hlot3 hltt3 _
    try dsimp only
    refine AWP.seq ?_
    refine AWP.region ?_
    refine AOps.lss rfl rfl rfl ?_
    refine AOps.nil ?_
    refine thn_normal ?_
    refine AWP.seq ?_
    refine AWP.condNP rfl hltt3 ?_
    refine AWP.exit ?_
    refine thn_exit ?_
    refine thn_exit ⟨rfl, ?_⟩
    exact Sub.env ⟨rfl, trivial⟩
  · intro t3 c2 o hlot3 hltt3 h
    unfold merging_union_l1 at h
    try dsimp only at h ⊢
    refine AWP.seq ?_
    refine AWP.region ?_
    refine AOps.lss rfl rfl rfl ?_
    refine AOps.nil ?_
    refine thn_normal ?_
    refine AWP.seq ?_
    refine AWP.condP rfl hltt3 ?_
    refine AWP.skip ?_
    refine thn_normal ?_
    refine AWP.seq ?_
    refine AWP.block ?_
    refine AWP.seq ?_
    obtain ⟨a10, ha10, h⟩ := bind_some h
    refine AWP.region ?_
    refine S.idx ha10 rfl rfl rfl rfl ?_
    refine AOps.loadI rfl rfl rfl rfl ?_
    refine AOps.assign rfl rfl ?_
    refine AOps.nil ?_
    refine thn_normal ?_
    obtain ⟨a14, ha14, h⟩ := bind_some h
    refine AWP.region ?_
    refine AOps.move rfl rfl ?_
    refine AOps.move rfl rfl ?_
    refine AOps.frzV (id := 0) (l := c2) (env2 := [(6, .c (row 1 eLi64 l)), (7, .c (int (l.length : Int))), (8, .c (int t3)), (12, .c (row 1 intI c2)), (13, .c (row 1 intI a10))]) (σ2 := [.dead]) rfl rfl (by exact ⟨⟨_, rfl, .inl ⟨rfl, rfl⟩⟩, ⟨_, rfl, .inl ⟨rfl, rfl⟩⟩, ⟨_, rfl, .inl ⟨rfl, rfl⟩⟩, ⟨_, rfl, .inr ⟨_, rfl, rfl, rfl⟩⟩, ⟨_, rfl, .inl ⟨rfl, rfl⟩⟩, trivial⟩) rfl (by exact ⟨trivial, trivial⟩) ?_; refine S.fresh rfl rfl rfl rfl (strips_Union_ok ha14) rfl rfl ?_
    refine AOps.assign rfl rfl ?_
    refine AOps.nil ?_
    refine inB_normal ?_
    refine thn_normal ?_
    refine AWP.region ?_
    refine AOps.add rfl rfl rfl (by omega) ?_
    refine AOps.move rfl rfl ?_
    refine AOps.nil ?_
    have ej := Option.some.inj h
    subst ej
    refine thn_normal ?_
    exact (Sub.move (env' := [(3, .c (.own 0 0 a14.length)), (6, .c (row 1 eLi64 l)), (7, .c (int (l.length : Int))), (8, .c (int (t3 + 1)))]) (σ' := [.one (vec 1 intI a14)]) 0 1 rfl rfl rfl ⟨rfl, rfl, rfl, rfl, trivial⟩ rfl ⟨⟨Blk.im_ok _ _ _, vec_mv rfl⟩, trivial⟩).trans (Sub.env ⟨rfl, rfl, rfl, rfl, trivial⟩)
  · intro e s hq
    obtain ⟨rfl, hs⟩ := hq
    refine ⟨_, hs, ?_⟩
    refine inB_exit ?_
    refine thn_normal ?_
    refine AWP.seq ?_
    refine AWP.region ?_
    refine AOps.move rfl rfl ?_
    refine AOps.assign rfl rfl ?_
    refine AOps.nil ?_
    refine thn_normal ?_
    refine AWP.ret ?_
    have ej := Option.some.inj h
    subst ej
    exact Done.ret rfl (Fresh.mk rfl rfl)
theorem internal_strconv_small_ok {iv : Int} {r : ByteArray} (h : internal_strconv_small iv = some r) : PureOk Tryd.prog 73 [.c (int iv)] (.c (.imm (.val (.string r)))) := by
  unfold PureOk
  refine FnOk.enter (rs := [.t 2]) Tryd.func73 rfl Tryd.ntmps73 Tryd.results73 rfl ⟨trivial, trivial⟩ (by kernel_rfl) rfl ?_
  unfold internal_strconv_small at h
  refine AWP.seq ?_
  refine AWP.region ?_
  refine AOps.assign rfl rfl ?_
  refine AOps.nil ?_
  refine thn_normal ?_
  refine AWP.seq ?_
  refine AWP.seq ?_
  refine AWP.region ?_
  refine AOps.move rfl rfl ?_
  refine AOps.lss rfl rfl rfl ?_
  refine AOps.nil ?_
  refine thn_normal ?_
  refine AWP.ite rfl h (fun hc2 h => ?_) (fun hc2 h => ?_)
  · refine AWP.seq ?_
    obtain ⟨a8, ha8, h⟩ := bind_some h
    refine AWP.region ?_
    refine AOps.move rfl rfl ?_
    refine AOps.move rfl rfl ?_
    refine S.add rfl rfl rfl ?_
    refine S.subStr ha8 rfl rfl rfl rfl ?_
    refine AOps.assign rfl rfl ?_
    refine AOps.nil ?_
    refine thn_normal ?_
    refine AWP.ret ?_
    refine thn_ret ?_
    have ej := Option.some.inj h
    subst ej
    exact Done.ret rfl rfl
  · refine AWP.skip ?_
    refine thn_normal ?_
    refine AWP.seq ?_
    obtain ⟨a14, ha14, h⟩ := bind_some h
    refine AWP.region ?_
    refine AOps.move rfl rfl ?_
    refine S.mul rfl rfl rfl ?_
    refine AOps.move rfl rfl ?_
    refine S.mul rfl rfl rfl ?_
    refine S.add rfl rfl rfl ?_
    refine S.subStr ha14 rfl rfl rfl rfl ?_
    refine AOps.assign rfl rfl ?_
    refine AOps.nil ?_
    refine thn_normal ?_
    refine AWP.ret ?_
    have ej := Option.some.inj h
    subst ej
    exact Done.ret rfl rfl
theorem internal_strconv_AppendUint_w3_ok {iv : Int} {base : Int} {l : List Int} {r : (List Int)} (h : internal_strconv_AppendUint_w3 iv base l = some r) : FnOk Tryd.prog 61 [.c (.own 0 0 l.length), .c (.imm (.val (.int .u64 iv))), .c (int base)] (internal_strconv_AppendUint_w3_s0 iv base l) (fun tt ss => tt = .c (.own 2 0 r.length) ∧ ss = [.dead, .dead, .one (vec 1 eU8 r)]) := by
  refine FnOk.enter (rs := [.t 6]) Tryd.func61 rfl Tryd.ntmps61 Tryd.results61 rfl ⟨trivial, trivial⟩ (by kernel_rfl) rfl ?_
  refine AWP.weak ?_
  unfold internal_strconv_AppendUint_w3 at h
  refine AWP.move (env' := [(0, .c (.own 1 0 l.length)), (1, .c (.imm (.val (.int .u64 iv)))), (2, .c (int base))]) (σ' := [.dead, .one (vec 1 eU8 l)]) 1 0 rfl rfl rfl ⟨rfl, rfl, rfl, trivial⟩ rfl ⟨trivial, ⟨Blk.im_ok _ _ _, vec_mv rfl⟩, trivial⟩ ?_
  refine AWP.seq ?_
  refine AWP.region ?_
  refine AOps.assign rfl rfl ?_
  refine AOps.nil ?_
  refine thn_normal ?_
  refine AWP.seq ?_
  refine AWP.seq ?_
  refine AWP.region ?_
  refine AOps.move rfl rfl ?_
  refine AOps.eql rfl rfl rfl ?_
  refine AOps.nil ?_
  refine thn_normal ?_
  refine AWP.ite rfl h (fun hc55 h => ?_) (fun hc55 h => ?_)
  · refine AWP.seq ?_
    refine AWP.seq ?_
    refine AWP.region ?_
    refine AOps.move rfl rfl ?_
    refine AOps.lss rfl rfl rfl ?_
    refine AOps.nil ?_
    refine thn_normal ?_
    refine AWP.ite rfl h (fun hc56 h => ?_) (fun hc56 h => ?_)
    · refine AWP.seq ?_
      obtain ⟨a16, ha16, h⟩ := bind_some h
      obtain ⟨a17, ha17, h⟩ := bind_some h
      refine AWP.region ?_
      refine AOps.move rfl rfl ?_
      refine AOps.move rfl rfl ?_
      refine AOps.convInt rfl rfl ?_
      refine AOps.callR rfl rfl rfl rfl (internal_strconv_small_ok ha16) rfl ?_
      refine S.appendStr ha17 rfl rfl rfl rfl rfl rfl rfl rfl rfl rfl ?_
      refine AOps.assign rfl rfl ?_
      refine AOps.nil ?_
      refine thn_normal ?_
      refine AWP.ret ?_
      refine thn_ret ?_
      refine thn_ret ?_
      have ej := Option.some.inj h
      subst ej
      exact ⟨⟨[(6, .c (.own 2 0 a17.length))], [.dead, .dead, .one (vec 1 eU8 a17)]⟩, Sub.env ⟨rfl, trivial⟩, Done.ret rfl ⟨rfl, rfl⟩⟩
    · cases h
  · cases h
theorem internal_strconv_AppendInt_w2_ok {iv : Int} {base : Int} {l : List Int} {r : (List Int)} (h : internal_strconv_AppendInt_w2 iv base l = some r) : FnOk Tryd.prog 55 [.c (.own 0 0 l.length), .c (int iv), .c (int base)] (internal_strconv_AppendInt_w2_s0 iv base l) (fun tt ss => tt = .c (.own 3 0 r.length) ∧ ss = [.dead, .dead, .dead, .one (vec 1 eU8 r)]) := by
  refine FnOk.enter (rs := [.t 6]) Tryd.func55 rfl Tryd.ntmps55 Tryd.results55 rfl ⟨trivial, trivial⟩ (by kernel_rfl) rfl ?_
  refine AWP.weak ?_
  unfold internal_strconv_AppendInt_w2 at h
  refine AWP.move (env' := [(0, .c (.own 1 0 l.length)), (1, .c (int iv)), (2, .c (int base))]) (σ' := [.dead, .one (vec 1 eU8 l)]) 1 0 rfl rfl rfl ⟨rfl, rfl, rfl, trivial⟩ rfl ⟨trivial, ⟨Blk.im_ok _ _ _, vec_mv rfl⟩, trivial⟩ ?_
  refine AWP.seq ?_
  refine AWP.region ?_
  refine AOps.assign rfl rfl ?_
  refine AOps.nil ?_
  refine thn_normal ?_
  refine AWP.seq ?_
  refine AWP.region ?_
  refine AOps.move rfl rfl ?_
  refine AOps.convInt rfl rfl ?_
  refine AOps.assign rfl rfl ?_
  refine AOps.nil ?_
  refine thn_normal ?_
  obtain ⟨u, hx55, h⟩ := bind_some h
  refine AWP.seqJ (⟨[(0, .c (.own 1 0 l.length)), (2, .c (int base)), (7, .c (.imm (.val (.int .u64 ((IntKind.u64).wrap iv)))))], [.dead, .one (vec 1 eU8 l)]⟩) ?_ ?_
  · refine AWP.seq ?_
    refine AWP.region ?_
    refine AOps.move rfl rfl ?_
    refine AOps.lss rfl rfl rfl ?_
    refine AOps.nil ?_
    refine thn_normal ?_
    refine AWP.ite rfl hx55 (fun hc56 hx55 => ?_) (fun hc56 hx55 => ?_)
    · cases hx55
    · refine AWP.skip ?_
      have ej := Option.some.inj hx55
      subst ej
      refine thn_normal ?_
      exact Sub.env ⟨rfl, rfl, rfl, trivial⟩
  · try dsimp only at h
    refine AWP.seq ?_
    obtain ⟨a20, ha20, h⟩ := bind_some h
    refine AWP.region ?_
    refine AOps.move rfl rfl ?_
    refine AOps.move rfl rfl ?_
    refine AOps.move rfl rfl ?_
    refine AOps.callF (r2 := .c (.own 3 0 a20.length)) (σ'' := [.dead, .dead, .dead, .one (vec 1 eU8 a20)]) rfl rfl rfl (FnOk.lend [1] (internal_strconv_AppendUint_w3_ok ha20) rfl rfl rfl rfl rfl rfl (by exact ⟨.vec, trivial⟩) rfl (by exact ⟨(.live rfl .vec), trivial⟩) rfl rfl (by exact ⟨.dead, .dead, .dead, (.new 2 rfl rfl .vec), trivial⟩)) ?_
    refine AOps.assign rfl rfl ?_
    refine AOps.nil ?_
    refine thn_normal ?_
    refine AWP.ret ?_
    have ej := Option.some.inj h
    subst ej
    exact ⟨⟨[(6, .c (.own 3 0 a20.length))], [.dead, .dead, .dead, .one (vec 1 eU8 a20)]⟩, Sub.env ⟨rfl, trivial⟩, Done.ret rfl ⟨rfl, rfl⟩⟩
theorem strconv_AppendInt_w1_ok {iv : Int} {base : Int} {l : List Int} {r : (List Int)} (h : strconv_AppendInt_w1 iv base l = some r) : FnOk Tryd.prog 49 [.c (.own 0 0 l.length), .c (int iv), .c (int base)] (strconv_AppendInt_w1_s0 iv base l) (fun tt ss => tt = .c (.own 4 0 r.length) ∧ ss = [.dead, .dead, .dead, .dead, .one (vec 1 eU8 r)]) := by
  refine FnOk.enter (rs := [.t 6]) Tryd.func49 rfl Tryd.ntmps49 Tryd.results49 rfl ⟨trivial, trivial⟩ (by kernel_rfl) rfl ?_
  refine AWP.weak ?_
  unfold strconv_AppendInt_w1 at h
  refine AWP.move (env' := [(0, .c (.own 1 0 l.length)), (1, .c (int iv)), (2, .c (int base))]) (σ' := [.dead, .one (vec 1 eU8 l)]) 1 0 rfl rfl rfl ⟨rfl, rfl, rfl, trivial⟩ rfl ⟨trivial, ⟨Blk.im_ok _ _ _, vec_mv rfl⟩, trivial⟩ ?_
  refine AWP.seq ?_
  refine AWP.region ?_
  refine AOps.assign rfl rfl ?_
  refine AOps.nil ?_
  refine thn_normal ?_
  refine AWP.seq ?_
  obtain ⟨a10, ha10, h⟩ := bind_some h
  refine AWP.region ?_
  refine AOps.move rfl rfl ?_
  refine AOps.move rfl rfl ?_
  refine AOps.move rfl rfl ?_
  refine AOps.callF (r2 := .c (.own 4 0 a10.length)) (σ'' := [.dead, .dead, .dead, .dead, .one (vec 1 eU8 a10)]) rfl rfl rfl (FnOk.lend [1] (internal_strconv_AppendInt_w2_ok ha10) rfl rfl rfl rfl rfl rfl (by exact ⟨.vec, trivial⟩) rfl (by exact ⟨(.live rfl .vec), trivial⟩) rfl rfl (by exact ⟨.dead, .dead, .dead, .dead, (.new 3 rfl rfl .vec), trivial⟩)) ?_
  refine AOps.assign rfl rfl ?_
  refine AOps.nil ?_
  refine thn_normal ?_
  refine AWP.ret ?_
  have ej := Option.some.inj h
  subst ej
  exact ⟨⟨[(6, .c (.own 4 0 a10.length))], [.dead, .dead, .dead, .dead, .one (vec 1 eU8 a10)]⟩, Sub.env ⟨rfl, trivial⟩, Done.ret rfl ⟨rfl, rfl⟩⟩
theorem belief_Key_ok {l : List (List Int)} {r : ByteArray} (h : belief_Key l = some r) : PureOk Tryd.prog 42 [.c (row 1 eLi64 l)] (.c (.imm (.val (.string r)))) := by
  unfold PureOk
  refine FnOk.enter (rs := [.t 2]) Tryd.func42 rfl Tryd.ntmps42 Tryd.results42 rfl ⟨trivial, trivial⟩ (by kernel_rfl) rfl ?_
  unfold belief_Key at h
  refine AWP.seq ?_
  refine AWP.region ?_
  refine AOps.assign rfl rfl ?_
  refine AOps.nil ?_
  refine thn_normal ?_
  refine AWP.seq ?_
  refine AWP.region ?_
  refine AOps.assign rfl rfl ?_
  refine AOps.nil ?_
  refine thn_normal ?_
  refine AWP.seq ?_
  refine AWP.seq ?_
  refine AWP.region ?_
  refine AOps.move rfl rfl ?_
  refine S.len rfl rfl (fun hl9 => ?_)
  refine AOps.move rfl rfl ?_
  refine AOps.nil ?_
  refine thn_normal ?_
  refine AWP.block ?_
  refine AWP.virtV 1 eU8 3 rfl rfl rfl ?_
  obtain ⟨c2, ho1, h⟩ := bind_some h
  refine AWP.forS ho1 (fun t3 c2 => ⟨[(3, .c (.own 0 0 c2.length)), (8, .c (row 1 eLi64 l)), (9, .c (int (l.length : Int))), (10, .c (int t3))], [.one (vec 1 eU8 c2)]⟩) (fun c2 e st => e = .exit 0 ∧ Sub [] st ⟨[(3, .c (.own 0 0 c2.length))], [.one (vec 1 eU8 c2)]⟩) ?_ ?_ ?_ ?_
  · try dsimp only
    exact Sub.env ⟨(own_len (by first | rfl | simp only [List.length_set])), rfl, rfl, rfl, trivial⟩
  · intro t3 c2 hlot3 hltt3 _
    try dsimp only
    refine AWP.seq ?_
    refine AWP.region ?_
    refine AOps.lss rfl rfl rfl ?_
    refine AOps.nil ?_
    refine thn_normal ?_
    refine AWP.seq ?_
    refine AWP.condNP rfl hltt3 ?_
    refine AWP.exit ?_
    refine thn_exit ?_
    refine thn_exit ⟨rfl, ?_⟩
    exact Sub.env ⟨rfl, trivial⟩
  · intro t3 c2 o hlot3 hltt3 h
    unfold belief_Key_l1 at h
    try dsimp only at h ⊢
    refine AWP.seq ?_
    refine AWP.region ?_
    refine AOps.lss rfl rfl rfl ?_
    refine AOps.nil ?_
    refine thn_normal ?_
    refine AWP.seq ?_
    refine AWP.condP rfl hltt3 ?_
    refine AWP.skip ?_
    refine thn_normal ?_
    refine AWP.seq ?_
    refine AWP.block ?_
    refine AWP.seq ?_
    obtain ⟨a12, ha12, h⟩ := bind_some h
    refine AWP.region ?_
    refine S.idx ha12 rfl rfl rfl rfl ?_
    refine AOps.loadI rfl rfl rfl rfl ?_
    refine AOps.assign rfl rfl ?_
    refine AOps.nil ?_
    refine thn_normal ?_
    refine AWP.seq ?_
    refine AWP.seq ?_
    refine AWP.region ?_
    refine AOps.move rfl rfl ?_
    refine S.len rfl rfl (fun hl15 => ?_)
    refine AOps.move rfl rfl ?_
    refine AOps.nil ?_
    refine thn_normal ?_
    refine AWP.block ?_
    obtain ⟨c4, ho2, h⟩ := bind_some h
    refine AWP.forS ho2 (fun t5 c4 => ⟨[(3, .c (.own 0 0 c4.length)), (8, .c (row 1 eLi64 l)), (9, .c (int (l.length : Int))), (10, .c (int t3)), (14, .c (row 1 intI a12)), (15, .c (int (a12.length : Int))), (16, .c (int t5))], [.one (vec 1 eU8 c4)]⟩) (fun c4 e st => e = .exit 2 ∧ Sub [] st ⟨[(3, .c (.own 0 0 c4.length)), (8, .c (row 1 eLi64 l)), (9, .c (int (l.length : Int))), (10, .c (int t3))], [.one (vec 1 eU8 c4)]⟩) ?_ ?_ ?_ ?_
    · try dsimp only
      exact Sub.env ⟨rfl, rfl, rfl, rfl, rfl, rfl, rfl, trivial⟩
    · intro t5 c4 hlot5 hltt5 _
      try dsimp only
      refine AWP.seq ?_
      refine AWP.region ?_
      refine AOps.lss rfl rfl rfl ?_
      refine AOps.nil ?_
      refine thn_normal ?_
      refine AWP.seq ?_
      refine AWP.condNP rfl hltt5 ?_
      refine AWP.exit ?_
      refine thn_exit ?_
      refine thn_exit ⟨rfl, ?_⟩
      exact Sub.env ⟨rfl, rfl, rfl, rfl, trivial⟩
    · intro t5 c4 o hlot5 hltt5 h
      unfold belief_Key_l2 at h
      try dsimp only at h ⊢
      refine AWP.seq ?_
      refine AWP.region ?_
      refine AOps.lss rfl rfl rfl ?_
      refine AOps.nil ?_
      refine thn_normal ?_
      refine AWP.seq ?_
      refine AWP.condP rfl hltt5 ?_
      refine AWP.skip ?_
      refine thn_normal ?_
      refine AWP.seq ?_
      refine AWP.block ?_
      refine AWP.seq ?_
      obtain ⟨a18, ha18, h⟩ := bind_some h
      refine AWP.region ?_
      refine S.idx ha18 rfl rfl rfl rfl ?_
      refine AOps.loadI rfl rfl rfl rfl ?_
      refine AOps.assign rfl rfl ?_
      refine AOps.nil ?_
      refine thn_normal ?_
      obtain ⟨a22, ha22, h⟩ := bind_some h
      obtain ⟨a24, ha24, h⟩ := bind_some h
      refine AWP.region ?_
      refine AOps.move rfl rfl ?_
      refine AOps.move rfl rfl ?_
      refine AOps.callF (r2 := .c (.own 4 0 a22.length)) (σ'' := [.dead, .dead, .dead, .dead, .one (vec 1 eU8 a22)]) rfl rfl rfl (FnOk.lend [0] (strconv_AppendInt_w1_ok ha22) rfl rfl rfl rfl rfl rfl (by exact ⟨.vec, trivial⟩) rfl (by exact ⟨(.live rfl .vec), trivial⟩) rfl rfl (by exact ⟨.dead, .dead, .dead, .dead, (.new 4 rfl rfl .vec), trivial⟩)) ?_
      refine S.lit (f := eU8) (l := [44]) (ess := [[.imm (.val (.int .u8 44))]]) rfl rfl rfl rfl rfl rfl rfl ⟨⟨.inl rfl, trivial⟩, trivial⟩ rfl rfl rfl ?_
      refine S.append (f := eU8) ha24 rfl rfl rfl rfl rfl rfl (.own rfl rfl) rfl rfl rfl rfl ?_
      refine AOps.assign rfl rfl ?_
      refine AOps.nil ?_
      refine inB_normal ?_
      refine thn_normal ?_
      refine AWP.move (env' := [(3, .c (.own 4 0 a24.length)), (8, .c (row 1 eLi64 l)), (9, .c (int (l.length : Int))), (10, .c (int t3)), (14, .c (row 1 intI a12)), (15, .c (int (a12.length : Int))), (16, .c (int t5))]) (σ' := [.dead, .dead, .dead, .dead, .one (vec 1 eU8 a24), .one (vec 1 eU8 [44])]) 4 6 rfl rfl rfl ⟨rfl, rfl, rfl, rfl, rfl, rfl, rfl, trivial⟩ rfl ⟨trivial, trivial, trivial, trivial, ⟨Blk.im_ok _ _ _, vec_mv rfl⟩, ⟨Blk.im_ok _ _ _, vec_mv rfl⟩, trivial⟩ ?_
      refine AWP.region ?_
      refine AOps.add rfl rfl rfl (by omega) ?_
      refine AOps.move rfl rfl ?_
      refine AOps.nil ?_
      have ej := Option.some.inj h
      subst ej
      refine thn_normal ?_
      exact (Sub.move (env' := [(3, .c (.own 0 0 a24.length)), (8, .c (row 1 eLi64 l)), (9, .c (int (l.length : Int))), (10, .c (int t3)), (14, .c (row 1 intI a12)), (15, .c (int (a12.length : Int))), (16, .c (int (t5 + 1)))]) (σ' := [.one (vec 1 eU8 a24), .dead, .dead, .dead, .dead, .one (vec 1 eU8 [44])]) 0 4 rfl rfl rfl ⟨rfl, rfl, rfl, rfl, rfl, rfl, rfl, trivial⟩ rfl ⟨⟨Blk.im_ok _ _ _, vec_mv rfl⟩, trivial, trivial, trivial, trivial, ⟨Blk.im_ok _ _ _, vec_mv rfl⟩, trivial⟩).trans (Sub.cut ⟨rfl, rfl, rfl, rfl, rfl, rfl, rfl, trivial⟩ rfl ⟨.vec, trivial⟩ rfl)
    · intro e s hq
      obtain ⟨rfl, hs⟩ := hq
      refine ⟨_, hs, ?_⟩
      refine inB_exit ?_
      refine thn_normal ?_
      obtain ⟨a28, ha28, h⟩ := bind_some h
      refine AWP.region ?_
      refine AOps.move rfl rfl ?_
      refine S.lit (f := eU8) (l := [59]) (ess := [[.imm (.val (.int .u8 59))]]) rfl rfl rfl rfl rfl rfl rfl ⟨⟨.inl rfl, trivial⟩, trivial⟩ rfl rfl rfl ?_
      refine S.append (f := eU8) ha28 rfl rfl rfl rfl rfl rfl (.own rfl rfl) rfl rfl rfl rfl ?_
      refine AOps.assign rfl rfl ?_
      refine AOps.nil ?_
      refine inB_normal ?_
      refine thn_normal ?_
      refine AWP.move (env' := [(3, .c (.own 0 0 a28.length)), (8, .c (row 1 eLi64 l)), (9, .c (int (l.length : Int))), (10, .c (int t3))]) (σ' := [.one (vec 1 eU8 a28), .one (vec 1 eU8 [59])]) 0 2 rfl rfl rfl ⟨rfl, rfl, rfl, rfl, trivial⟩ rfl ⟨⟨Blk.im_ok _ _ _, vec_mv rfl⟩, ⟨Blk.im_ok _ _ _, vec_mv rfl⟩, trivial⟩ ?_
      refine AWP.region ?_
      refine AOps.add rfl rfl rfl (by omega) ?_
      refine AOps.move rfl rfl ?_
      refine AOps.nil ?_
      have ej := Option.some.inj h
      subst ej
      refine thn_normal ?_
      exact Sub.cut ⟨rfl, rfl, rfl, rfl, trivial⟩ rfl ⟨.vec, trivial⟩ rfl
  · intro e s hq
    obtain ⟨rfl, hs⟩ := hq
    refine ⟨_, hs, ?_⟩
    refine inB_exit ?_
    refine thn_normal ?_
    refine AWP.seq ?_
    refine AWP.region ?_
    refine AOps.move rfl rfl ?_
    refine S.bytesStr rfl rfl rfl rfl ?_
    refine AOps.assign rfl rfl ?_
    refine AOps.nil ?_
    refine thn_normal ?_
    refine AWP.ret ?_
    have ej := Option.some.inj h
    subst ej
    exact Done.ret rfl rfl
theorem strips_Contains_ok {sv : List Int} {part : List Int} {r : Bool} (h : strips_Contains sv part = some r) : PureOk Tryd.prog 32 [.c (row 1 intI sv), .c (row 1 intI part)] (.c (bool r)) := by
  unfold PureOk
  refine FnOk.enter (rs := [.t 4]) Tryd.func32 rfl Tryd.ntmps32 Tryd.results32 rfl ⟨trivial, trivial⟩ (by kernel_rfl) rfl ?_
  unfold strips_Contains at h
  refine AWP.seq ?_
  refine AWP.region ?_
  refine AOps.assign rfl rfl ?_
  refine AOps.nil ?_
  refine thn_normal ?_
  refine AWP.seq ?_
  refine AWP.region ?_
  refine AOps.assign rfl rfl ?_
  refine AOps.nil ?_
  refine thn_normal ?_
  refine AWP.seq ?_
  refine AWP.seq ?_
  refine AWP.region ?_
  refine AOps.move rfl rfl ?_
  refine S.len rfl rfl (fun hl9 => ?_)
  refine AOps.move rfl rfl ?_
  refine AOps.nil ?_
  refine thn_normal ?_
  refine AWP.block ?_
  obtain ⟨oo, ho1, h⟩ := bind_some h
  refine AWP.rngS ho1 (fun t4 iv3 => ⟨[(0, .c (row 1 intI sv)), (5, .c (int iv3)), (8, .c (row 1 intI part)), (9, .c (int (part.length : Int))), (10, .c (int t4))], []⟩) (fun o e st => match o with | .inl iv3 => e = .exit 0 ∧ Sub [] st ⟨[], []⟩ | .inr x => e = .ret ∧ Done [.t 4] (fun t _ => t = .c (bool x)) .ret st) ?_ ?_ ?_ ?_
  · try dsimp only
    exact Sub.env ⟨rfl, rfl, rfl, rfl, rfl, trivial⟩
  · intro t4 iv3 hlot4 hltt4 _
    try dsimp only
    refine AWP.seq ?_
    refine AWP.region ?_
    refine AOps.lss rfl rfl rfl ?_
    refine AOps.nil ?_
    refine thn_normal ?_
    refine AWP.seq ?_
    refine AWP.condNP rfl hltt4 ?_
    refine AWP.exit ?_
    refine thn_exit ?_
    refine thn_exit ⟨rfl, ?_⟩
    exact Sub.env trivial
  · intro t4 iv3 o hlot4 hltt4 h
    unfold strips_Contains_l1 at h
    try dsimp only at h ⊢
    refine AWP.seq ?_
    refine AWP.region ?_
    refine AOps.lss rfl rfl rfl ?_
    refine AOps.nil ?_
    refine thn_normal ?_
    refine AWP.seq ?_
    refine AWP.condP rfl hltt4 ?_
    refine AWP.skip ?_
    refine thn_normal ?_
    refine AWP.seq ?_
    refine AWP.block ?_
    refine AWP.seq ?_
    obtain ⟨a12, ha12, h⟩ := bind_some h
    refine AWP.region ?_
    refine S.idx ha12 rfl rfl rfl rfl ?_
    refine AOps.loadI rfl rfl rfl rfl ?_
    refine AOps.assign rfl rfl ?_
    refine AOps.nil ?_
    refine thn_normal ?_
    refine AWP.seq ?_
    refine AWP.block ?_
    obtain ⟨iv6, ho2, h⟩ := bind_some h
    refine AWP.loopS ho2 (fun iv5 => ⟨[(0, .c (row 1 intI sv)), (5, .c (int iv5)), (7, .c (int a12)), (8, .c (row 1 intI part)), (9, .c (int (part.length : Int))), (10, .c (int t4))], []⟩) (fun iv6 e st => e = .exit 2 ∧ Sub [] st ⟨[(0, .c (row 1 intI sv)), (5, .c (int iv6)), (7, .c (int a12)), (8, .c (row 1 intI part)), (9, .c (int (part.length : Int))), (10, .c (int t4))], []⟩) ?_ ?_ ?_
    · try dsimp only
      exact Sub.env ⟨rfl, rfl, rfl, rfl, rfl, rfl, trivial⟩
    · intro iv5 o h
      unfold strips_Contains_l2 at h
      try dsimp only at h ⊢
      refine AWP.seq ?_
      obtain ⟨t7, hx8, h⟩ := bind_some h
      refine AWP.seqJ (⟨[(0, .c (row 1 intI sv)), (5, .c (int iv5)), (7, .c (int a12)), (8, .c (row 1 intI part)), (9, .c (int (part.length : Int))), (10, .c (int t4)), (25, .c (bool t7))], []⟩) ?_ ?_
      · rcases Bool.eq_false_or_eq_true (decide (iv5 < (sv.length : Int))) with hb9 | hb9
        · replace hx8 := iteDT hb9 hx8
          obtain ⟨a21, ha21, hx8⟩ := bind_some hx8
          refine AWP.region ?_
          refine AOps.move rfl rfl ?_
          refine AOps.move rfl rfl ?_
          refine S.len rfl rfl (fun hl16 => ?_)
          refine AOps.lss rfl rfl rfl ?_
          refine AOps.move rfl rfl ?_
          refine AOps.guardT rfl rfl rfl hb9 ?_; refine AOps.move rfl rfl ?_
          refine AOps.guardT rfl rfl rfl hb9 ?_; refine AOps.move rfl rfl ?_
          refine AOps.guardT rfl rfl rfl hb9 ?_; refine S.idx ha21 rfl rfl rfl rfl ?_
          refine AOps.guardT rfl rfl rfl hb9 ?_; refine AOps.loadI rfl rfl rfl rfl ?_
          refine AOps.guardT rfl rfl rfl hb9 ?_; refine AOps.move rfl rfl ?_
          refine AOps.guardT rfl rfl rfl hb9 ?_; refine AOps.lss rfl rfl rfl ?_
          refine AOps.pickT rfl hb9 rfl rfl ?_
          refine AOps.nil ?_
          have ej := Option.some.inj hx8
          subst ej
          refine thn_normal ?_
          exact Sub.env ⟨rfl, rfl, rfl, rfl, rfl, rfl, rfl, trivial⟩
        · replace hx8 := iteDF hb9 hx8
          refine AWP.region ?_
          refine AOps.move rfl rfl ?_
          refine AOps.move rfl rfl ?_
          refine S.len rfl rfl (fun hl16 => ?_)
          refine AOps.lss rfl rfl rfl ?_
          refine AOps.move rfl rfl ?_
          refine AOps.guardF rfl rfl rfl hb9 ?_
          refine AOps.guardF rfl rfl rfl hb9 ?_
          refine AOps.guardF rfl rfl rfl hb9 ?_
          refine AOps.guardF rfl rfl rfl hb9 ?_
          refine AOps.guardF rfl rfl rfl hb9 ?_
          refine AOps.guardF rfl rfl rfl hb9 ?_
          refine AOps.pickF rfl hb9 rfl rfl ?_
          refine AOps.nil ?_
          have ej := Option.some.inj hx8
          subst ej
          refine thn_normal ?_
          exact Sub.env ⟨rfl, rfl, rfl, rfl, rfl, rfl, rfl, trivial⟩
      · refine AWP.iteB rfl h (fun hc10 h => ?_) (fun hc10 h => ?_)
        · refine AWP.skip ?_
          refine thn_normal ?_
          refine AWP.block ?_
          refine AWP.region ?_
          refine AOps.move rfl rfl ?_
          refine S.add rfl rfl rfl ?_
          refine AOps.assign rfl rfl ?_
          refine AOps.nil ?_
          refine inB_normal ?_
          have ej := Option.some.inj h
          subst ej
          refine thn_normal ⟨_, rfl, ?_⟩
          exact Sub.env ⟨rfl, rfl, rfl, rfl, rfl, rfl, trivial⟩
        · refine AWP.exit ?_
          refine thn_exit ?_
          have ej := Option.some.inj h
          subst ej
          refine thn_exit ⟨_, rfl, rfl, ?_⟩
          exact Sub.env ⟨rfl, rfl, rfl, rfl, rfl, rfl, trivial⟩
    · intro e s hq
      obtain ⟨rfl, hs⟩ := hq
      refine ⟨_, hs, ?_⟩
      refine inB_exit ?_
      refine thn_normal ?_
      obtain ⟨t11, hx12, h⟩ := bind_some h
      refine AWP.seqJ (⟨[(0, .c (row 1 intI sv)), (5, .c (int iv6)), (8, .c (row 1 intI part)), (9, .c (int (part.length : Int))), (10, .c (int t4)), (39, .c (bool t11))], []⟩) ?_ ?_
      · rcases Bool.eq_false_or_eq_true (decide (iv6 = (sv.length : Int))) with hb13 | hb13
        · replace hx12 := iteDT hb13 hx12
          refine AWP.region ?_
          refine AOps.move rfl rfl ?_
          refine AOps.move rfl rfl ?_
          refine S.len rfl rfl (fun hl30 => ?_)
          refine AOps.eql rfl rfl rfl ?_
          refine AOps.move rfl rfl ?_
          refine AOps.guardF rfl rfl rfl hb13 ?_
          refine AOps.guardF rfl rfl rfl hb13 ?_
          refine AOps.guardF rfl rfl rfl hb13 ?_
          refine AOps.guardF rfl rfl rfl hb13 ?_
          refine AOps.guardF rfl rfl rfl hb13 ?_
          refine AOps.guardF rfl rfl rfl hb13 ?_
          refine AOps.pickT rfl hb13 rfl rfl ?_
          refine AOps.nil ?_
          have ej := Option.some.inj hx12
          subst ej
          refine thn_normal ?_
          exact Sub.env ⟨rfl, rfl, rfl, rfl, rfl, rfl, trivial⟩
        · replace hx12 := iteDF hb13 hx12
          obtain ⟨a35, ha35, hx12⟩ := bind_some hx12
          refine AWP.region ?_
          refine AOps.move rfl rfl ?_
          refine AOps.move rfl rfl ?_
          refine S.len rfl rfl (fun hl30 => ?_)
          refine AOps.eql rfl rfl rfl ?_
          refine AOps.move rfl rfl ?_
          refine AOps.guardT rfl rfl rfl hb13 ?_; refine AOps.move rfl rfl ?_
          refine AOps.guardT rfl rfl rfl hb13 ?_; refine AOps.move rfl rfl ?_
          refine AOps.guardT rfl rfl rfl hb13 ?_; refine S.idx ha35 rfl rfl rfl rfl ?_
          refine AOps.guardT rfl rfl rfl hb13 ?_; refine AOps.loadI rfl rfl rfl rfl ?_
          refine AOps.guardT rfl rfl rfl hb13 ?_; refine AOps.move rfl rfl ?_
          refine AOps.guardT rfl rfl rfl hb13 ?_; refine AOps.neq rfl rfl rfl ?_
          refine AOps.pickF rfl hb13 rfl rfl ?_
          refine AOps.nil ?_
          have ej := Option.some.inj hx12
          subst ej
          refine thn_normal ?_
          exact Sub.env ⟨rfl, rfl, rfl, rfl, rfl, rfl, trivial⟩
      · refine AWP.iteB rfl h (fun hc14 h => ?_) (fun hc14 h => ?_)
        · refine AWP.seq ?_
          refine AWP.region ?_
          refine AOps.assign rfl rfl ?_
          refine AOps.nil ?_
          refine thn_normal ?_
          refine AWP.ret ?_
          refine inB_ret ?_
          refine thn_ret ?_
          have ej := Option.some.inj h
          subst ej
          refine thn_ret ⟨_, rfl, rfl, ?_⟩
          exact Done.ret rfl rfl
        · refine AWP.skip ?_
          refine inB_normal ?_
          refine thn_normal ?_
          refine AWP.region ?_
          refine AOps.add rfl rfl rfl (by omega) ?_
          refine AOps.move rfl rfl ?_
          refine AOps.nil ?_
          have ej := Option.some.inj h
          subst ej
          refine thn_normal ⟨_, rfl, ?_⟩
          exact Sub.env ⟨rfl, rfl, rfl, rfl, rfl, trivial⟩
  · intro e s hq
    rcases oo with iv3 | x
    · try dsimp only at h hq
      obtain ⟨rfl, hs⟩ := hq
      refine ⟨_, hs, ?_⟩
      refine inB_exit ?_
      refine thn_normal ?_
      refine AWP.seq ?_
      refine AWP.region ?_
      refine AOps.assign rfl rfl ?_
      refine AOps.nil ?_
      refine thn_normal ?_
      refine AWP.ret ?_
      have ej := Option.some.inj h
      subst ej
      exact Done.ret rfl rfl
    · try dsimp only at h hq
      obtain ⟨rfl, hs⟩ := hq
      refine ⟨_, Sub.refl _ _, ?_⟩
      refine inB_ret ?_
      refine thn_ret ?_
      have ej := Option.some.inj h
      subst ej
      exact hs
theorem strips_Can_ok {t : TTask} {sv : List Int} {op : Int} {r : Bool} (h : strips_Can t sv op = some r) : PureOk Tryd.prog 30 [.agg [int t.facts, row 1 intI t.init, row 1 intI t.goal, row 4 eTOperator t.operators], .c (row 1 intI sv), .c (int op)] (.c (bool r)) := by
  unfold PureOk
  refine FnOk.enter (rs := [.t 6]) Tryd.func30 rfl Tryd.ntmps30 Tryd.results30 rfl ⟨trivial, trivial⟩ (by kernel_rfl) rfl ?_
  unfold strips_Can at h
  refine AWP.seq ?_
  refine AWP.region ?_
  refine W.box rfl rfl rfl rfl rfl rfl ?_
  refine AOps.assign rfl rfl ?_
  refine AOps.nil ?_
  refine thn_normal ?_
  refine AWP.seq ?_
  obtain ⟨a11, ha11, h⟩ := bind_some h
  obtain ⟨a14, ha14, h⟩ := bind_some h
  refine AWP.region ?_
  refine AOps.move rfl rfl ?_
  refine W.fieldAddr rfl rfl rfl rfl ?_
  refine AOps.load rfl rfl rfl rfl rfl rfl ?_
  refine AOps.move rfl rfl ?_
  refine S.idx ha11 rfl rfl rfl rfl ?_
  refine W.fieldAddrI rfl rfl rfl rfl ?_
  refine AOps.loadI rfl rfl rfl rfl ?_
  refine AOps.callR rfl rfl rfl rfl (strips_Contains_ok ha14) rfl ?_
  refine AOps.assign rfl rfl ?_
  refine AOps.nil ?_
  refine thn_normal ?_
  refine AWP.ret ?_
  have ej := Option.some.inj h
  subst ej
  exact Done.ret rfl rfl
theorem strips_Next_ok {t : TTask} {sv : List Int} {op : Int} {r : (List Int)} (h : strips_Next t sv op = some r) : FreshOk Tryd.prog 31 [.agg [int t.facts, row 1 intI t.init, row 1 intI t.goal, row 4 eTOperator t.operators], .c (row 1 intI sv), .c (int op)] 1 (List.map intI r) := by
  unfold FreshOk
  refine FnOk.enter (rs := [.t 6]) Tryd.func31 rfl Tryd.ntmps31 Tryd.results31 rfl ⟨trivial, trivial⟩ (by kernel_rfl) rfl ?_
  unfold strips_Next at h
  refine AWP.seq ?_
  refine AWP.region ?_
  refine W.box rfl rfl rfl rfl rfl rfl ?_
  refine AOps.assign rfl rfl ?_
  refine AOps.nil ?_
  refine thn_normal ?_
  refine AWP.seq ?_
  obtain ⟨a11, ha11, h⟩ := bind_some h
  refine AWP.region ?_
  refine W.fieldAddr rfl rfl rfl rfl ?_
  refine AOps.load rfl rfl rfl rfl rfl rfl ?_
  refine AOps.move rfl rfl ?_
  refine S.idx ha11 rfl rfl rfl rfl ?_
  refine W.loadIAgg rfl rfl rfl rfl rfl ?_
  refine W.alloc rfl rfl rfl rfl ?_
  refine W.storeAgg rfl rfl rfl rfl rfl rfl rfl ?_
  refine AOps.nil ?_
  refine thn_normal ?_
  refine AWP.seq ?_
  obtain ⟨a18, ha18, h⟩ := bind_some h
  refine AWP.region ?_
  refine AOps.move rfl rfl ?_
  refine W.fieldAddr rfl rfl rfl rfl ?_
  refine AOps.load rfl rfl rfl rfl rfl rfl ?_
  refine W.fieldAddr rfl rfl rfl rfl ?_
  refine AOps.load rfl rfl rfl rfl rfl rfl ?_
  refine S.fresh rfl rfl rfl rfl (strips_Update_ok ha18) rfl rfl ?_
  refine AOps.assign rfl rfl ?_
  refine AOps.nil ?_
  refine thn_normal ?_
  refine AWP.ret ?_
  have ej := Option.some.inj h
  subst ej
  exact Done.ret rfl (Fresh.mk rfl rfl)
theorem merging_merger_turns_w1_okN {t : TTask} {plans : List (List Int)} : ∀ (n : Nat) (xs : (List Int) × (List Int) × (List Int) × (List (ByteArray × Int))) (r : (List Int) × Bool × (List Int) × (List (ByteArray × Int))), recN (merging_merger_turns_w1_b t plans) n xs = some r → FnOk Tryd.prog 25 [.c (.ptr 0 0 0), .c (row 1 intI xs.1), .c (row 1 intI xs.2.1)] (merging_merger_turns_w1_s0 xs.1 xs.2.1 t plans xs.2.2.1 xs.2.2.2) (fun tt ss => tt = .tup [.c (row 1 intI r.1), .c (bool r.2.1)] ∧ ss = [.one (.cells 7 [[int t.facts, row 1 intI t.init, row 1 intI t.goal, row 4 eTOperator t.operators, row 1 eLi64 plans, .own 1 0 r.2.2.1.length, .map 2]]), .one (vec 1 intI r.2.2.1), .one (mapB Value.string (Value.int .i64) r.2.2.2)]) := by
  intro n
  induction n with
  | zero => intro xs r h; cases h
  | succ n ih =>
    intro xs r h
    obtain ⟨sv, atv, l, l6⟩ := xs
    have h : merging_merger_turns_w1_b t plans (recN (merging_merger_turns_w1_b t plans) n) (sv, atv, l, l6) = some r := h
    revert ih h
    generalize recN (merging_merger_turns_w1_b t plans) n = slf
    intro hslf h
    try dsimp only
    refine FnOk.enter (rs := [.t 6, .t 7]) Tryd.func25 rfl Tryd.ntmps25 Tryd.results25 rfl ⟨trivial, trivial, trivial⟩ (by kernel_rfl) rfl ?_
    refine AWP.weak ?_
    unfold merging_merger_turns_w1_b at h
    try dsimp only at h
    refine AWP.seq ?_
    refine AWP.region ?_
    refine AOps.assign rfl rfl ?_
    refine AOps.assign rfl rfl ?_
    refine AOps.nil ?_
    refine thn_normal ?_
    refine AWP.seq ?_
    obtain ⟨a18, ha18, h⟩ := bind_some h
    refine AWP.region ?_
    refine AOps.move rfl rfl ?_
    refine AOps.move rfl rfl ?_
    refine S.lit (f := eLi64) (l := [sv, atv]) (ess := [[row 1 intI sv], [row 1 intI atv]]) rfl rfl rfl rfl rfl rfl rfl ⟨⟨.inl rfl, trivial⟩, ⟨.inl rfl, trivial⟩, trivial⟩ rfl rfl rfl ?_
    refine AOps.callL rfl rfl (.cons (.c (.own rfl rfl)) .nil) rfl (belief_Key_ok ha18) rfl ?_
    refine AOps.assign rfl rfl ?_
    refine AOps.nil ?_
    refine thn_normal ?_
    refine AWP.seq ?_
    refine AWP.seq ?_
    refine AWP.region ?_
    refine AOps.move rfl rfl ?_
    refine AOps.nilCheck rfl rfl rfl ?_
    refine W.fieldAddr rfl rfl rfl rfl ?_
    refine AOps.load rfl rfl rfl rfl rfl rfl ?_
    refine AOps.move rfl rfl ?_
    refine W.lookup (fk := Value.string) (fv := (Value.int .i64)) (k := a18) (z := 0) keyStr rfl (fun _ => rfl) rfl rfl rfl rfl ?_
    refine AOps.gtr rfl rfl rfl ?_
    refine AOps.nil ?_
    refine thn_normal ?_
    refine AWP.ite rfl h (fun hc11 h => ?_) (fun hc11 h => ?_)
    · refine AWP.seq ?_
      refine AWP.region ?_
      refine AOps.assign rfl rfl ?_
      refine AOps.assign rfl rfl ?_
      refine AOps.nil ?_
      refine thn_normal ?_
      refine AWP.nilrow 1 6 rfl ?_
      refine AWP.ret ?_
      refine thn_ret ?_
      have ej := Option.some.inj h
      subst ej
      exact ⟨⟨[(6, .c (row 1 intI [])), (7, .c (bool false))], [.one (.cells 7 [[int t.facts, row 1 intI t.init, row 1 intI t.goal, row 4 eTOperator t.operators, row 1 eLi64 plans, .own 1 0 l.length, .map 2]]), .one (vec 1 intI l), .one (mapB Value.string (Value.int .i64) l6)]⟩, Sub.cut ⟨rfl, rfl, trivial⟩ rfl ⟨.one rfl, .vec, .one rfl, trivial⟩ rfl, Done.ret rfl ⟨rfl, rfl⟩⟩
    · refine AWP.skip ?_
      refine thn_normal ?_
      refine AWP.seq ?_
      refine AWP.region ?_
      refine AOps.assign rfl rfl ?_
      refine AOps.nil ?_
      refine thn_normal ?_
      refine AWP.seq ?_
      refine AWP.seq ?_
      refine AWP.region ?_
      refine AOps.move rfl rfl ?_
      refine AOps.nilCheck rfl rfl rfl ?_
      refine W.fieldAddr rfl rfl rfl rfl ?_
      refine AOps.load rfl rfl rfl rfl rfl rfl ?_
      refine S.len rfl rfl (fun hl30 => ?_)
      refine AOps.move rfl rfl ?_
      refine AOps.nil ?_
      refine thn_normal ?_
      refine AWP.block ?_
      obtain ⟨oo, ho1, h⟩ := bind_some h
      refine AWP.rngS ho1 (fun t15 (c12, c13, done14) => ⟨[(0, .c (.ptr 0 0 0)), (1, .c (row 1 intI sv)), (2, .c (row 1 intI atv)), (8, .c (.imm (.val (.string a18)))), (9, .c (bool done14)), (29, .c (row 1 eLi64 plans)), (30, .c (int (plans.length : Int))), (31, .c (int t15))], [.one (.cells 7 [[int t.facts, row 1 intI t.init, row 1 intI t.goal, row 4 eTOperator t.operators, row 1 eLi64 plans, .own 1 0 c12.length, .map 2]]), .one (vec 1 intI c12), .one (mapB Value.string (Value.int .i64) c13)]⟩) (fun o e st => match o with | .inl (c12, c13, done14) => e = .exit 0 ∧ Sub (merging_merger_turns_w1_s0 sv atv t plans l l6) st ⟨[(0, .c (.ptr 0 0 0)), (1, .c (row 1 intI sv)), (8, .c (.imm (.val (.string a18)))), (9, .c (bool done14))], [.one (.cells 7 [[int t.facts, row 1 intI t.init, row 1 intI t.goal, row 4 eTOperator t.operators, row 1 eLi64 plans, .own 1 0 c12.length, .map 2]]), .one (vec 1 intI c12), .one (mapB Value.string (Value.int .i64) c13)]⟩ | .inr x => e = .ret ∧ ∃ J, Sub (merging_merger_turns_w1_s0 sv atv t plans l l6) st J ∧ Done [.t 6, .t 7] (fun tt ss => tt = .tup [.c (row 1 intI x.1), .c (bool x.2.1)] ∧ ss = [.one (.cells 7 [[int t.facts, row 1 intI t.init, row 1 intI t.goal, row 4 eTOperator t.operators, row 1 eLi64 plans, .own 1 0 x.2.2.1.length, .map 2]]), .one (vec 1 intI x.2.2.1), .one (mapB Value.string (Value.int .i64) x.2.2.2)]) .ret J) ?_ ?_ ?_ ?_
      · try dsimp only
        exact Sub.cut ⟨rfl, rfl, rfl, rfl, rfl, rfl, rfl, rfl, trivial⟩ rfl ⟨.one rfl, .vec, .one rfl, trivial⟩ rfl
      · intro t15 s hlot15 hltt15 _
        obtain ⟨c12, c13, done14⟩ := s
        try dsimp only
        refine AWP.seq ?_
        refine AWP.region ?_
        refine AOps.lss rfl rfl rfl ?_
        refine AOps.nil ?_
        refine thn_normal ?_
        refine AWP.seq ?_
        refine AWP.condNP rfl hltt15 ?_
        refine AWP.exit ?_
        refine thn_exit ?_
        refine thn_exit ⟨rfl, ?_⟩
        exact Sub.env ⟨rfl, rfl, rfl, rfl, trivial⟩
      · intro t15 s o hlot15 hltt15 h
        obtain ⟨c12, c13, done14⟩ := s
        unfold merging_merger_turns_w1_l1 at h
        try dsimp only at h ⊢
        refine AWP.seq ?_
        refine AWP.region ?_
        refine AOps.lss rfl rfl rfl ?_
        refine AOps.nil ?_
        refine thn_normal ?_
        refine AWP.seq ?_
        refine AWP.condP rfl hltt15 ?_
        refine AWP.skip ?_
        refine thn_normal ?_
        refine AWP.seqF (merging_merger_turns_w1_j2) o (fun (c16, c17, done18) => ⟨[(0, .c (.ptr 0 0 0)), (1, .c (row 1 intI sv)), (2, .c (row 1 intI atv)), (8, .c (.imm (.val (.string a18)))), (9, .c (bool done18)), (29, .c (row 1 eLi64 plans)), (30, .c (int (plans.length : Int))), (31, .c (int t15))], [.one (.cells 7 [[int t.facts, row 1 intI t.init, row 1 intI t.goal, row 4 eTOperator t.operators, row 1 eLi64 plans, .own 1 0 c16.length, .map 2]]), .one (vec 1 intI c16), .one (mapB Value.string (Value.int .i64) c17)]⟩) (fun x h => ?_) ?_
        · obtain ⟨c16, c17, done18⟩ := x
          unfold merging_merger_turns_w1_j2 at h
          try dsimp only at h ⊢
          refine AWP.region ?_
          refine AOps.add rfl rfl rfl (by omega) ?_
          refine AOps.move rfl rfl ?_
          refine AOps.nil ?_
          have ej := Option.some.inj h
          subst ej
          refine thn_normal ⟨_, rfl, ?_⟩
          exact Sub.env ⟨rfl, rfl, rfl, rfl, rfl, rfl, rfl, rfl, trivial⟩
        · refine AWP.block ?_
          refine AWP.seq ?_
          obtain ⟨a34, ha34, h⟩ := bind_some h
          refine AWP.region ?_
          refine AOps.move rfl rfl ?_
          refine S.idx ha34 rfl rfl rfl rfl ?_
          refine AOps.loadI rfl rfl rfl rfl ?_
          refine AOps.assign rfl rfl ?_
          refine AOps.assign rfl rfl ?_
          refine AOps.nil ?_
          refine thn_normal ?_
          refine AWP.seq ?_
          refine AWP.seq ?_
          obtain ⟨a38, ha38, h⟩ := bind_some h
          refine AWP.region ?_
          refine AOps.move rfl rfl ?_
          refine AOps.move rfl rfl ?_
          refine S.idx ha38 rfl rfl rfl rfl ?_
          refine AOps.loadI rfl rfl rfl rfl ?_
          refine AOps.move rfl rfl ?_
          refine S.len rfl rfl (fun hl41 => ?_)
          refine AOps.eql rfl rfl rfl ?_
          refine AOps.nil ?_
          refine thn_normal ?_
          refine AWP.ite rfl h (fun hc19 h => ?_) (fun hc19 h => ?_)
          · refine AWP.exit ?_
            refine thn_exit ?_
            refine inB_exit ?_
            refine thn_normal ⟨_, h, ?_⟩
            exact Sub.env ⟨rfl, rfl, rfl, rfl, rfl, rfl, rfl, rfl, trivial⟩
          · refine AWP.skip ?_
            refine thn_normal ?_
            refine AWP.seq ?_
            refine AWP.region ?_
            refine AOps.assign rfl rfl ?_
            refine AOps.nil ?_
            refine thn_normal ?_
            refine AWP.seq ?_
            refine AWP.seq ?_
            obtain ⟨a51, ha51, h⟩ := bind_some h
            obtain ⟨a53, ha53, h⟩ := bind_some h
            obtain ⟨a55, ha55, h⟩ := bind_some h
            refine AWP.drawI mixed rfl ?_
            apply DrawSeq.consF; exact rfl; intro E
            refine AOps.move rfl rfl ?_
            exact AOps.nil ⟨rfl, rfl⟩
            exact rfl
            apply DrawSeq.consF; exact rfl; intro E
            refine AOps.nilCheck rfl rfl rfl ?_
            exact AOps.nil ⟨rfl, rfl⟩
            exact rfl
            apply DrawSeq.consF; exact rfl; intro E
            refine W.fieldAddr rfl rfl rfl rfl ?_
            exact AOps.nil ⟨rfl, rfl⟩
            exact rfl
            apply DrawSeq.consF; exact rfl; intro E
            refine W.loadAgg rfl rfl rfl rfl rfl rfl rfl ?_
            exact AOps.nil ⟨rfl, rfl⟩
            exact rfl
            apply DrawSeq.consF; exact rfl; intro E
            refine AOps.move rfl rfl ?_
            exact AOps.nil ⟨rfl, rfl⟩
            exact rfl
            apply DrawSeq.consF; exact rfl; intro E
            refine AOps.move rfl rfl ?_
            exact AOps.nil ⟨rfl, rfl⟩
            exact rfl
            apply DrawSeq.consF; exact rfl; intro E
            refine AOps.move rfl rfl ?_
            exact AOps.nil ⟨rfl, rfl⟩
            exact rfl
            apply DrawSeq.consF; exact rfl; intro E
            refine AOps.move rfl rfl ?_
            exact AOps.nil ⟨rfl, rfl⟩
            exact rfl
            apply DrawSeq.consF; exact rfl; intro E
            refine S.idx ha51 rfl rfl rfl rfl ?_
            exact AOps.nil ⟨rfl, rfl⟩
            exact rfl
            apply DrawSeq.consF; exact rfl; intro E
            refine AOps.loadI rfl rfl rfl rfl ?_
            exact AOps.nil ⟨rfl, rfl⟩
            exact rfl
            apply DrawSeq.consF; exact rfl; intro E
            refine S.idx ha53 rfl rfl rfl rfl ?_
            exact AOps.nil ⟨rfl, rfl⟩
            exact rfl
            apply DrawSeq.consF; exact rfl; intro E
            refine AOps.loadI rfl rfl rfl rfl ?_
            exact AOps.nil ⟨rfl, rfl⟩
            exact rfl
            apply DrawSeq.consF; exact rfl; intro E
            refine AOps.callR rfl rfl rfl rfl (strips_Can_ok ha55) rfl ?_
            exact AOps.nil ⟨rfl, rfl⟩
            exact rfl
            apply DrawSeq.consF; exact rfl; intro E
            refine AOps.not rfl rfl ?_
            exact AOps.nil ⟨rfl, rfl⟩
            exact rfl
            refine DrawSeq.done ?_
            dsimp only [envEnd]
            refine thn_normal ?_
            refine AWP.iteB rfl h (fun hc20 h => ?_) (fun hc20 h => ?_)
            · refine AWP.exit ?_
              refine thn_exit ?_
              refine inB_exit ?_
              refine thn_normal ⟨_, h, ?_⟩
              exact Sub.env ⟨rfl, rfl, rfl, rfl, rfl, rfl, rfl, rfl, trivial⟩
            · refine AWP.skip ?_
              refine thn_normal ?_
              refine AWP.seq ?_
              obtain ⟨a58, ha58, h⟩ := bind_some h
              refine AWP.region ?_
              refine AOps.move rfl rfl ?_
              refine S.fresh rfl rfl rfl rfl (slices_Clone_int_int_ok ha58) rfl rfl ?_
              refine AOps.assign rfl rfl ?_
              refine AOps.nil ?_
              refine thn_normal ?_
              refine AWP.seq ?_
              obtain ⟨a61, ha61, h⟩ := bind_some h
              obtain ⟨a64, ha64, h⟩ := bind_some h
              refine AWP.region ?_
              refine AOps.move rfl rfl ?_
              refine AOps.move rfl rfl ?_
              refine S.idxO ha61 rfl rfl rfl rfl rfl ?_
              refine S.loadO ha61 rfl rfl rfl rfl rfl ?_
              refine S.add rfl rfl rfl ?_
              refine S.idxO ha64 rfl rfl rfl rfl rfl ?_
              refine S.storeO1 (f := intI) (a' := w64 (a61 + 1)) (ix_lt ha64) (fun _ => ⟨_, rfl⟩) rfl rfl rfl rfl rfl ?_
              refine AOps.nil ?_
              refine thn_normal ?_
              refine AWP.seq ?_
              refine AWP.frzV (id := 3) (l := a58.set t15.toNat (w64 (a61 + 1))) (env2 := [(0, .c (.ptr 0 0 0)), (1, .c (row 1 intI sv)), (2, .c (row 1 intI atv)), (8, .c (.imm (.val (.string a18)))), (9, .c (bool false)), (10, .c (int t15)), (11, .c (row 1 intI a34)), (12, .c (row 1 intI (a58.set t15.toNat (w64 (a61 + 1))))), (29, .c (row 1 eLi64 plans)), (30, .c (int (plans.length : Int))), (31, .c (int t15))]) (σ2 := [.one (.cells 7 [[int t.facts, row 1 intI t.init, row 1 intI t.goal, row 4 eTOperator t.operators, row 1 eLi64 plans, .own 1 0 c12.length, .map 2]]), .one (vec 1 intI c12), .one (mapB Value.string (Value.int .i64) c13), .dead]) rfl rfl (by exact ⟨⟨_, rfl, .inl ⟨rfl, rfl⟩⟩, ⟨_, rfl, .inl ⟨rfl, rfl⟩⟩, ⟨_, rfl, .inl ⟨rfl, rfl⟩⟩, ⟨_, rfl, .inl ⟨rfl, rfl⟩⟩, ⟨_, rfl, .inl ⟨rfl, rfl⟩⟩, ⟨_, rfl, .inl ⟨rfl, rfl⟩⟩, ⟨_, rfl, .inl ⟨rfl, rfl⟩⟩, ⟨_, rfl, .inr ⟨_, rfl, (by simp only [List.length_set]), rfl⟩⟩, ⟨_, rfl, .inl ⟨rfl, rfl⟩⟩, ⟨_, rfl, .inl ⟨rfl, rfl⟩⟩, ⟨_, rfl, .inl ⟨rfl, rfl⟩⟩, trivial⟩) rfl (by exact ⟨⟨rfl, .inl ⟨rfl, rfl⟩, .inl ⟨rfl, rfl⟩, .inl ⟨rfl, rfl⟩, .inl ⟨rfl, rfl⟩, .inl ⟨rfl, rfl⟩, .inl ⟨rfl, rfl⟩, .inl ⟨rfl, rfl⟩, trivial⟩, FrzB.vec, ⟨rfl, rfl⟩, trivial, trivial⟩) ?_
              obtain ⟨a75, ha75, h⟩ := bind_some h
              obtain ⟨a77, ha77, h⟩ := bind_some h
              obtain ⟨a79, ha79, h⟩ := bind_some h
              obtain ⟨a81, ha81, h⟩ := bind_some h
              refine AWP.drawEI [15] mixed rfl rfl rfl ?_
              apply DrawSeqE.consN; exact rfl; exact rfl; intro E
              refine AOps.move rfl rfl ?_
              exact AOps.nil ⟨rfl, rfl⟩
              exact rfl
              apply DrawSeqE.consN; exact rfl; exact rfl; intro E
              refine AOps.move rfl rfl ?_
              exact AOps.nil ⟨rfl, rfl⟩
              exact rfl
              apply DrawSeqE.consN; exact rfl; exact rfl; intro E
              refine AOps.nilCheck rfl rfl rfl ?_
              exact AOps.nil ⟨rfl, rfl⟩
              exact rfl
              apply DrawSeqE.consN; exact rfl; exact rfl; intro E
              refine W.fieldAddr rfl rfl rfl rfl ?_
              exact AOps.nil ⟨rfl, rfl⟩
              exact rfl
              apply DrawSeqE.consN; exact rfl; exact rfl; intro E
              refine W.loadAgg rfl rfl rfl rfl rfl rfl rfl ?_
              exact AOps.nil ⟨rfl, rfl⟩
              exact rfl
              apply DrawSeqE.consN; exact rfl; exact rfl; intro E
              refine AOps.move rfl rfl ?_
              exact AOps.nil ⟨rfl, rfl⟩
              exact rfl
              apply DrawSeqE.consN; exact rfl; exact rfl; intro E
              refine AOps.move rfl rfl ?_
              exact AOps.nil ⟨rfl, rfl⟩
              exact rfl
              apply DrawSeqE.consN; exact rfl; exact rfl; intro E
              refine AOps.move rfl rfl ?_
              exact AOps.nil ⟨rfl, rfl⟩
              exact rfl
              apply DrawSeqE.consN; exact rfl; exact rfl; intro E
              refine AOps.move rfl rfl ?_
              exact AOps.nil ⟨rfl, rfl⟩
              exact rfl
              apply DrawSeqE.consN; exact rfl; exact rfl; intro E
              refine S.idx ha75 rfl rfl rfl rfl ?_
              exact AOps.nil ⟨rfl, rfl⟩
              exact rfl
              apply DrawSeqE.consN; exact rfl; exact rfl; intro E
              refine AOps.loadI rfl rfl rfl rfl ?_
              exact AOps.nil ⟨rfl, rfl⟩
              exact rfl
              apply DrawSeqE.consN; exact rfl; exact rfl; intro E
              refine S.idx ha77 rfl rfl rfl rfl ?_
              exact AOps.nil ⟨rfl, rfl⟩
              exact rfl
              apply DrawSeqE.consN; exact rfl; exact rfl; intro E
              refine AOps.loadI rfl rfl rfl rfl ?_
              exact AOps.nil ⟨rfl, rfl⟩
              exact rfl
              apply DrawSeqE.consN; exact rfl; exact rfl; intro E
              refine AOps.callR rfl rfl rfl rfl (FreshOk.data (strips_Next_ok ha79)) rfl ?_
              exact AOps.nil ⟨rfl, rfl⟩
              exact rfl
              apply DrawSeqE.consN; exact rfl; exact rfl; intro E
              refine AOps.move rfl rfl ?_
              exact AOps.nil ⟨rfl, rfl⟩
              exact rfl
              apply DrawSeqE.consE; exact rfl; exact rfl; intro E
              refine AOps.callF (r2 := .tup [.c (row 1 intI a81.1), .c (bool a81.2.1)]) (σ'' := [.one (.cells 7 [[int t.facts, row 1 intI t.init, row 1 intI t.goal, row 4 eTOperator t.operators, row 1 eLi64 plans, .own 1 0 a81.2.2.1.length, .map 2]]), .one (vec 1 intI a81.2.2.1), .one (mapB Value.string (Value.int .i64) a81.2.2.2), .dead]) rfl rfl rfl (FnOk.lend [0, 1, 2] (hslf _ _ ha81) rfl rfl rfl rfl rfl rfl (by exact ⟨(.one rfl), .vec, (.one rfl), trivial⟩) rfl (by exact ⟨(.live rfl (.one rfl)), (.live rfl .vec), (.live rfl (.one rfl)), trivial⟩) rfl rfl (by exact ⟨(.new 0 rfl rfl (.one rfl)), (.new 1 rfl rfl .vec), (.new 2 rfl rfl (.one rfl)), .dead, trivial⟩)) ?_
              exact AOps.nil ⟨rfl, rfl⟩
              exact rfl
              exact rfl
              apply DrawSeqE.consN; exact rfl; exact rfl; intro E
              refine AOps.move rfl rfl ?_
              exact AOps.nil ⟨rfl, rfl⟩
              exact rfl
              apply DrawSeqE.consN; exact rfl; exact rfl; intro E
              refine AOps.extract rfl rfl rfl ?_
              exact AOps.nil ⟨rfl, rfl⟩
              exact rfl
              apply DrawSeqE.consN; exact rfl; exact rfl; intro E
              refine AOps.extract rfl rfl rfl ?_
              exact AOps.nil ⟨rfl, rfl⟩
              exact rfl
              apply DrawSeqE.consN; exact rfl; exact rfl; intro E
              refine AOps.assign rfl rfl ?_
              exact AOps.nil ⟨rfl, rfl⟩
              exact rfl
              apply DrawSeqE.consN; exact rfl; exact rfl; intro E
              refine AOps.assign rfl rfl ?_
              exact AOps.nil ⟨rfl, rfl⟩
              exact rfl
              refine DrawSeqE.done rfl ?_ ?_
              · apply RestI.cons; exact rfl; exact rfl
                first | refine RestK.skip rfl ?_ | (apply RestK.go; exact rfl; exact rfl; intro E; (refine AOps.move rfl rfl ?_); exact AOps.nil ⟨rfl, rfl⟩)
                first | refine RestK.skip rfl ?_ | (apply RestK.go; exact rfl; exact rfl; intro E; (refine AOps.move rfl rfl ?_); exact AOps.nil ⟨rfl, rfl⟩)
                exact RestK.nil
                apply RestI.cons; exact rfl; exact rfl
                first | refine RestK.skip rfl ?_ | (apply RestK.go; exact rfl; exact rfl; intro E; (refine AOps.move rfl rfl ?_); exact AOps.nil ⟨rfl, rfl⟩)
                first | refine RestK.skip rfl ?_ | (apply RestK.go; exact rfl; exact rfl; intro E; (refine AOps.move rfl rfl ?_); exact AOps.nil ⟨rfl, rfl⟩)
                exact RestK.nil
                apply RestI.cons; exact rfl; exact rfl
                first | refine RestK.skip rfl ?_ | (apply RestK.go; exact rfl; exact rfl; intro E; (refine AOps.nilCheck rfl rfl rfl ?_); exact AOps.nil ⟨rfl, rfl⟩)
                first | refine RestK.skip rfl ?_ | (apply RestK.go; exact rfl; exact rfl; intro E; (refine AOps.nilCheck rfl rfl rfl ?_); exact AOps.nil ⟨rfl, rfl⟩)
                exact RestK.nil
                apply RestI.cons; exact rfl; exact rfl
                first | refine RestK.skip rfl ?_ | (apply RestK.go; exact rfl; exact rfl; intro E; (refine W.fieldAddr rfl rfl rfl rfl ?_); exact AOps.nil ⟨rfl, rfl⟩)
                first | refine RestK.skip rfl ?_ | (apply RestK.go; exact rfl; exact rfl; intro E; (refine W.fieldAddr rfl rfl rfl rfl ?_); exact AOps.nil ⟨rfl, rfl⟩)
                exact RestK.nil
                apply RestI.cons; exact rfl; exact rfl
                first | refine RestK.skip rfl ?_ | (apply RestK.go; exact rfl; exact rfl; intro E; (refine W.loadAgg rfl rfl rfl rfl rfl rfl rfl ?_); exact AOps.nil ⟨rfl, rfl⟩)
                first | refine RestK.skip rfl ?_ | (apply RestK.go; exact rfl; exact rfl; intro E; (refine W.loadAgg rfl rfl rfl rfl rfl rfl rfl ?_); exact AOps.nil ⟨rfl, rfl⟩)
                exact RestK.nil
                apply RestI.cons; exact rfl; exact rfl
                first | refine RestK.skip rfl ?_ | (apply RestK.go; exact rfl; exact rfl; intro E; (refine AOps.move rfl rfl ?_); exact AOps.nil ⟨rfl, rfl⟩)
                first | refine RestK.skip rfl ?_ | (apply RestK.go; exact rfl; exact rfl; intro E; (refine AOps.move rfl rfl ?_); exact AOps.nil ⟨rfl, rfl⟩)
                exact RestK.nil
                apply RestI.cons; exact rfl; exact rfl
                first | refine RestK.skip rfl ?_ | (apply RestK.go; exact rfl; exact rfl; intro E; (refine AOps.move rfl rfl ?_); exact AOps.nil ⟨rfl, rfl⟩)
                first | refine RestK.skip rfl ?_ | (apply RestK.go; exact rfl; exact rfl; intro E; (refine AOps.move rfl rfl ?_); exact AOps.nil ⟨rfl, rfl⟩)
                exact RestK.nil
                apply RestI.cons; exact rfl; exact rfl
                first | refine RestK.skip rfl ?_ | (apply RestK.go; exact rfl; exact rfl; intro E; (refine AOps.move rfl rfl ?_); exact AOps.nil ⟨rfl, rfl⟩)
                first | refine RestK.skip rfl ?_ | (apply RestK.go; exact rfl; exact rfl; intro E; (refine AOps.move rfl rfl ?_); exact AOps.nil ⟨rfl, rfl⟩)
                exact RestK.nil
                apply RestI.cons; exact rfl; exact rfl
                first | refine RestK.skip rfl ?_ | (apply RestK.go; exact rfl; exact rfl; intro E; (refine AOps.move rfl rfl ?_); exact AOps.nil ⟨rfl, rfl⟩)
                first | refine RestK.skip rfl ?_ | (apply RestK.go; exact rfl; exact rfl; intro E; (refine AOps.move rfl rfl ?_); exact AOps.nil ⟨rfl, rfl⟩)
                exact RestK.nil
                apply RestI.cons; exact rfl; exact rfl
                first | refine RestK.skip rfl ?_ | (apply RestK.go; exact rfl; exact rfl; intro E; (refine S.idx ha75 rfl rfl rfl rfl ?_); exact AOps.nil ⟨rfl, rfl⟩)
                first | refine RestK.skip rfl ?_ | (apply RestK.go; exact rfl; exact rfl; intro E; (refine S.idx ha75 rfl rfl rfl rfl ?_); exact AOps.nil ⟨rfl, rfl⟩)
                exact RestK.nil
                apply RestI.cons; exact rfl; exact rfl
                first | refine RestK.skip rfl ?_ | (apply RestK.go; exact rfl; exact rfl; intro E; (refine AOps.loadI rfl rfl rfl rfl ?_); exact AOps.nil ⟨rfl, rfl⟩)
                first | refine RestK.skip rfl ?_ | (apply RestK.go; exact rfl; exact rfl; intro E; (refine AOps.loadI rfl rfl rfl rfl ?_); exact AOps.nil ⟨rfl, rfl⟩)
                exact RestK.nil
                apply RestI.cons; exact rfl; exact rfl
                first | refine RestK.skip rfl ?_ | (apply RestK.go; exact rfl; exact rfl; intro E; (refine S.idx ha77 rfl rfl rfl rfl ?_); exact AOps.nil ⟨rfl, rfl⟩)
                first | refine RestK.skip rfl ?_ | (apply RestK.go; exact rfl; exact rfl; intro E; (refine S.idx ha77 rfl rfl rfl rfl ?_); exact AOps.nil ⟨rfl, rfl⟩)
                exact RestK.nil
                apply RestI.cons; exact rfl; exact rfl
                first | refine RestK.skip rfl ?_ | (apply RestK.go; exact rfl; exact rfl; intro E; (refine AOps.loadI rfl rfl rfl rfl ?_); exact AOps.nil ⟨rfl, rfl⟩)
                first | refine RestK.skip rfl ?_ | (apply RestK.go; exact rfl; exact rfl; intro E; (refine AOps.loadI rfl rfl rfl rfl ?_); exact AOps.nil ⟨rfl, rfl⟩)
                exact RestK.nil
                apply RestI.cons; exact rfl; exact rfl
                first | refine RestK.skip rfl ?_ | (apply RestK.go; exact rfl; exact rfl; intro E; (refine AOps.callR rfl rfl rfl rfl (FreshOk.data (strips_Next_ok ha79)) rfl ?_); exact AOps.nil ⟨rfl, rfl⟩)
                first | refine RestK.skip rfl ?_ | (apply RestK.go; exact rfl; exact rfl; intro E; (refine AOps.callR rfl rfl rfl rfl (FreshOk.data (strips_Next_ok ha79)) rfl ?_); exact AOps.nil ⟨rfl, rfl⟩)
                exact RestK.nil
                apply RestI.cons; exact rfl; exact rfl
                first | refine RestK.skip rfl ?_ | (apply RestK.go; exact rfl; exact rfl; intro E; (refine AOps.move rfl rfl ?_); exact AOps.nil ⟨rfl, rfl⟩)
                first | refine RestK.skip rfl ?_ | (apply RestK.go; exact rfl; exact rfl; intro E; (refine AOps.move rfl rfl ?_); exact AOps.nil ⟨rfl, rfl⟩)
                exact RestK.nil
                refine RestI.skip rfl ?_
                apply RestI.cons; exact rfl; exact rfl
                first | refine RestK.skip rfl ?_ | (apply RestK.go; exact rfl; exact rfl; intro E; (refine AOps.move rfl rfl ?_); exact AOps.nil ⟨rfl, rfl⟩)
                first | refine RestK.skip rfl ?_ | (apply RestK.go; exact rfl; exact rfl; intro E; (refine AOps.move rfl rfl ?_); exact AOps.nil ⟨rfl, rfl⟩)
                exact RestK.nil
                apply RestI.cons; exact rfl; exact rfl
                first | refine RestK.skip rfl ?_ | (apply RestK.go; exact rfl; exact rfl; intro E; (refine AOps.extract rfl rfl rfl ?_); exact AOps.nil ⟨rfl, rfl⟩)
                first | refine RestK.skip rfl ?_ | (apply RestK.go; exact rfl; exact rfl; intro E; (refine AOps.extract rfl rfl rfl ?_); exact AOps.nil ⟨rfl, rfl⟩)
                exact RestK.nil
                apply RestI.cons; exact rfl; exact rfl
                first | refine RestK.skip rfl ?_ | (apply RestK.go; exact rfl; exact rfl; intro E; (refine AOps.extract rfl rfl rfl ?_); exact AOps.nil ⟨rfl, rfl⟩)
                first | refine RestK.skip rfl ?_ | (apply RestK.go; exact rfl; exact rfl; intro E; (refine AOps.extract rfl rfl rfl ?_); exact AOps.nil ⟨rfl, rfl⟩)
                exact RestK.nil
                apply RestI.cons; exact rfl; exact rfl
                first | refine RestK.skip rfl ?_ | (apply RestK.go; exact rfl; exact rfl; intro E; (refine AOps.assign rfl rfl ?_); exact AOps.nil ⟨rfl, rfl⟩)
                first | refine RestK.skip rfl ?_ | (apply RestK.go; exact rfl; exact rfl; intro E; (refine AOps.assign rfl rfl ?_); exact AOps.nil ⟨rfl, rfl⟩)
                exact RestK.nil
                apply RestI.cons; exact rfl; exact rfl
                first | refine RestK.skip rfl ?_ | (apply RestK.go; exact rfl; exact rfl; intro E; (refine AOps.assign rfl rfl ?_); exact AOps.nil ⟨rfl, rfl⟩)
                first | refine RestK.skip rfl ?_ | (apply RestK.go; exact rfl; exact rfl; intro E; (refine AOps.assign rfl rfl ?_); exact AOps.nil ⟨rfl, rfl⟩)
                exact RestK.nil
                exact RestI.nil
              dsimp only [envEnd]
              refine thn_normal ?_
              refine AWP.seq ?_
              refine AWP.region ?_
              refine AOps.move rfl rfl ?_
              refine AOps.nil ?_
              refine thn_normal ?_
              refine AWP.iteB rfl h (fun hc21 h => ?_) (fun hc21 h => ?_)
              · refine AWP.seq ?_
                obtain ⟨a88, ha88, h⟩ := bind_some h
                refine AWP.region ?_
                refine AOps.move rfl rfl ?_
                refine S.lit (f := intI) (l := [t15]) (ess := [[int t15]]) rfl rfl rfl rfl rfl rfl rfl ⟨⟨.inl rfl, trivial⟩, trivial⟩ rfl rfl rfl ?_
                refine AOps.move rfl rfl ?_
                refine S.append (f := intI) ha88 rfl rfl rfl rfl rfl rfl .row rfl rfl rfl rfl ?_
                refine AOps.assign rfl rfl ?_
                refine AOps.assign rfl rfl ?_
                refine AOps.nil ?_
                refine thn_normal ?_
                refine AWP.frzV (id := 5) (l := a88) (env2 := [(6, .c (row 1 intI a88)), (7, .c (bool true))]) (σ2 := [.one (.cells 7 [[int t.facts, row 1 intI t.init, row 1 intI t.goal, row 4 eTOperator t.operators, row 1 eLi64 plans, .own 1 0 a81.2.2.1.length, .map 2]]), .one (vec 1 intI a81.2.2.1), .one (mapB Value.string (Value.int .i64) a81.2.2.2), .dead, .dead, .dead]) rfl rfl (by exact ⟨⟨_, rfl, .inr ⟨_, rfl, rfl, rfl⟩⟩, ⟨_, rfl, .inl ⟨rfl, rfl⟩⟩, trivial⟩) rfl (by exact ⟨⟨rfl, .inl ⟨rfl, rfl⟩, .inl ⟨rfl, rfl⟩, .inl ⟨rfl, rfl⟩, .inl ⟨rfl, rfl⟩, .inl ⟨rfl, rfl⟩, .inl ⟨rfl, rfl⟩, .inl ⟨rfl, rfl⟩, trivial⟩, FrzB.vec, ⟨rfl, rfl⟩, trivial, trivial, trivial, trivial⟩) ?_
                refine AWP.ret ?_
                refine inB_ret ?_
                refine thn_ret ?_
                have ej := Option.some.inj h
                subst ej
                refine thn_ret ⟨_, rfl, rfl, ?_⟩
                exact ⟨⟨[(6, .c (row 1 intI a88)), (7, .c (bool true))], [.one (.cells 7 [[int t.facts, row 1 intI t.init, row 1 intI t.goal, row 4 eTOperator t.operators, row 1 eLi64 plans, .own 1 0 a81.2.2.1.length, .map 2]]), .one (vec 1 intI a81.2.2.1), .one (mapB Value.string (Value.int .i64) a81.2.2.2)]⟩, Sub.cut ⟨rfl, rfl, trivial⟩ rfl ⟨.one rfl, .vec, .one rfl, trivial⟩ rfl, Done.ret rfl ⟨rfl, rfl⟩⟩
              · refine AWP.skip ?_
                refine inB_normal ?_
                refine thn_normal ⟨_, h, ?_⟩
                exact Sub.cut ⟨rfl, rfl, rfl, rfl, rfl, rfl, rfl, rfl, trivial⟩ rfl ⟨.one rfl, .vec, .one rfl, trivial⟩ rfl
      · intro e s hq
        rcases oo with ⟨c12, c13, done14⟩ | x
        · try dsimp only at h hq
          obtain ⟨rfl, hs⟩ := hq
          refine ⟨_, hs, ?_⟩
          refine inB_exit ?_
          refine thn_normal ?_
          refine AWP.seq ?_
          obtain ⟨t22, hx23, h⟩ := bind_some h
          refine AWP.seqJ (⟨[(0, .c (.ptr 0 0 0)), (8, .c (.imm (.val (.string a18)))), (98, .c (bool t22))], [.one (.cells 7 [[int t.facts, row 1 intI t.init, row 1 intI t.goal, row 4 eTOperator t.operators, row 1 eLi64 plans, .own 1 0 c12.length, .map 2]]), .one (vec 1 intI c12), .one (mapB Value.string (Value.int .i64) c13)]⟩) ?_ ?_
          · rcases Bool.eq_false_or_eq_true (done14) with hb24 | hb24
            · replace hx23 := iteBT hb24 hx23
              obtain ⟨a97, ha97, hx23⟩ := bind_some hx23
              refine AWP.region ?_
              refine AOps.move rfl rfl ?_
              refine AOps.move rfl rfl ?_
              refine AOps.guardT rfl rfl rfl hb24 ?_; refine AOps.move rfl rfl ?_
              refine AOps.guardT rfl rfl rfl hb24 ?_; refine AOps.move rfl rfl ?_
              refine AOps.guardT rfl rfl rfl hb24 ?_; refine AOps.nilCheck rfl rfl rfl ?_
              refine AOps.guardT rfl rfl rfl hb24 ?_; refine W.fieldAddr rfl rfl rfl rfl ?_
              refine AOps.guardT rfl rfl rfl hb24 ?_; refine AOps.load rfl rfl rfl rfl rfl rfl ?_
              refine AOps.guardT rfl rfl rfl hb24 ?_; refine AOps.callL rfl rfl (.cons (.c .imm) (.cons (.c (.own rfl rfl)) .nil)) rfl (strips_Contains_ok ha97) rfl ?_
              refine AOps.pickT rfl hb24 rfl rfl ?_
              refine AOps.nil ?_
              have ej := Option.some.inj hx23
              subst ej
              refine thn_normal ?_
              exact Sub.env ⟨rfl, rfl, rfl, trivial⟩
            · replace hx23 := iteBF hb24 hx23
              refine AWP.region ?_
              refine AOps.move rfl rfl ?_
              refine AOps.move rfl rfl ?_
              refine AOps.guardF rfl rfl rfl hb24 ?_
              refine AOps.guardF rfl rfl rfl hb24 ?_
              refine AOps.guardF rfl rfl rfl hb24 ?_
              refine AOps.guardF rfl rfl rfl hb24 ?_
              refine AOps.guardF rfl rfl rfl hb24 ?_
              refine AOps.guardF rfl rfl rfl hb24 ?_
              refine AOps.pickF rfl hb24 rfl rfl ?_
              refine AOps.nil ?_
              have ej := Option.some.inj hx23
              subst ej
              refine thn_normal ?_
              exact Sub.env ⟨rfl, rfl, rfl, trivial⟩
          · refine AWP.iteB rfl h (fun hc25 h => ?_) (fun hc25 h => ?_)
            · refine AWP.seq ?_
              refine AWP.region ?_
              refine AOps.assign rfl rfl ?_
              refine AOps.assign rfl rfl ?_
              refine AOps.nil ?_
              refine thn_normal ?_
              refine AWP.nilrow 1 6 rfl ?_
              refine AWP.ret ?_
              refine thn_ret ?_
              have ej := Option.some.inj h
              subst ej
              exact ⟨⟨[(6, .c (row 1 intI [])), (7, .c (bool true))], [.one (.cells 7 [[int t.facts, row 1 intI t.init, row 1 intI t.goal, row 4 eTOperator t.operators, row 1 eLi64 plans, .own 1 0 c12.length, .map 2]]), .one (vec 1 intI c12), .one (mapB Value.string (Value.int .i64) c13)]⟩, Sub.env ⟨rfl, rfl, trivial⟩, Done.ret rfl ⟨rfl, rfl⟩⟩
            · refine AWP.skip ?_
              refine thn_normal ?_
              refine AWP.seq ?_
              refine AWP.region ?_
              refine AOps.move rfl rfl ?_
              refine AOps.nilCheck rfl rfl rfl ?_
              refine W.fieldAddr rfl rfl rfl rfl ?_
              refine AOps.load rfl rfl rfl rfl rfl rfl ?_
              refine AOps.move rfl rfl ?_
              refine W.mapUpdate (fk := Value.string) (fv := (Value.int .i64)) (k := a18) (a := 1) keyStr rfl rfl rfl rfl rfl ?_
              refine AOps.nil ?_
              refine thn_normal ?_
              refine AWP.seq ?_
              refine AWP.region ?_
              refine AOps.assign rfl rfl ?_
              refine AOps.assign rfl rfl ?_
              refine AOps.nil ?_
              refine thn_normal ?_
              refine AWP.nilrow 1 6 rfl ?_
              refine AWP.ret ?_
              have ej := Option.some.inj h
              subst ej
              exact ⟨⟨[(6, .c (row 1 intI [])), (7, .c (bool false))], [.one (.cells 7 [[int t.facts, row 1 intI t.init, row 1 intI t.goal, row 4 eTOperator t.operators, row 1 eLi64 plans, .own 1 0 c12.length, .map 2]]), .one (vec 1 intI c12), .one (mapB Value.string (Value.int .i64) (mset c13 a18 1))]⟩, Sub.env ⟨rfl, rfl, trivial⟩, Done.ret rfl ⟨rfl, rfl⟩⟩
        · try dsimp only at h hq
          obtain ⟨rfl, hs⟩ := hq
          refine ⟨_, Sub.refl _ _, ?_⟩
          refine inB_ret ?_
          refine thn_ret ?_
          have ej := Option.some.inj h
          subst ej
          exact hs
theorem merging_merger_turns_w1_ok {sv : List Int} {atv : List Int} {t : TTask} {plans : List (List Int)} {l : List Int} {l6 : List (ByteArray × Int)} {r : (List Int) × Bool × (List Int) × (List (ByteArray × Int))} (h : merging_merger_turns_w1 sv atv t plans l l6 = some r) : FnOk Tryd.prog 25 [.c (.ptr 0 0 0), .c (row 1 intI sv), .c (row 1 intI atv)] (merging_merger_turns_w1_s0 sv atv t plans l l6) (fun tt ss => tt = .tup [.c (row 1 intI r.1), .c (bool r.2.1)] ∧ ss = [.one (.cells 7 [[int t.facts, row 1 intI t.init, row 1 intI t.goal, row 4 eTOperator t.operators, row 1 eLi64 plans, .own 1 0 r.2.2.1.length, .map 2]]), .one (vec 1 intI r.2.2.1), .one (mapB Value.string (Value.int .i64) r.2.2.2)]) := by
  obtain ⟨n, hn⟩ := Rec_some h
  exact merging_merger_turns_w1_okN n _ r hn
theorem merging_merger_turns_w_ok {sv : List Int} {t : TTask} {plans : List (List Int)} {l : List Int} {l5 : List Int} {l6 : List (ByteArray × Int)} {r : (List Int) × (List (ByteArray × Int)) × (List Int) × Bool} (h : merging_merger_turns_w sv t plans l l5 l6 = some r) : FnOk Tryd.prog 25 [.c (.ptr 0 0 0), .c (row 1 intI sv), .c (.own 1 0 l.length)] (merging_merger_turns_w_s0 sv t plans l l5 l6) (fun tt ss => tt = .tup [.c (row 1 intI r.2.2.1), .c (bool r.2.2.2)] ∧ ss = [.one (.cells 7 [[int t.facts, row 1 intI t.init, row 1 intI t.goal, row 4 eTOperator t.operators, row 1 eLi64 plans, .own 2 0 r.1.length, .map 3]]), .dead, .one (vec 1 intI r.1), .one (mapB Value.string (Value.int .i64) r.2.1)]) := by
  refine FnOk.enter (rs := [.t 6, .t 7]) Tryd.func25 rfl Tryd.ntmps25 Tryd.results25 rfl ⟨trivial, trivial, trivial⟩ (by kernel_rfl) rfl ?_
  refine AWP.weak ?_
  unfold merging_merger_turns_w at h
  refine AWP.move (env' := [(0, .c (.ptr 0 0 0)), (1, .c (row 1 intI sv)), (2, .c (.own 4 0 l.length))]) (σ' := [.one (.cells 7 [[int t.facts, row 1 intI t.init, row 1 intI t.goal, row 4 eTOperator t.operators, row 1 eLi64 plans, .own 2 0 l5.length, .map 3]]), .dead, .one (vec 1 intI l5), .one (mapB Value.string (Value.int .i64) l6), .one (vec 1 intI l)]) 4 1 rfl rfl rfl ⟨rfl, rfl, rfl, trivial⟩ rfl ⟨⟨rfl, rfl⟩, trivial, ⟨Blk.im_ok _ _ _, vec_mv rfl⟩, ⟨rfl, rfl⟩, ⟨Blk.im_ok _ _ _, vec_mv rfl⟩, trivial⟩ ?_
  refine AWP.seq ?_
  refine AWP.region ?_
  refine AOps.assign rfl rfl ?_
  refine AOps.assign rfl rfl ?_
  refine AOps.nil ?_
  refine thn_normal ?_
  refine AWP.seq ?_
  obtain ⟨a18, ha18, h⟩ := bind_some h
  refine AWP.region ?_
  refine AOps.move rfl rfl ?_
  refine AOps.move rfl rfl ?_
  refine AOps.frzV (id := 4) (l := l) (env2 := [(0, .c (.ptr 0 0 0)), (1, .c (row 1 intI sv)), (2, .c (row 1 intI l)), (15, .c (row 1 intI sv)), (16, .c (row 1 intI l))]) (σ2 := [.one (.cells 7 [[int t.facts, row 1 intI t.init, row 1 intI t.goal, row 4 eTOperator t.operators, row 1 eLi64 plans, .own 2 0 l5.length, .map 3]]), .dead, .one (vec 1 intI l5), .one (mapB Value.string (Value.int .i64) l6), .dead]) rfl rfl (by exact ⟨⟨_, rfl, .inl ⟨rfl, rfl⟩⟩, ⟨_, rfl, .inl ⟨rfl, rfl⟩⟩, ⟨_, rfl, .inr ⟨_, rfl, rfl, rfl⟩⟩, ⟨_, rfl, .inl ⟨rfl, rfl⟩⟩, ⟨_, rfl, .inr ⟨_, rfl, rfl, rfl⟩⟩, trivial⟩) rfl (by exact ⟨⟨rfl, .inl ⟨rfl, rfl⟩, .inl ⟨rfl, rfl⟩, .inl ⟨rfl, rfl⟩, .inl ⟨rfl, rfl⟩, .inl ⟨rfl, rfl⟩, .inl ⟨rfl, rfl⟩, .inl ⟨rfl, rfl⟩, trivial⟩, trivial, FrzB.vec, ⟨rfl, rfl⟩, trivial, trivial⟩) ?_; refine S.lit (f := eLi64) (l := [sv, l]) (ess := [[row 1 intI sv], [row 1 intI l]]) rfl rfl rfl rfl rfl rfl rfl ⟨⟨.inl rfl, trivial⟩, ⟨.inl rfl, trivial⟩, trivial⟩ rfl rfl rfl ?_
  refine AOps.callL rfl rfl (.cons (.c (.own rfl rfl)) .nil) rfl (belief_Key_ok ha18) rfl ?_
  refine AOps.assign rfl rfl ?_
  refine AOps.nil ?_
  refine thn_normal ?_
  refine AWP.seq ?_
  refine AWP.seq ?_
  refine AWP.region ?_
  refine AOps.move rfl rfl ?_
  refine AOps.nilCheck rfl rfl rfl ?_
  refine W.fieldAddr rfl rfl rfl rfl ?_
  refine AOps.load rfl rfl rfl rfl rfl rfl ?_
  refine AOps.move rfl rfl ?_
  refine W.lookup (fk := Value.string) (fv := (Value.int .i64)) (k := a18) (z := 0) keyStr rfl (fun _ => rfl) rfl rfl rfl rfl ?_
  refine AOps.gtr rfl rfl rfl ?_
  refine AOps.nil ?_
  refine thn_normal ?_
  refine AWP.ite rfl h (fun hc61 h => ?_) (fun hc61 h => ?_)
  · refine AWP.seq ?_
    refine AWP.region ?_
    refine AOps.assign rfl rfl ?_
    refine AOps.assign rfl rfl ?_
    refine AOps.nil ?_
    refine thn_normal ?_
    refine AWP.nilrow 1 6 rfl ?_
    refine AWP.ret ?_
    refine thn_ret ?_
    have ej := Option.some.inj h
    subst ej
    exact ⟨⟨[(6, .c (row 1 intI [])), (7, .c (bool false))], [.one (.cells 7 [[int t.facts, row 1 intI t.init, row 1 intI t.goal, row 4 eTOperator t.operators, row 1 eLi64 plans, .own 2 0 l5.length, .map 3]]), .dead, .one (vec 1 intI l5), .one (mapB Value.string (Value.int .i64) l6)]⟩, Sub.cut ⟨rfl, rfl, trivial⟩ rfl ⟨.one rfl, .dead, .vec, .one rfl, trivial⟩ rfl, Done.ret rfl ⟨rfl, rfl⟩⟩
  · refine AWP.skip ?_
    refine thn_normal ?_
    refine AWP.seq ?_
    refine AWP.region ?_
    refine AOps.assign rfl rfl ?_
    refine AOps.nil ?_
    refine thn_normal ?_
    refine AWP.seq ?_
    refine AWP.seq ?_
    refine AWP.region ?_
    refine AOps.move rfl rfl ?_
    refine AOps.nilCheck rfl rfl rfl ?_
    refine W.fieldAddr rfl rfl rfl rfl ?_
    refine AOps.load rfl rfl rfl rfl rfl rfl ?_
    refine S.len rfl rfl (fun hl30 => ?_)
    refine AOps.move rfl rfl ?_
    refine AOps.nil ?_
    refine thn_normal ?_
    refine AWP.block ?_
    obtain ⟨oo, ho1, h⟩ := bind_some h
    refine AWP.rngS ho1 (fun t65 (c62, c63, done64) => ⟨[(0, .c (.ptr 0 0 0)), (1, .c (row 1 intI sv)), (2, .c (row 1 intI l)), (8, .c (.imm (.val (.string a18)))), (9, .c (bool done64)), (29, .c (row 1 eLi64 plans)), (30, .c (int (plans.length : Int))), (31, .c (int t65))], [.one (.cells 7 [[int t.facts, row 1 intI t.init, row 1 intI t.goal, row 4 eTOperator t.operators, row 1 eLi64 plans, .own 2 0 c62.length, .map 3]]), .dead, .one (vec 1 intI c62), .one (mapB Value.string (Value.int .i64) c63)]⟩) (fun o e st => match o with | .inl (c62, c63, done64) => e = .exit 0 ∧ Sub (merging_merger_turns_w_s0 sv t plans l l5 l6) st ⟨[(0, .c (.ptr 0 0 0)), (1, .c (row 1 intI sv)), (8, .c (.imm (.val (.string a18)))), (9, .c (bool done64))], [.one (.cells 7 [[int t.facts, row 1 intI t.init, row 1 intI t.goal, row 4 eTOperator t.operators, row 1 eLi64 plans, .own 2 0 c62.length, .map 3]]), .dead, .one (vec 1 intI c62), .one (mapB Value.string (Value.int .i64) c63)]⟩ | .inr x => e = .ret ∧ ∃ J, Sub (merging_merger_turns_w_s0 sv t plans l l5 l6) st J ∧ Done [.t 6, .t 7] (fun tt ss => tt = .tup [.c (row 1 intI x.2.2.1), .c (bool x.2.2.2)] ∧ ss = [.one (.cells 7 [[int t.facts, row 1 intI t.init, row 1 intI t.goal, row 4 eTOperator t.operators, row 1 eLi64 plans, .own 2 0 x.1.length, .map 3]]), .dead, .one (vec 1 intI x.1), .one (mapB Value.string (Value.int .i64) x.2.1)]) .ret J) ?_ ?_ ?_ ?_
    · try dsimp only
      exact Sub.cut ⟨rfl, rfl, rfl, rfl, rfl, rfl, rfl, rfl, trivial⟩ rfl ⟨.one rfl, .dead, .vec, .one rfl, trivial⟩ rfl
    · intro t65 s hlot65 hltt65 _
      obtain ⟨c62, c63, done64⟩ := s
      try dsimp only
      refine AWP.seq ?_
      refine AWP.region ?_
      refine AOps.lss rfl rfl rfl ?_
      refine AOps.nil ?_
      refine thn_normal ?_
      refine AWP.seq ?_
      refine AWP.condNP rfl hltt65 ?_
      refine AWP.exit ?_
      refine thn_exit ?_
      refine thn_exit ⟨rfl, ?_⟩
      exact Sub.env ⟨rfl, rfl, rfl, rfl, trivial⟩
    · intro t65 s o hlot65 hltt65 h
      obtain ⟨c62, c63, done64⟩ := s
      unfold merging_merger_turns_w_l1 at h
      try dsimp only at h ⊢
      refine AWP.seq ?_
      refine AWP.region ?_
      refine AOps.lss rfl rfl rfl ?_
      refine AOps.nil ?_
      refine thn_normal ?_
      refine AWP.seq ?_
      refine AWP.condP rfl hltt65 ?_
      refine AWP.skip ?_
      refine thn_normal ?_
      refine AWP.seqF (merging_merger_turns_w_j2) o (fun (c66, c67, done68) => ⟨[(0, .c (.ptr 0 0 0)), (1, .c (row 1 intI sv)), (2, .c (row 1 intI l)), (8, .c (.imm (.val (.string a18)))), (9, .c (bool done68)), (29, .c (row 1 eLi64 plans)), (30, .c (int (plans.length : Int))), (31, .c (int t65))], [.one (.cells 7 [[int t.facts, row 1 intI t.init, row 1 intI t.goal, row 4 eTOperator t.operators, row 1 eLi64 plans, .own 2 0 c66.length, .map 3]]), .dead, .one (vec 1 intI c66), .one (mapB Value.string (Value.int .i64) c67)]⟩) (fun x h => ?_) ?_
      · obtain ⟨c66, c67, done68⟩ := x
        unfold merging_merger_turns_w_j2 at h
        try dsimp only at h ⊢
        refine AWP.region ?_
        refine AOps.add rfl rfl rfl (by omega) ?_
        refine AOps.move rfl rfl ?_
        refine AOps.nil ?_
        have ej := Option.some.inj h
        subst ej
        refine thn_normal ⟨_, rfl, ?_⟩
        exact Sub.env ⟨rfl, rfl, rfl, rfl, rfl, rfl, rfl, rfl, trivial⟩
      · refine AWP.block ?_
        refine AWP.seq ?_
        obtain ⟨a34, ha34, h⟩ := bind_some h
        refine AWP.region ?_
        refine AOps.move rfl rfl ?_
        refine S.idx ha34 rfl rfl rfl rfl ?_
        refine AOps.loadI rfl rfl rfl rfl ?_
        refine AOps.assign rfl rfl ?_
        refine AOps.assign rfl rfl ?_
        refine AOps.nil ?_
        refine thn_normal ?_
        refine AWP.seq ?_
        refine AWP.seq ?_
        obtain ⟨a38, ha38, h⟩ := bind_some h
        refine AWP.region ?_
        refine AOps.move rfl rfl ?_
        refine AOps.move rfl rfl ?_
        refine S.idx ha38 rfl rfl rfl rfl ?_
        refine AOps.loadI rfl rfl rfl rfl ?_
        refine AOps.move rfl rfl ?_
        refine S.len rfl rfl (fun hl41 => ?_)
        refine AOps.eql rfl rfl rfl ?_
        refine AOps.nil ?_
        refine thn_normal ?_
        refine AWP.ite rfl h (fun hc69 h => ?_) (fun hc69 h => ?_)
        · refine AWP.exit ?_
          refine thn_exit ?_
          refine inB_exit ?_
          refine thn_normal ⟨_, h, ?_⟩
          exact Sub.env ⟨rfl, rfl, rfl, rfl, rfl, rfl, rfl, rfl, trivial⟩
        · refine AWP.skip ?_
          refine thn_normal ?_
          refine AWP.seq ?_
          refine AWP.region ?_
          refine AOps.assign rfl rfl ?_
          refine AOps.nil ?_
          refine thn_normal ?_
          refine AWP.seq ?_
          refine AWP.seq ?_
          obtain ⟨a51, ha51, h⟩ := bind_some h
          obtain ⟨a53, ha53, h⟩ := bind_some h
          obtain ⟨a55, ha55, h⟩ := bind_some h
          refine AWP.drawI mixed rfl ?_
          apply DrawSeq.consF; exact rfl; intro E
          refine AOps.move rfl rfl ?_
          exact AOps.nil ⟨rfl, rfl⟩
          exact rfl
          apply DrawSeq.consF; exact rfl; intro E
          refine AOps.nilCheck rfl rfl rfl ?_
          exact AOps.nil ⟨rfl, rfl⟩
          exact rfl
          apply DrawSeq.consF; exact rfl; intro E
          refine W.fieldAddr rfl rfl rfl rfl ?_
          exact AOps.nil ⟨rfl, rfl⟩
          exact rfl
          apply DrawSeq.consF; exact rfl; intro E
          refine W.loadAgg rfl rfl rfl rfl rfl rfl rfl ?_
          exact AOps.nil ⟨rfl, rfl⟩
          exact rfl
          apply DrawSeq.consF; exact rfl; intro E
          refine AOps.move rfl rfl ?_
          exact AOps.nil ⟨rfl, rfl⟩
          exact rfl
          apply DrawSeq.consF; exact rfl; intro E
          refine AOps.move rfl rfl ?_
          exact AOps.nil ⟨rfl, rfl⟩
          exact rfl
          apply DrawSeq.consF; exact rfl; intro E
          refine AOps.move rfl rfl ?_
          exact AOps.nil ⟨rfl, rfl⟩
          exact rfl
          apply DrawSeq.consF; exact rfl; intro E
          refine AOps.move rfl rfl ?_
          exact AOps.nil ⟨rfl, rfl⟩
          exact rfl
          apply DrawSeq.consF; exact rfl; intro E
          refine S.idx ha51 rfl rfl rfl rfl ?_
          exact AOps.nil ⟨rfl, rfl⟩
          exact rfl
          apply DrawSeq.consF; exact rfl; intro E
          refine AOps.loadI rfl rfl rfl rfl ?_
          exact AOps.nil ⟨rfl, rfl⟩
          exact rfl
          apply DrawSeq.consF; exact rfl; intro E
          refine S.idx ha53 rfl rfl rfl rfl ?_
          exact AOps.nil ⟨rfl, rfl⟩
          exact rfl
          apply DrawSeq.consF; exact rfl; intro E
          refine AOps.loadI rfl rfl rfl rfl ?_
          exact AOps.nil ⟨rfl, rfl⟩
          exact rfl
          apply DrawSeq.consF; exact rfl; intro E
          refine AOps.callR rfl rfl rfl rfl (strips_Can_ok ha55) rfl ?_
          exact AOps.nil ⟨rfl, rfl⟩
          exact rfl
          apply DrawSeq.consF; exact rfl; intro E
          refine AOps.not rfl rfl ?_
          exact AOps.nil ⟨rfl, rfl⟩
          exact rfl
          refine DrawSeq.done ?_
          dsimp only [envEnd]
          refine thn_normal ?_
          refine AWP.iteB rfl h (fun hc70 h => ?_) (fun hc70 h => ?_)
          · refine AWP.exit ?_
            refine thn_exit ?_
            refine inB_exit ?_
            refine thn_normal ⟨_, h, ?_⟩
            exact Sub.env ⟨rfl, rfl, rfl, rfl, rfl, rfl, rfl, rfl, trivial⟩
          · refine AWP.skip ?_
            refine thn_normal ?_
            refine AWP.seq ?_
            obtain ⟨a58, ha58, h⟩ := bind_some h
            refine AWP.region ?_
            refine AOps.move rfl rfl ?_
            refine S.fresh rfl rfl rfl rfl (slices_Clone_int_int_ok ha58) rfl rfl ?_
            refine AOps.assign rfl rfl ?_
            refine AOps.nil ?_
            refine thn_normal ?_
            refine AWP.seq ?_
            obtain ⟨a61, ha61, h⟩ := bind_some h
            obtain ⟨a64, ha64, h⟩ := bind_some h
            refine AWP.region ?_
            refine AOps.move rfl rfl ?_
            refine AOps.move rfl rfl ?_
            refine S.idxO ha61 rfl rfl rfl rfl rfl ?_
            refine S.loadO ha61 rfl rfl rfl rfl rfl ?_
            refine S.add rfl rfl rfl ?_
            refine S.idxO ha64 rfl rfl rfl rfl rfl ?_
            refine S.storeO1 (f := intI) (a' := w64 (a61 + 1)) (ix_lt ha64) (fun _ => ⟨_, rfl⟩) rfl rfl rfl rfl rfl ?_
            refine AOps.nil ?_
            refine thn_normal ?_
            refine AWP.seq ?_
            refine AWP.frzV (id := 4) (l := a58.set t65.toNat (w64 (a61 + 1))) (env2 := [(0, .c (.ptr 0 0 0)), (1, .c (row 1 intI sv)), (2, .c (row 1 intI l)), (8, .c (.imm (.val (.string a18)))), (9, .c (bool false)), (10, .c (int t65)), (11, .c (row 1 intI a34)), (12, .c (row 1 intI (a58.set t65.toNat (w64 (a61 + 1))))), (29, .c (row 1 eLi64 plans)), (30, .c (int (plans.length : Int))), (31, .c (int t65))]) (σ2 := [.one (.cells 7 [[int t.facts, row 1 intI t.init, row 1 intI t.goal, row 4 eTOperator t.operators, row 1 eLi64 plans, .own 2 0 c62.length, .map 3]]), .dead, .one (vec 1 intI c62), .one (mapB Value.string (Value.int .i64) c63), .dead]) rfl rfl (by exact ⟨⟨_, rfl, .inl ⟨rfl, rfl⟩⟩, ⟨_, rfl, .inl ⟨rfl, rfl⟩⟩, ⟨_, rfl, .inl ⟨rfl, rfl⟩⟩, ⟨_, rfl, .inl ⟨rfl, rfl⟩⟩, ⟨_, rfl, .inl ⟨rfl, rfl⟩⟩, ⟨_, rfl, .inl ⟨rfl, rfl⟩⟩, ⟨_, rfl, .inl ⟨rfl, rfl⟩⟩, ⟨_, rfl, .inr ⟨_, rfl, (by simp only [List.length_set]), rfl⟩⟩, ⟨_, rfl, .inl ⟨rfl, rfl⟩⟩, ⟨_, rfl, .inl ⟨rfl, rfl⟩⟩, ⟨_, rfl, .inl ⟨rfl, rfl⟩⟩, trivial⟩) rfl (by exact ⟨⟨rfl, .inl ⟨rfl, rfl⟩, .inl ⟨rfl, rfl⟩, .inl ⟨rfl, rfl⟩, .inl ⟨rfl, rfl⟩, .inl ⟨rfl, rfl⟩, .inl ⟨rfl, rfl⟩, .inl ⟨rfl, rfl⟩, trivial⟩, trivial, FrzB.vec, ⟨rfl, rfl⟩, trivial, trivial⟩) ?_
            obtain ⟨a75, ha75, h⟩ := bind_some h
            obtain ⟨a77, ha77, h⟩ := bind_some h
            obtain ⟨a79, ha79, h⟩ := bind_some h
            obtain ⟨a81, ha81, h⟩ := bind_some h
            refine AWP.drawEI [15] mixed rfl rfl rfl ?_
            apply DrawSeqE.consN; exact rfl; exact rfl; intro E
            refine AOps.move rfl rfl ?_
            exact AOps.nil ⟨rfl, rfl⟩
            exact rfl
            apply DrawSeqE.consN; exact rfl; exact rfl; intro E
            refine AOps.move rfl rfl ?_
            exact AOps.nil ⟨rfl, rfl⟩
            exact rfl
            apply DrawSeqE.consN; exact rfl; exact rfl; intro E
            refine AOps.nilCheck rfl rfl rfl ?_
            exact AOps.nil ⟨rfl, rfl⟩
            exact rfl
            apply DrawSeqE.consN; exact rfl; exact rfl; intro E
            refine W.fieldAddr rfl rfl rfl rfl ?_
            exact AOps.nil ⟨rfl, rfl⟩
            exact rfl
            apply DrawSeqE.consN; exact rfl; exact rfl; intro E
            refine W.loadAgg rfl rfl rfl rfl rfl rfl rfl ?_
            exact AOps.nil ⟨rfl, rfl⟩
            exact rfl
            apply DrawSeqE.consN; exact rfl; exact rfl; intro E
            refine AOps.move rfl rfl ?_
            exact AOps.nil ⟨rfl, rfl⟩
            exact rfl
            apply DrawSeqE.consN; exact rfl; exact rfl; intro E
            refine AOps.move rfl rfl ?_
            exact AOps.nil ⟨rfl, rfl⟩
            exact rfl
            apply DrawSeqE.consN; exact rfl; exact rfl; intro E
            refine AOps.move rfl rfl ?_
            exact AOps.nil ⟨rfl, rfl⟩
            exact rfl
            apply DrawSeqE.consN; exact rfl; exact rfl; intro E
            refine AOps.move rfl rfl ?_
            exact AOps.nil ⟨rfl, rfl⟩
            exact rfl
            apply DrawSeqE.consN; exact rfl; exact rfl; intro E
            refine S.idx ha75 rfl rfl rfl rfl ?_
            exact AOps.nil ⟨rfl, rfl⟩
            exact rfl
            apply DrawSeqE.consN; exact rfl; exact rfl; intro E
            refine AOps.loadI rfl rfl rfl rfl ?_
            exact AOps.nil ⟨rfl, rfl⟩
            exact rfl
            apply DrawSeqE.consN; exact rfl; exact rfl; intro E
            refine S.idx ha77 rfl rfl rfl rfl ?_
            exact AOps.nil ⟨rfl, rfl⟩
            exact rfl
            apply DrawSeqE.consN; exact rfl; exact rfl; intro E
            refine AOps.loadI rfl rfl rfl rfl ?_
            exact AOps.nil ⟨rfl, rfl⟩
            exact rfl
            apply DrawSeqE.consN; exact rfl; exact rfl; intro E
            refine AOps.callR rfl rfl rfl rfl (FreshOk.data (strips_Next_ok ha79)) rfl ?_
            exact AOps.nil ⟨rfl, rfl⟩
            exact rfl
            apply DrawSeqE.consN; exact rfl; exact rfl; intro E
            refine AOps.move rfl rfl ?_
            exact AOps.nil ⟨rfl, rfl⟩
            exact rfl
            apply DrawSeqE.consE; exact rfl; exact rfl; intro E
            refine AOps.callF (r2 := .tup [.c (row 1 intI a81.1), .c (bool a81.2.1)]) (σ'' := [.one (.cells 7 [[int t.facts, row 1 intI t.init, row 1 intI t.goal, row 4 eTOperator t.operators, row 1 eLi64 plans, .own 2 0 a81.2.2.1.length, .map 3]]), .dead, .one (vec 1 intI a81.2.2.1), .one (mapB Value.string (Value.int .i64) a81.2.2.2), .dead]) rfl rfl rfl (FnOk.lend [0, 2, 3] (merging_merger_turns_w1_ok ha81) rfl rfl rfl rfl rfl rfl (by exact ⟨(.one rfl), .vec, (.one rfl), trivial⟩) rfl (by exact ⟨(.live rfl (.one rfl)), (.live rfl .vec), (.live rfl (.one rfl)), trivial⟩) rfl rfl (by exact ⟨(.new 0 rfl rfl (.one rfl)), .dead, (.new 1 rfl rfl .vec), (.new 2 rfl rfl (.one rfl)), .dead, trivial⟩)) ?_
            exact AOps.nil ⟨rfl, rfl⟩
            exact rfl
            exact rfl
            apply DrawSeqE.consN; exact rfl; exact rfl; intro E
            refine AOps.move rfl rfl ?_
            exact AOps.nil ⟨rfl, rfl⟩
            exact rfl
            apply DrawSeqE.consN; exact rfl; exact rfl; intro E
            refine AOps.extract rfl rfl rfl ?_
            exact AOps.nil ⟨rfl, rfl⟩
            exact rfl
            apply DrawSeqE.consN; exact rfl; exact rfl; intro E
            refine AOps.extract rfl rfl rfl ?_
            exact AOps.nil ⟨rfl, rfl⟩
            exact rfl
            apply DrawSeqE.consN; exact rfl; exact rfl; intro E
            refine AOps.assign rfl rfl ?_
            exact AOps.nil ⟨rfl, rfl⟩
            exact rfl
            apply DrawSeqE.consN; exact rfl; exact rfl; intro E
            refine AOps.assign rfl rfl ?_
            exact AOps.nil ⟨rfl, rfl⟩
            exact rfl
            refine DrawSeqE.done rfl ?_ ?_
            · apply RestI.cons; exact rfl; exact rfl
              first | refine RestK.skip rfl ?_ | (apply RestK.go; exact rfl; exact rfl; intro E; (refine AOps.move rfl rfl ?_); exact AOps.nil ⟨rfl, rfl⟩)
              first | refine RestK.skip rfl ?_ | (apply RestK.go; exact rfl; exact rfl; intro E; (refine AOps.move rfl rfl ?_); exact AOps.nil ⟨rfl, rfl⟩)
              exact RestK.nil
              apply RestI.cons; exact rfl; exact rfl
              first | refine RestK.skip rfl ?_ | (apply RestK.go; exact rfl; exact rfl; intro E; (refine AOps.move rfl rfl ?_); exact AOps.nil ⟨rfl, rfl⟩)
              first | refine RestK.skip rfl ?_ | (apply RestK.go; exact rfl; exact rfl; intro E; (refine AOps.move rfl rfl ?_); exact AOps.nil ⟨rfl, rfl⟩)
              exact RestK.nil
              apply RestI.cons; exact rfl; exact rfl
              first | refine RestK.skip rfl ?_ | (apply RestK.go; exact rfl; exact rfl; intro E; (refine AOps.nilCheck rfl rfl rfl ?_); exact AOps.nil ⟨rfl, rfl⟩)
              first | refine RestK.skip rfl ?_ | (apply RestK.go; exact rfl; exact rfl; intro E; (refine AOps.nilCheck rfl rfl rfl ?_); exact AOps.nil ⟨rfl, rfl⟩)
              exact RestK.nil
              apply RestI.cons; exact rfl; exact rfl
              first | refine RestK.skip rfl ?_ | (apply RestK.go; exact rfl; exact rfl; intro E; (refine W.fieldAddr rfl rfl rfl rfl ?_); exact AOps.nil ⟨rfl, rfl⟩)
              first | refine RestK.skip rfl ?_ | (apply RestK.go; exact rfl; exact rfl; intro E; (refine W.fieldAddr rfl rfl rfl rfl ?_); exact AOps.nil ⟨rfl, rfl⟩)
              exact RestK.nil
              apply RestI.cons; exact rfl; exact rfl
              first | refine RestK.skip rfl ?_ | (apply RestK.go; exact rfl; exact rfl; intro E; (refine W.loadAgg rfl rfl rfl rfl rfl rfl rfl ?_); exact AOps.nil ⟨rfl, rfl⟩)
              first | refine RestK.skip rfl ?_ | (apply RestK.go; exact rfl; exact rfl; intro E; (refine W.loadAgg rfl rfl rfl rfl rfl rfl rfl ?_); exact AOps.nil ⟨rfl, rfl⟩)
              exact RestK.nil
              apply RestI.cons; exact rfl; exact rfl
              first | refine RestK.skip rfl ?_ | (apply RestK.go; exact rfl; exact rfl; intro E; (refine AOps.move rfl rfl ?_); exact AOps.nil ⟨rfl, rfl⟩)
              first | refine RestK.skip rfl ?_ | (apply RestK.go; exact rfl; exact rfl; intro E; (refine AOps.move rfl rfl ?_); exact AOps.nil ⟨rfl, rfl⟩)
              exact RestK.nil
              apply RestI.cons; exact rfl; exact rfl
              first | refine RestK.skip rfl ?_ | (apply RestK.go; exact rfl; exact rfl; intro E; (refine AOps.move rfl rfl ?_); exact AOps.nil ⟨rfl, rfl⟩)
              first | refine RestK.skip rfl ?_ | (apply RestK.go; exact rfl; exact rfl; intro E; (refine AOps.move rfl rfl ?_); exact AOps.nil ⟨rfl, rfl⟩)
              exact RestK.nil
              apply RestI.cons; exact rfl; exact rfl
              first | refine RestK.skip rfl ?_ | (apply RestK.go; exact rfl; exact rfl; intro E; (refine AOps.move rfl rfl ?_); exact AOps.nil ⟨rfl, rfl⟩)
              first | refine RestK.skip rfl ?_ | (apply RestK.go; exact rfl; exact rfl; intro E; (refine AOps.move rfl rfl ?_); exact AOps.nil ⟨rfl, rfl⟩)
              exact RestK.nil
              apply RestI.cons; exact rfl; exact rfl
              first | refine RestK.skip rfl ?_ | (apply RestK.go; exact rfl; exact rfl; intro E; (refine AOps.move rfl rfl ?_); exact AOps.nil ⟨rfl, rfl⟩)
              first | refine RestK.skip rfl ?_ | (apply RestK.go; exact rfl; exact rfl; intro E; (refine AOps.move rfl rfl ?_); exact AOps.nil ⟨rfl, rfl⟩)
              exact RestK.nil
              apply RestI.cons; exact rfl; exact rfl
              first | refine RestK.skip rfl ?_ | (apply RestK.go; exact rfl; exact rfl; intro E; (refine S.idx ha75 rfl rfl rfl rfl ?_); exact AOps.nil ⟨rfl, rfl⟩)
              first | refine RestK.skip rfl ?_ | (apply RestK.go; exact rfl; exact rfl; intro E; (refine S.idx ha75 rfl rfl rfl rfl ?_); exact AOps.nil ⟨rfl, rfl⟩)
              exact RestK.nil
              apply RestI.cons; exact rfl; exact rfl
              first | refine RestK.skip rfl ?_ | (apply RestK.go; exact rfl; exact rfl; intro E; (refine AOps.loadI rfl rfl rfl rfl ?_); exact AOps.nil ⟨rfl, rfl⟩)
              first | refine RestK.skip rfl ?_ | (apply RestK.go; exact rfl; exact rfl; intro E; (refine AOps.loadI rfl rfl rfl rfl ?_); exact AOps.nil ⟨rfl, rfl⟩)
              exact RestK.nil
              apply RestI.cons; exact rfl; exact rfl
              first | refine RestK.skip rfl ?_ | (apply RestK.go; exact rfl; exact rfl; intro E; (refine S.idx ha77 rfl rfl rfl rfl ?_); exact AOps.nil ⟨rfl, rfl⟩)
              first | refine RestK.skip rfl ?_ | (apply RestK.go; exact rfl; exact rfl; intro E; (refine S.idx ha77 rfl rfl rfl rfl ?_); exact AOps.nil ⟨rfl, rfl⟩)
              exact RestK.nil
              apply RestI.cons; exact rfl; exact rfl
              first | refine RestK.skip rfl ?_ | (apply RestK.go; exact rfl; exact rfl; intro E; (refine AOps.loadI rfl rfl rfl rfl ?_); exact AOps.nil ⟨rfl, rfl⟩)
              first | refine RestK.skip rfl ?_ | (apply RestK.go; exact rfl; exact rfl; intro E; (refine AOps.loadI rfl rfl rfl rfl ?_); exact AOps.nil ⟨rfl, rfl⟩)
              exact RestK.nil
              apply RestI.cons; exact rfl; exact rfl
              first | refine RestK.skip rfl ?_ | (apply RestK.go; exact rfl; exact rfl; intro E; (refine AOps.callR rfl rfl rfl rfl (FreshOk.data (strips_Next_ok ha79)) rfl ?_); exact AOps.nil ⟨rfl, rfl⟩)
              first | refine RestK.skip rfl ?_ | (apply RestK.go; exact rfl; exact rfl; intro E; (refine AOps.callR rfl rfl rfl rfl (FreshOk.data (strips_Next_ok ha79)) rfl ?_); exact AOps.nil ⟨rfl, rfl⟩)
              exact RestK.nil
              apply RestI.cons; exact rfl; exact rfl
              first | refine RestK.skip rfl ?_ | (apply RestK.go; exact rfl; exact rfl; intro E; (refine AOps.move rfl rfl ?_); exact AOps.nil ⟨rfl, rfl⟩)
              first | refine RestK.skip rfl ?_ | (apply RestK.go; exact rfl; exact rfl; intro E; (refine AOps.move rfl rfl ?_); exact AOps.nil ⟨rfl, rfl⟩)
              exact RestK.nil
              refine RestI.skip rfl ?_
              apply RestI.cons; exact rfl; exact rfl
              first | refine RestK.skip rfl ?_ | (apply RestK.go; exact rfl; exact rfl; intro E; (refine AOps.move rfl rfl ?_); exact AOps.nil ⟨rfl, rfl⟩)
              first | refine RestK.skip rfl ?_ | (apply RestK.go; exact rfl; exact rfl; intro E; (refine AOps.move rfl rfl ?_); exact AOps.nil ⟨rfl, rfl⟩)
              exact RestK.nil
              apply RestI.cons; exact rfl; exact rfl
              first | refine RestK.skip rfl ?_ | (apply RestK.go; exact rfl; exact rfl; intro E; (refine AOps.extract rfl rfl rfl ?_); exact AOps.nil ⟨rfl, rfl⟩)
              first | refine RestK.skip rfl ?_ | (apply RestK.go; exact rfl; exact rfl; intro E; (refine AOps.extract rfl rfl rfl ?_); exact AOps.nil ⟨rfl, rfl⟩)
              exact RestK.nil
              apply RestI.cons; exact rfl; exact rfl
              first | refine RestK.skip rfl ?_ | (apply RestK.go; exact rfl; exact rfl; intro E; (refine AOps.extract rfl rfl rfl ?_); exact AOps.nil ⟨rfl, rfl⟩)
              first | refine RestK.skip rfl ?_ | (apply RestK.go; exact rfl; exact rfl; intro E; (refine AOps.extract rfl rfl rfl ?_); exact AOps.nil ⟨rfl, rfl⟩)
              exact RestK.nil
              apply RestI.cons; exact rfl; exact rfl
              first | refine RestK.skip rfl ?_ | (apply RestK.go; exact rfl; exact rfl; intro E; (refine AOps.assign rfl rfl ?_); exact AOps.nil ⟨rfl, rfl⟩)
              first | refine RestK.skip rfl ?_ | (apply RestK.go; exact rfl; exact rfl; intro E; (refine AOps.assign rfl rfl ?_); exact AOps.nil ⟨rfl, rfl⟩)
              exact RestK.nil
              apply RestI.cons; exact rfl; exact rfl
              first | refine RestK.skip rfl ?_ | (apply RestK.go; exact rfl; exact rfl; intro E; (refine AOps.assign rfl rfl ?_); exact AOps.nil ⟨rfl, rfl⟩)
              first | refine RestK.skip rfl ?_ | (apply RestK.go; exact rfl; exact rfl; intro E; (refine AOps.assign rfl rfl ?_); exact AOps.nil ⟨rfl, rfl⟩)
              exact RestK.nil
              exact RestI.nil
            dsimp only [envEnd]
            refine thn_normal ?_
            refine AWP.seq ?_
            refine AWP.region ?_
            refine AOps.move rfl rfl ?_
            refine AOps.nil ?_
            refine thn_normal ?_
            refine AWP.iteB rfl h (fun hc71 h => ?_) (fun hc71 h => ?_)
            · refine AWP.seq ?_
              obtain ⟨a88, ha88, h⟩ := bind_some h
              refine AWP.region ?_
              refine AOps.move rfl rfl ?_
              refine S.lit (f := intI) (l := [t65]) (ess := [[int t65]]) rfl rfl rfl rfl rfl rfl rfl ⟨⟨.inl rfl, trivial⟩, trivial⟩ rfl rfl rfl ?_
              refine AOps.move rfl rfl ?_
              refine S.append (f := intI) ha88 rfl rfl rfl rfl rfl rfl .row rfl rfl rfl rfl ?_
              refine AOps.assign rfl rfl ?_
              refine AOps.assign rfl rfl ?_
              refine AOps.nil ?_
              refine thn_normal ?_
              refine AWP.frzV (id := 6) (l := a88) (env2 := [(6, .c (row 1 intI a88)), (7, .c (bool true))]) (σ2 := [.one (.cells 7 [[int t.facts, row 1 intI t.init, row 1 intI t.goal, row 4 eTOperator t.operators, row 1 eLi64 plans, .own 2 0 a81.2.2.1.length, .map 3]]), .dead, .one (vec 1 intI a81.2.2.1), .one (mapB Value.string (Value.int .i64) a81.2.2.2), .dead, .dead, .dead]) rfl rfl (by exact ⟨⟨_, rfl, .inr ⟨_, rfl, rfl, rfl⟩⟩, ⟨_, rfl, .inl ⟨rfl, rfl⟩⟩, trivial⟩) rfl (by exact ⟨⟨rfl, .inl ⟨rfl, rfl⟩, .inl ⟨rfl, rfl⟩, .inl ⟨rfl, rfl⟩, .inl ⟨rfl, rfl⟩, .inl ⟨rfl, rfl⟩, .inl ⟨rfl, rfl⟩, .inl ⟨rfl, rfl⟩, trivial⟩, trivial, FrzB.vec, ⟨rfl, rfl⟩, trivial, trivial, trivial, trivial⟩) ?_
              refine AWP.ret ?_
              refine inB_ret ?_
              refine thn_ret ?_
              have ej := Option.some.inj h
              subst ej
              refine thn_ret ⟨_, rfl, rfl, ?_⟩
              exact ⟨⟨[(6, .c (row 1 intI a88)), (7, .c (bool true))], [.one (.cells 7 [[int t.facts, row 1 intI t.init, row 1 intI t.goal, row 4 eTOperator t.operators, row 1 eLi64 plans, .own 2 0 a81.2.2.1.length, .map 3]]), .dead, .one (vec 1 intI a81.2.2.1), .one (mapB Value.string (Value.int .i64) a81.2.2.2)]⟩, Sub.cut ⟨rfl, rfl, trivial⟩ rfl ⟨.one rfl, .dead, .vec, .one rfl, trivial⟩ rfl, Done.ret rfl ⟨rfl, rfl⟩⟩
            · refine AWP.skip ?_
              refine inB_normal ?_
              refine thn_normal ⟨_, h, ?_⟩
              exact Sub.cut ⟨rfl, rfl, rfl, rfl, rfl, rfl, rfl, rfl, trivial⟩ rfl ⟨.one rfl, .dead, .vec, .one rfl, trivial⟩ rfl
    · intro e s hq
      rcases oo with ⟨c62, c63, done64⟩ | x
      · try dsimp only at h hq
        obtain ⟨rfl, hs⟩ := hq
        refine ⟨_, hs, ?_⟩
        refine inB_exit ?_
        refine thn_normal ?_
        refine AWP.seq ?_
        obtain ⟨t72, hx73, h⟩ := bind_some h
        refine AWP.seqJ (⟨[(0, .c (.ptr 0 0 0)), (8, .c (.imm (.val (.string a18)))), (98, .c (bool t72))], [.one (.cells 7 [[int t.facts, row 1 intI t.init, row 1 intI t.goal, row 4 eTOperator t.operators, row 1 eLi64 plans, .own 2 0 c62.length, .map 3]]), .dead, .one (vec 1 intI c62), .one (mapB Value.string (Value.int .i64) c63)]⟩) ?_ ?_
        · rcases Bool.eq_false_or_eq_true (done64) with hb74 | hb74
          · replace hx73 := iteBT hb74 hx73
            obtain ⟨a97, ha97, hx73⟩ := bind_some hx73
            refine AWP.region ?_
            refine AOps.move rfl rfl ?_
            refine AOps.move rfl rfl ?_
            refine AOps.guardT rfl rfl rfl hb74 ?_; refine AOps.move rfl rfl ?_
            refine AOps.guardT rfl rfl rfl hb74 ?_; refine AOps.move rfl rfl ?_
            refine AOps.guardT rfl rfl rfl hb74 ?_; refine AOps.nilCheck rfl rfl rfl ?_
            refine AOps.guardT rfl rfl rfl hb74 ?_; refine W.fieldAddr rfl rfl rfl rfl ?_
            refine AOps.guardT rfl rfl rfl hb74 ?_; refine AOps.load rfl rfl rfl rfl rfl rfl ?_
            refine AOps.guardT rfl rfl rfl hb74 ?_; refine AOps.callL rfl rfl (.cons (.c .imm) (.cons (.c (.own rfl rfl)) .nil)) rfl (strips_Contains_ok ha97) rfl ?_
            refine AOps.pickT rfl hb74 rfl rfl ?_
            refine AOps.nil ?_
            have ej := Option.some.inj hx73
            subst ej
            refine thn_normal ?_
            exact Sub.env ⟨rfl, rfl, rfl, trivial⟩
          · replace hx73 := iteBF hb74 hx73
            refine AWP.region ?_
            refine AOps.move rfl rfl ?_
            refine AOps.move rfl rfl ?_
            refine AOps.guardF rfl rfl rfl hb74 ?_
            refine AOps.guardF rfl rfl rfl hb74 ?_
            refine AOps.guardF rfl rfl rfl hb74 ?_
            refine AOps.guardF rfl rfl rfl hb74 ?_
            refine AOps.guardF rfl rfl rfl hb74 ?_
            refine AOps.guardF rfl rfl rfl hb74 ?_
            refine AOps.pickF rfl hb74 rfl rfl ?_
            refine AOps.nil ?_
            have ej := Option.some.inj hx73
            subst ej
            refine thn_normal ?_
            exact Sub.env ⟨rfl, rfl, rfl, trivial⟩
        · refine AWP.iteB rfl h (fun hc75 h => ?_) (fun hc75 h => ?_)
          · refine AWP.seq ?_
            refine AWP.region ?_
            refine AOps.assign rfl rfl ?_
            refine AOps.assign rfl rfl ?_
            refine AOps.nil ?_
            refine thn_normal ?_
            refine AWP.nilrow 1 6 rfl ?_
            refine AWP.ret ?_
            refine thn_ret ?_
            have ej := Option.some.inj h
            subst ej
            exact ⟨⟨[(6, .c (row 1 intI [])), (7, .c (bool true))], [.one (.cells 7 [[int t.facts, row 1 intI t.init, row 1 intI t.goal, row 4 eTOperator t.operators, row 1 eLi64 plans, .own 2 0 c62.length, .map 3]]), .dead, .one (vec 1 intI c62), .one (mapB Value.string (Value.int .i64) c63)]⟩, Sub.env ⟨rfl, rfl, trivial⟩, Done.ret rfl ⟨rfl, rfl⟩⟩
          · refine AWP.skip ?_
            refine thn_normal ?_
            refine AWP.seq ?_
            refine AWP.region ?_
            refine AOps.move rfl rfl ?_
            refine AOps.nilCheck rfl rfl rfl ?_
            refine W.fieldAddr rfl rfl rfl rfl ?_
            refine AOps.load rfl rfl rfl rfl rfl rfl ?_
            refine AOps.move rfl rfl ?_
            refine W.mapUpdate (fk := Value.string) (fv := (Value.int .i64)) (k := a18) (a := 1) keyStr rfl rfl rfl rfl rfl ?_
            refine AOps.nil ?_
            refine thn_normal ?_
            refine AWP.seq ?_
            refine AWP.region ?_
            refine AOps.assign rfl rfl ?_
            refine AOps.assign rfl rfl ?_
            refine AOps.nil ?_
            refine thn_normal ?_
            refine AWP.nilrow 1 6 rfl ?_
            refine AWP.ret ?_
            have ej := Option.some.inj h
            subst ej
            exact ⟨⟨[(6, .c (row 1 intI [])), (7, .c (bool false))], [.one (.cells 7 [[int t.facts, row 1 intI t.init, row 1 intI t.goal, row 4 eTOperator t.operators, row 1 eLi64 plans, .own 2 0 c62.length, .map 3]]), .dead, .one (vec 1 intI c62), .one (mapB Value.string (Value.int .i64) (mset c63 a18 1))]⟩, Sub.env ⟨rfl, rfl, trivial⟩, Done.ret rfl ⟨rfl, rfl⟩⟩
      · try dsimp only at h hq
        obtain ⟨rfl, hs⟩ := hq
        refine ⟨_, Sub.refl _ _, ?_⟩
        refine inB_ret ?_
        refine thn_ret ?_
        have ej := Option.some.inj h
        subst ej
        exact hs
theorem merging_Merge_ok {t : TTask} {goals : List (List Int)} {plans : List (List Int)} {r : (List Int) × Bool × TFault} (h : merging_Merge t goals plans = some r) : PureOk Tryd.prog 8 [.agg [int t.facts, row 1 intI t.init, row 1 intI t.goal, row 4 eTOperator t.operators], .c (row 1 eLi64 goals), .c (row 1 eLi64 plans)] (.tup [.c (row 1 intI r.1), .c (bool r.2.1), .agg [int r.2.2.code, int r.2.2.index]]) := by
  unfold PureOk
  refine FnOk.enter (rs := [.t 6, .t 7, .cell 8 28 2]) Tryd.func8 rfl Tryd.ntmps8 Tryd.results8 rfl ⟨trivial, trivial, rv _ rfl, trivial⟩ (by kernel_rfl) rfl ?_
  unfold merging_Merge at h
  refine AWP.seq ?_
  refine AWP.region ?_
  refine W.box rfl rfl rfl rfl rfl rfl ?_
  refine AOps.assign rfl rfl ?_
  refine AOps.assign rfl rfl ?_
  refine W.alloc rfl rfl rfl rfl ?_
  refine AOps.nil ?_
  refine thn_normal ?_
  refine AWP.seq ?_
  refine AWP.seq ?_
  obtain ⟨a16, ha16, h⟩ := bind_some h
  refine AWP.region ?_
  refine W.loadAgg rfl rfl rfl rfl rfl rfl rfl ?_
  refine AOps.move rfl rfl ?_
  refine AOps.move rfl rfl ?_
  refine AOps.callR rfl rfl rfl rfl (merging_check_ok ha16) rfl ?_
  refine W.alloc rfl rfl rfl rfl ?_
  refine W.storeAgg rfl rfl rfl rfl rfl rfl rfl ?_
  refine AOps.nil ?_
  refine thn_normal ?_
  refine AWP.seq ?_
  refine AWP.region ?_
  refine W.loadAgg rfl rfl rfl rfl rfl rfl rfl ?_
  refine W.build rfl rfl rfl rfl ?_
  refine AOps.neqP rfl rfl rfl rfl rfl rfl rfl ?_
  refine AOps.nil ?_
  refine thn_normal ?_
  refine AWP.iteB rfl h (fun hc4 h => ?_) (fun hc4 h => ?_)
  · refine AWP.seq ?_
    refine AWP.drawEI [3] mixed rfl rfl rfl ?_
    apply DrawSeqE.consN; exact rfl; exact rfl; intro E
    refine W.loadAgg rfl rfl rfl rfl rfl rfl rfl ?_
    exact AOps.nil ⟨rfl, rfl⟩
    exact rfl
    apply DrawSeqE.consN; exact rfl; exact rfl; intro E
    refine AOps.assign rfl rfl ?_
    exact AOps.nil ⟨rfl, rfl⟩
    exact rfl
    apply DrawSeqE.consN; exact rfl; exact rfl; intro E
    refine AOps.assign rfl rfl ?_
    exact AOps.nil ⟨rfl, rfl⟩
    exact rfl
    apply DrawSeqE.consE (v := .undef); exact rfl; exact rfl; intro E
    refine W.storeAgg rfl rfl rfl rfl rfl rfl rfl ?_
    exact AOps.nil ⟨rfl, rfl⟩
    exact rfl
    exact rfl
    refine DrawSeqE.done rfl ?_ ?_
    · apply RestI.cons; exact rfl; exact rfl
      first | refine RestK.skip rfl ?_ | (apply RestK.go; exact rfl; exact rfl; intro E; (refine W.loadAgg rfl rfl rfl rfl rfl rfl rfl ?_); exact AOps.nil ⟨rfl, rfl⟩)
      first | refine RestK.skip rfl ?_ | (apply RestK.go; exact rfl; exact rfl; intro E; (refine W.loadAgg rfl rfl rfl rfl rfl rfl rfl ?_); exact AOps.nil ⟨rfl, rfl⟩)
      exact RestK.nil
      apply RestI.cons; exact rfl; exact rfl
      first | refine RestK.skip rfl ?_ | (apply RestK.go; exact rfl; exact rfl; intro E; (refine AOps.assign rfl rfl ?_); exact AOps.nil ⟨rfl, rfl⟩)
      first | refine RestK.skip rfl ?_ | (apply RestK.go; exact rfl; exact rfl; intro E; (refine AOps.assign rfl rfl ?_); exact AOps.nil ⟨rfl, rfl⟩)
      exact RestK.nil
      apply RestI.cons; exact rfl; exact rfl
      first | refine RestK.skip rfl ?_ | (apply RestK.go; exact rfl; exact rfl; intro E; (refine AOps.assign rfl rfl ?_); exact AOps.nil ⟨rfl, rfl⟩)
      first | refine RestK.skip rfl ?_ | (apply RestK.go; exact rfl; exact rfl; intro E; (refine AOps.assign rfl rfl ?_); exact AOps.nil ⟨rfl, rfl⟩)
      exact RestK.nil
      refine RestI.skip rfl ?_
      exact RestI.nil
    dsimp only [envEnd]
    refine thn_normal ?_
    refine AWP.nilrow 1 6 rfl ?_
    refine AWP.ret ?_
    refine thn_ret ?_
    have ej := Option.some.inj h
    subst ej
    exact Done.ret rfl rfl
  · refine AWP.skip ?_
    refine thn_normal ?_
    refine AWP.seq ?_
    obtain ⟨a24, ha24, h⟩ := bind_some h
    refine AWP.sub (s' := ⟨[(0, .agg [int t.facts, row 1 intI t.init, row 1 intI t.goal, row 4 eTOperator t.operators]), (1, .c (row 1 eLi64 goals)), (2, .c (row 1 eLi64 plans)), (3, .c (.ptr 0 0 0)), (6, .c (.imm (.val (.slice none 0 0)))), (7, .c (bool false)), (8, .c (.ptr 1 0 0)), (9, .c (.ptr 2 0 0)), (13, .agg [int t.facts, row 1 intI t.init, row 1 intI t.goal, row 4 eTOperator t.operators]), (14, .c (row 1 eLi64 goals)), (15, .c (row 1 eLi64 plans)), (16, .agg [int a16.code, int a16.index]), (17, .agg [int a16.code, int a16.index]), (18, .agg [int 0, int 0]), (19, .c (bool (!((decide (a16.code = 0)) && (decide (a16.index = 0))))))], [.one (.cells 4 [[int t.facts, row 1 intI t.init, row 1 intI t.goal, row 4 eTOperator t.operators]]), .one (.cells 2 [[int 0, int 0]]), .one (.cells 2 [[int a16.code, int a16.index]]), .dead, .dead, .dead]⟩) (Sub.cut ⟨rfl, rfl, rfl, rfl, rfl, rfl, rfl, rfl, rfl, rfl, rfl, rfl, rfl, rfl, rfl, trivial⟩ rfl ⟨.one rfl, .one rfl, .one rfl, .dead, .dead, .dead, trivial⟩ rfl) ?_
    refine AWP.drawTI [.agg [int t.facts, row 1 intI t.init, row 1 intI t.goal, row 4 eTOperator t.operators], .c (row 1 eLi64 plans), .c (row 1 eLi64 goals), .c (.own 3 0 a24.length), .c (.map 4), .agg [int t.facts, row 1 intI t.init, row 1 intI t.goal, row 4 eTOperator t.operators, row 1 eLi64 plans, .own 3 0 a24.length, .map 4], .c (.ptr 5 0 0), .c (.ptr 5 0 0)] [3, 4, 6] [([], [.one (.cells 4 [[int t.facts, row 1 intI t.init, row 1 intI t.goal, row 4 eTOperator t.operators]]), .one (.cells 2 [[int 0, int 0]]), .one (.cells 2 [[int a16.code, int a16.index]]), .dead, .dead, .dead]), ([3], [.one (.cells 4 [[int t.facts, row 1 intI t.init, row 1 intI t.goal, row 4 eTOperator t.operators]]), .one (.cells 2 [[int 0, int 0]]), .one (.cells 2 [[int a16.code, int a16.index]]), .one (vec 1 intI a24), .dead, .dead]), ([4], [.one (.cells 4 [[int t.facts, row 1 intI t.init, row 1 intI t.goal, row 4 eTOperator t.operators]]), .one (.cells 2 [[int 0, int 0]]), .one (.cells 2 [[int a16.code, int a16.index]]), .dead, .one (mapB Value.string (Value.int .i64) ([] : List (ByteArray × Int))), .dead]), ([3, 4], [.one (.cells 4 [[int t.facts, row 1 intI t.init, row 1 intI t.goal, row 4 eTOperator t.operators]]), .one (.cells 2 [[int 0, int 0]]), .one (.cells 2 [[int a16.code, int a16.index]]), .one (vec 1 intI a24), .one (mapB Value.string (Value.int .i64) ([] : List (ByteArray × Int))), .dead]), ([3, 4, 6], [.one (.cells 4 [[int t.facts, row 1 intI t.init, row 1 intI t.goal, row 4 eTOperator t.operators]]), .one (.cells 2 [[int 0, int 0]]), .one (.cells 2 [[int a16.code, int a16.index]]), .one (vec 1 intI a24), .one (mapB Value.string (Value.int .i64) ([] : List (ByteArray × Int))), .one (.cells 7 [[int t.facts, row 1 intI t.init, row 1 intI t.goal, row 4 eTOperator t.operators, row 1 eLi64 plans, .own 3 0 a24.length, .map 4]])])] [.one (.cells 4 [[int t.facts, row 1 intI t.init, row 1 intI t.goal, row 4 eTOperator t.operators]]), .one (.cells 2 [[int 0, int 0]]), .one (.cells 2 [[int a16.code, int a16.index]]), .one (vec 1 intI a24), .one (mapB Value.string (Value.int .i64) ([] : List (ByteArray × Int))), .one (.cells 7 [[int t.facts, row 1 intI t.init, row 1 intI t.goal, row 4 eTOperator t.operators, row 1 eLi64 plans, .own 3 0 a24.length, .map 4]])] mixed rfl rfl rfl rfl rfl ?_ ?_
    · refine TabOk.cons ?_ ?_
      · apply EntOps.go; exact rfl; exact rfl; exact rfl; intro E hE; (refine W.loadAgg rfl rfl rfl rfl rfl rfl rfl ?_); exact AOps.nil ⟨rfl, rfl⟩
        apply EntOps.go; exact rfl; exact rfl; exact rfl; intro E hE; (refine AOps.move rfl rfl ?_); exact AOps.nil ⟨rfl, rfl⟩
        apply EntOps.go; exact rfl; exact rfl; exact rfl; intro E hE; (refine AOps.move rfl rfl ?_); exact AOps.nil ⟨rfl, rfl⟩
        apply EntOps.eff; exact rfl; exact rfl; exact rfl; exact rfl; intro E hE; (refine AOps.newAt 3 (.c (.own 3 0 a24.length)) (vec 1 intI a24) (.inl rfl) rfl hE rfl rfl rfl rfl (.vec) (.vec) rfl rfl rfl ⟨.one rfl, .one rfl, .one rfl, .dead, .dead, .dead, trivial⟩ (fun hh => by (refine S.fresh rfl rfl rfl rfl (merging_union_ok ha24) rfl rfl ?_; exact hh)) ?_); exact AOps.nil ⟨rfl, rfl⟩
        apply EntOps.eff; exact rfl; exact rfl; exact rfl; exact rfl; intro E hE; (refine AOps.newAt 4 (.c (.map 4)) (mapB Value.string (Value.int .i64) ([] : List (ByteArray × Int))) (.inl rfl) rfl hE rfl rfl rfl rfl (.one rfl) (.one rfl) rfl rfl rfl ⟨.one rfl, .one rfl, .one rfl, .dead, .dead, .dead, trivial⟩ (fun hh => by (refine W.makeMap Value.string (Value.int .i64) rfl rfl rfl ?_; exact hh)) ?_); exact AOps.nil ⟨rfl, rfl⟩
        refine EntOps.no rfl ?_
        refine EntOps.no rfl ?_
        refine EntOps.no rfl ?_
        exact EntOps.nil
      refine TabOk.cons ?_ ?_
      · apply EntOps.go; exact rfl; exact rfl; exact rfl; intro E hE; (refine W.loadAgg rfl rfl rfl rfl rfl rfl rfl ?_); exact AOps.nil ⟨rfl, rfl⟩
        apply EntOps.go; exact rfl; exact rfl; exact rfl; intro E hE; (refine AOps.move rfl rfl ?_); exact AOps.nil ⟨rfl, rfl⟩
        refine EntOps.no rfl ?_
        refine EntOps.no rfl ?_
        apply EntOps.eff; exact rfl; exact rfl; exact rfl; exact rfl; intro E hE; (refine AOps.newAt 4 (.c (.map 4)) (mapB Value.string (Value.int .i64) ([] : List (ByteArray × Int))) (.inl rfl) rfl hE rfl rfl rfl rfl (.one rfl) (.one rfl) rfl rfl rfl ⟨.one rfl, .one rfl, .one rfl, .vec, .dead, .dead, trivial⟩ (fun hh => by (refine W.makeMap Value.string (Value.int .i64) rfl rfl rfl ?_; exact hh)) ?_); exact AOps.nil ⟨rfl, rfl⟩
        refine EntOps.no rfl ?_
        refine EntOps.no rfl ?_
        refine EntOps.no rfl ?_
        exact EntOps.nil
      refine TabOk.cons ?_ ?_
      · apply EntOps.go; exact rfl; exact rfl; exact rfl; intro E hE; (refine W.loadAgg rfl rfl rfl rfl rfl rfl rfl ?_); exact AOps.nil ⟨rfl, rfl⟩
        apply EntOps.go; exact rfl; exact rfl; exact rfl; intro E hE; (refine AOps.move rfl rfl ?_); exact AOps.nil ⟨rfl, rfl⟩
        apply EntOps.go; exact rfl; exact rfl; exact rfl; intro E hE; (refine AOps.move rfl rfl ?_); exact AOps.nil ⟨rfl, rfl⟩
        apply EntOps.eff; exact rfl; exact rfl; exact rfl; exact rfl; intro E hE; (refine AOps.newAt 3 (.c (.own 3 0 a24.length)) (vec 1 intI a24) (.inl rfl) rfl hE rfl rfl rfl rfl (.vec) (.vec) rfl rfl rfl ⟨.one rfl, .one rfl, .one rfl, .dead, .one rfl, .dead, trivial⟩ (fun hh => by (refine S.fresh rfl rfl rfl rfl (merging_union_ok ha24) rfl rfl ?_; exact hh)) ?_); exact AOps.nil ⟨rfl, rfl⟩
        refine EntOps.no rfl ?_
        refine EntOps.no rfl ?_
        refine EntOps.no rfl ?_
        refine EntOps.no rfl ?_
        exact EntOps.nil
      refine TabOk.cons ?_ ?_
      · apply EntOps.go; exact rfl; exact rfl; exact rfl; intro E hE; (refine W.loadAgg rfl rfl rfl rfl rfl rfl rfl ?_); exact AOps.nil ⟨rfl, rfl⟩
        apply EntOps.go; exact rfl; exact rfl; exact rfl; intro E hE; (refine AOps.move rfl rfl ?_); exact AOps.nil ⟨rfl, rfl⟩
        refine EntOps.no rfl ?_
        refine EntOps.no rfl ?_
        refine EntOps.no rfl ?_
        apply EntOps.go; exact rfl; exact rfl; exact rfl; intro E hE; (refine W.buildP rfl rfl rfl rfl ?_); exact AOps.nil ⟨rfl, rfl⟩
        apply EntOps.eff; exact rfl; exact rfl; exact rfl; exact rfl; intro E hE; (refine AOps.newAt 5 (.c (.ptr 5 0 0)) (.cells 7 [[int t.facts, row 1 intI t.init, row 1 intI t.goal, row 4 eTOperator t.operators, row 1 eLi64 plans, .own 3 0 a24.length, .map 4]]) (.inl rfl) rfl hE rfl rfl rfl rfl (.one rfl) (.one rfl) rfl rfl rfl ⟨.one rfl, .one rfl, .one rfl, .vec, .one rfl, .dead, trivial⟩ (fun hh => by (refine W.box rfl rfl rfl rfl rfl rfl ?_; exact hh)) ?_); exact AOps.nil ⟨rfl, rfl⟩
        refine EntOps.no rfl ?_
        exact EntOps.nil
      refine TabOk.cons ?_ ?_
      · refine EntOps.no rfl ?_
        refine EntOps.no rfl ?_
        refine EntOps.no rfl ?_
        refine EntOps.no rfl ?_
        refine EntOps.no rfl ?_
        refine EntOps.no rfl ?_
        refine EntOps.no rfl ?_
        apply EntOps.go; exact rfl; exact rfl; exact rfl; intro E hE; (refine AOps.assign rfl rfl ?_); exact AOps.nil ⟨rfl, rfl⟩
        exact EntOps.nil
      exact TabOk.nil
    dsimp only [envEnd]
    refine thn_normal ?_
    refine AWP.seq ?_
    obtain ⟨a34, ha34, h⟩ := bind_some h
    obtain ⟨a35, ha35, h⟩ := bind_some h
    refine AWP.drawEI [5, 6] mixed rfl rfl rfl ?_
    apply DrawSeqE.consN; exact rfl; exact rfl; intro E
    refine AOps.move rfl rfl ?_
    exact AOps.nil ⟨rfl, rfl⟩
    exact rfl
    apply DrawSeqE.consN; exact rfl; exact rfl; intro E
    refine W.fieldAddr rfl rfl rfl rfl ?_
    exact AOps.nil ⟨rfl, rfl⟩
    exact rfl
    apply DrawSeqE.consN; exact rfl; exact rfl; intro E
    refine AOps.load rfl rfl rfl rfl rfl rfl ?_
    exact AOps.nil ⟨rfl, rfl⟩
    exact rfl
    apply DrawSeqE.consN; exact rfl; exact rfl; intro E
    refine AOps.move rfl rfl ?_
    exact AOps.nil ⟨rfl, rfl⟩
    exact rfl
    apply DrawSeqE.consN; exact rfl; exact rfl; intro E
    refine S.len rfl rfl (fun hl33 => ?_)
    exact AOps.nil ⟨rfl, rfl⟩
    exact rfl
    apply DrawSeqE.consE; exact rfl; exact rfl; intro E
    refine S.make (f := intI) ha34 (.val .nil) rfl rfl rfl rfl rfl rfl ?_
    exact AOps.nil ⟨rfl, rfl⟩
    exact rfl
    exact rfl
    apply DrawSeqE.consE; exact rfl; exact rfl; intro E
    refine AOps.callF (r2 := .tup [.c (row 1 intI a35.2.2.1), .c (bool a35.2.2.2)]) (σ'' := [.one (.cells 4 [[int t.facts, row 1 intI t.init, row 1 intI t.goal, row 4 eTOperator t.operators]]), .one (.cells 2 [[int 0, int 0]]), .one (.cells 2 [[int a16.code, int a16.index]]), .one (vec 1 intI a35.1), .one (mapB Value.string (Value.int .i64) a35.2.1), .one (.cells 7 [[int t.facts, row 1 intI t.init, row 1 intI t.goal, row 4 eTOperator t.operators, row 1 eLi64 plans, .own 3 0 a35.1.length, .map 4]]), .dead]) rfl rfl rfl (FnOk.lend [5, 6, 3, 4] (merging_merger_turns_w_ok ha35) rfl rfl rfl rfl rfl rfl (by exact ⟨(.one rfl), .vec, .vec, (.one rfl), trivial⟩) rfl (by exact ⟨(.live rfl (.one rfl)), (.live rfl .vec), (.live rfl .vec), (.live rfl (.one rfl)), trivial⟩) rfl rfl (by exact ⟨(.old rfl rfl rfl), (.old rfl rfl rfl), (.old rfl rfl rfl), (.new 2 rfl rfl .vec), (.new 3 rfl rfl (.one rfl)), (.new 0 rfl rfl (.one rfl)), .dead, trivial⟩)) ?_
    exact AOps.nil ⟨rfl, rfl⟩
    exact rfl
    exact rfl
    apply DrawSeqE.consN; exact rfl; exact rfl; intro E
    refine AOps.move rfl rfl ?_
    exact AOps.nil ⟨rfl, rfl⟩
    exact rfl
    apply DrawSeqE.consN; exact rfl; exact rfl; intro E
    refine AOps.extract rfl rfl rfl ?_
    exact AOps.nil ⟨rfl, rfl⟩
    exact rfl
    apply DrawSeqE.consN; exact rfl; exact rfl; intro E
    refine AOps.extract rfl rfl rfl ?_
    exact AOps.nil ⟨rfl, rfl⟩
    exact rfl
    apply DrawSeqE.consN; exact rfl; exact rfl; intro E
    refine AOps.assign rfl rfl ?_
    exact AOps.nil ⟨rfl, rfl⟩
    exact rfl
    apply DrawSeqE.consN; exact rfl; exact rfl; intro E
    refine AOps.assign rfl rfl ?_
    exact AOps.nil ⟨rfl, rfl⟩
    exact rfl
    refine DrawSeqE.done rfl ?_ ?_
    · apply RestI.cons; exact rfl; exact rfl
      first | refine RestK.skip rfl ?_ | (apply RestK.go; exact rfl; exact rfl; intro E; (refine AOps.move rfl rfl ?_); exact AOps.nil ⟨rfl, rfl⟩)
      first | refine RestK.skip rfl ?_ | (apply RestK.go; exact rfl; exact rfl; intro E; (refine AOps.move rfl rfl ?_); exact AOps.nil ⟨rfl, rfl⟩)
      first | refine RestK.skip rfl ?_ | (apply RestK.go; exact rfl; exact rfl; intro E; (refine AOps.move rfl rfl ?_); exact AOps.nil ⟨rfl, rfl⟩)
      exact RestK.nil
      apply RestI.cons; exact rfl; exact rfl
      first | refine RestK.skip rfl ?_ | (apply RestK.go; exact rfl; exact rfl; intro E; (refine W.fieldAddr rfl rfl rfl rfl ?_); exact AOps.nil ⟨rfl, rfl⟩)
      first | refine RestK.skip rfl ?_ | (apply RestK.go; exact rfl; exact rfl; intro E; (refine W.fieldAddr rfl rfl rfl rfl ?_); exact AOps.nil ⟨rfl, rfl⟩)
      first | refine RestK.skip rfl ?_ | (apply RestK.go; exact rfl; exact rfl; intro E; (refine W.fieldAddr rfl rfl rfl rfl ?_); exact AOps.nil ⟨rfl, rfl⟩)
      exact RestK.nil
      apply RestI.cons; exact rfl; exact rfl
      first | refine RestK.skip rfl ?_ | (apply RestK.go; exact rfl; exact rfl; intro E; (refine AOps.load rfl rfl rfl rfl rfl rfl ?_); exact AOps.nil ⟨rfl, rfl⟩)
      first | refine RestK.skip rfl ?_ | (apply RestK.go; exact rfl; exact rfl; intro E; (refine AOps.load rfl rfl rfl rfl rfl rfl ?_); exact AOps.nil ⟨rfl, rfl⟩)
      first | refine RestK.skip rfl ?_ | (apply RestK.go; exact rfl; exact rfl; intro E; (refine AOps.load rfl rfl rfl rfl rfl rfl ?_); exact AOps.nil ⟨rfl, rfl⟩)
      exact RestK.nil
      apply RestI.cons; exact rfl; exact rfl
      first | refine RestK.skip rfl ?_ | (apply RestK.go; exact rfl; exact rfl; intro E; (refine AOps.move rfl rfl ?_); exact AOps.nil ⟨rfl, rfl⟩)
      first | refine RestK.skip rfl ?_ | (apply RestK.go; exact rfl; exact rfl; intro E; (refine AOps.move rfl rfl ?_); exact AOps.nil ⟨rfl, rfl⟩)
      first | refine RestK.skip rfl ?_ | (apply RestK.go; exact rfl; exact rfl; intro E; (refine AOps.move rfl rfl ?_); exact AOps.nil ⟨rfl, rfl⟩)
      exact RestK.nil
      apply RestI.cons; exact rfl; exact rfl
      first | refine RestK.skip rfl ?_ | (apply RestK.go; exact rfl; exact rfl; intro E; (refine S.len rfl rfl (fun hl33 => ?_)); exact AOps.nil ⟨rfl, rfl⟩)
      first | refine RestK.skip rfl ?_ | (apply RestK.go; exact rfl; exact rfl; intro E; (refine S.len rfl rfl (fun hl33 => ?_)); exact AOps.nil ⟨rfl, rfl⟩)
      first | refine RestK.skip rfl ?_ | (apply RestK.go; exact rfl; exact rfl; intro E; (refine S.len rfl rfl (fun hl33 => ?_)); exact AOps.nil ⟨rfl, rfl⟩)
      exact RestK.nil
      refine RestI.skip rfl ?_
      refine RestI.skip rfl ?_
      apply RestI.cons; exact rfl; exact rfl
      first | refine RestK.skip rfl ?_ | (apply RestK.go; exact rfl; exact rfl; intro E; (refine AOps.move rfl rfl ?_); exact AOps.nil ⟨rfl, rfl⟩)
      first | refine RestK.skip rfl ?_ | (apply RestK.go; exact rfl; exact rfl; intro E; (refine AOps.move rfl rfl ?_); exact AOps.nil ⟨rfl, rfl⟩)
      first | refine RestK.skip rfl ?_ | (apply RestK.go; exact rfl; exact rfl; intro E; (refine AOps.move rfl rfl ?_); exact AOps.nil ⟨rfl, rfl⟩)
      exact RestK.nil
      apply RestI.cons; exact rfl; exact rfl
      first | refine RestK.skip rfl ?_ | (apply RestK.go; exact rfl; exact rfl; intro E; (refine AOps.extract rfl rfl rfl ?_); exact AOps.nil ⟨rfl, rfl⟩)
      first | refine RestK.skip rfl ?_ | (apply RestK.go; exact rfl; exact rfl; intro E; (refine AOps.extract rfl rfl rfl ?_); exact AOps.nil ⟨rfl, rfl⟩)
      first | refine RestK.skip rfl ?_ | (apply RestK.go; exact rfl; exact rfl; intro E; (refine AOps.extract rfl rfl rfl ?_); exact AOps.nil ⟨rfl, rfl⟩)
      exact RestK.nil
      apply RestI.cons; exact rfl; exact rfl
      first | refine RestK.skip rfl ?_ | (apply RestK.go; exact rfl; exact rfl; intro E; (refine AOps.extract rfl rfl rfl ?_); exact AOps.nil ⟨rfl, rfl⟩)
      first | refine RestK.skip rfl ?_ | (apply RestK.go; exact rfl; exact rfl; intro E; (refine AOps.extract rfl rfl rfl ?_); exact AOps.nil ⟨rfl, rfl⟩)
      first | refine RestK.skip rfl ?_ | (apply RestK.go; exact rfl; exact rfl; intro E; (refine AOps.extract rfl rfl rfl ?_); exact AOps.nil ⟨rfl, rfl⟩)
      exact RestK.nil
      apply RestI.cons; exact rfl; exact rfl
      first | refine RestK.skip rfl ?_ | (apply RestK.go; exact rfl; exact rfl; intro E; (refine AOps.assign rfl rfl ?_); exact AOps.nil ⟨rfl, rfl⟩)
      first | refine RestK.skip rfl ?_ | (apply RestK.go; exact rfl; exact rfl; intro E; (refine AOps.assign rfl rfl ?_); exact AOps.nil ⟨rfl, rfl⟩)
      first | refine RestK.skip rfl ?_ | (apply RestK.go; exact rfl; exact rfl; intro E; (refine AOps.assign rfl rfl ?_); exact AOps.nil ⟨rfl, rfl⟩)
      exact RestK.nil
      apply RestI.cons; exact rfl; exact rfl
      first | refine RestK.skip rfl ?_ | (apply RestK.go; exact rfl; exact rfl; intro E; (refine AOps.assign rfl rfl ?_); exact AOps.nil ⟨rfl, rfl⟩)
      first | refine RestK.skip rfl ?_ | (apply RestK.go; exact rfl; exact rfl; intro E; (refine AOps.assign rfl rfl ?_); exact AOps.nil ⟨rfl, rfl⟩)
      first | refine RestK.skip rfl ?_ | (apply RestK.go; exact rfl; exact rfl; intro E; (refine AOps.assign rfl rfl ?_); exact AOps.nil ⟨rfl, rfl⟩)
      exact RestK.nil
      exact RestI.nil
    dsimp only [envEnd]
    refine thn_normal ?_
    refine AWP.seq ?_
    refine AWP.region ?_
    refine AOps.move rfl rfl ?_
    refine AOps.move rfl rfl ?_
    refine W.build rfl rfl rfl rfl ?_
    refine AOps.assign rfl rfl ?_
    refine AOps.assign rfl rfl ?_
    refine W.storeAgg rfl rfl rfl rfl rfl rfl rfl ?_
    refine AOps.nil ?_
    refine thn_normal ?_
    refine AWP.ret ?_
    have ej := Option.some.inj h
    subst ej
    exact Done.ret rfl rfl
theorem ref1_In_ok {nv : Int} {low : Int} {high : Int} {r : Bool} (h : ref1_In nv low high = some r) : PureOk Tryd.prog 19 [.c (int nv), .c (int low), .c (int high)] (.c (bool r)) := by
  unfold PureOk
  refine FnOk.enter (rs := [.t 6]) Tryd.func19 rfl Tryd.ntmps19 Tryd.results19 rfl ⟨trivial, trivial⟩ (by kernel_rfl) rfl ?_
  unfold ref1_In at h
  refine AWP.seq ?_
  refine AWP.region ?_
  refine AOps.assign rfl rfl ?_
  refine AOps.nil ?_
  refine thn_normal ?_
  refine AWP.seqJ (⟨[(6, .c (bool ((decide (low ≤ nv)) && (decide (nv ≤ high)))))], []⟩) ?_ ?_
  · rcases Bool.eq_false_or_eq_true (decide (low ≤ nv)) with hb1 | hb1
    · refine AWP.region ?_
      refine AOps.move rfl rfl ?_
      refine AOps.move rfl rfl ?_
      refine AOps.geq rfl rfl rfl ?_
      refine AOps.move rfl rfl ?_
      refine AOps.guardT rfl rfl rfl hb1 ?_; refine AOps.move rfl rfl ?_
      refine AOps.guardT rfl rfl rfl hb1 ?_; refine AOps.move rfl rfl ?_
      refine AOps.guardT rfl rfl rfl hb1 ?_; refine AOps.leq rfl rfl rfl ?_
      refine AOps.pickT rfl hb1 rfl rfl ?_
      refine AOps.assign rfl rfl ?_
      refine AOps.nil ?_
      refine thn_normal ?_
      simp only [and_t hb1, or_t hb1, Bool.false_or, Bool.true_or, Bool.false_and, Bool.true_and]
      exact Sub.env ⟨rfl, trivial⟩
    · refine AWP.region ?_
      refine AOps.move rfl rfl ?_
      refine AOps.move rfl rfl ?_
      refine AOps.geq rfl rfl rfl ?_
      refine AOps.move rfl rfl ?_
      refine AOps.guardF rfl rfl rfl hb1 ?_
      refine AOps.guardF rfl rfl rfl hb1 ?_
      refine AOps.guardF rfl rfl rfl hb1 ?_
      refine AOps.pickF rfl hb1 rfl rfl ?_
      refine AOps.assign rfl rfl ?_
      refine AOps.nil ?_
      refine thn_normal ?_
      simp only [and_f hb1, or_f hb1, Bool.false_or, Bool.true_or, Bool.false_and, Bool.true_and]
      exact Sub.env ⟨rfl, trivial⟩
  · refine AWP.ret ?_
    have ej := Option.some.inj h
    subst ej
    exact Done.ret rfl rfl
theorem ref1_At_ok {code : Int} {index : Int} {r : TFault} (h : ref1_At code index = some r) : PureOk Tryd.prog 18 [.c (int code), .c (int index)] (.agg [int r.code, int r.index]) := by
  unfold PureOk
  refine FnOk.enter (rs := [.cell 4 28 2]) Tryd.func18 rfl Tryd.ntmps18 Tryd.results18 rfl ⟨rv _ rfl, trivial⟩ (by kernel_rfl) rfl ?_
  unfold ref1_At at h
  refine AWP.seq ?_
  refine AWP.region ?_
  refine W.alloc rfl rfl rfl rfl ?_
  refine AOps.nil ?_
  refine thn_normal ?_
  refine AWP.seq ?_
  refine AWP.region ?_
  refine AOps.move rfl rfl ?_
  refine AOps.move rfl rfl ?_
  refine W.build rfl rfl rfl rfl ?_
  refine W.storeAgg rfl rfl rfl rfl rfl rfl rfl ?_
  refine AOps.nil ?_
  refine thn_normal ?_
  refine AWP.ret ?_
  have ej := Option.some.inj h
  subst ej
  exact Done.ret rfl rfl
theorem ref1_IsSet_ok {l : List Int} {nv : Int} {r : Bool} (h : ref1_IsSet l nv = some r) : PureOk Tryd.prog 27 [.c (row 1 intI l), .c (int nv)] (.c (bool r)) := by
  unfold PureOk
  refine FnOk.enter (rs := [.t 4]) Tryd.func27 rfl Tryd.ntmps27 Tryd.results27 rfl ⟨trivial, trivial⟩ (by kernel_rfl) rfl ?_
  unfold ref1_IsSet at h
  refine AWP.seq ?_
  refine AWP.region ?_
  refine AOps.assign rfl rfl ?_
  refine AOps.nil ?_
  refine thn_normal ?_
  refine AWP.seq ?_
  refine AWP.seq ?_
  refine AWP.region ?_
  refine AOps.assign rfl rfl ?_
  refine AOps.nil ?_
  refine thn_normal ?_
  refine AWP.block ?_
  obtain ⟨oo, ho1, h⟩ := bind_some h
  refine AWP.rngS ho1 (fun iv3 _ => ⟨[(0, .c (row 1 intI l)), (1, .c (int nv)), (5, .c (int iv3))], []⟩) (fun o e st => match o with | .inl _ => e = .exit 0 ∧ Sub [] st ⟨[], []⟩ | .inr x => e = .ret ∧ Done [.t 4] (fun t _ => t = .c (bool x)) .ret st) ?_ ?_ ?_ ?_
  · try dsimp only
    exact Sub.env ⟨rfl, rfl, rfl, trivial⟩
  · intro iv3 s hloiv3 hltiv3 _
    try dsimp only
    refine AWP.seq ?_
    refine AWP.seq ?_
    refine AWP.region ?_
    refine AOps.move rfl rfl ?_
    refine AOps.move rfl rfl ?_
    refine S.len rfl rfl (fun hl8 => ?_)
    refine AOps.lss rfl rfl rfl ?_
    refine AOps.nil ?_
    refine thn_normal ?_
    refine AWP.condNP rfl hltiv3 ?_
    refine AWP.exit ?_
    refine thn_exit ?_
    refine thn_exit ⟨rfl, ?_⟩
    exact Sub.env trivial
  · intro iv3 s o hloiv3 hltiv3 h
    unfold ref1_IsSet_l1 at h
    try dsimp only at h ⊢
    refine AWP.seq ?_
    refine AWP.seq ?_
    refine AWP.region ?_
    refine AOps.move rfl rfl ?_
    refine AOps.move rfl rfl ?_
    refine S.len rfl rfl (fun hl8 => ?_)
    refine AOps.lss rfl rfl rfl ?_
    refine AOps.nil ?_
    refine thn_normal ?_
    refine AWP.condP rfl hltiv3 ?_
    refine AWP.skip ?_
    refine thn_normal ?_
    refine AWP.seq ?_
    refine AWP.block ?_
    obtain ⟨t4, hx5, h⟩ := bind_some h
    refine AWP.seqJ (⟨[(0, .c (row 1 intI l)), (1, .c (int nv)), (5, .c (int iv3)), (35, .c (bool t4))], []⟩) ?_ ?_
    · obtain ⟨a14, ha14, hx5⟩ := bind_some hx5
      obtain ⟨a18, ha18, hx5⟩ := bind_some hx5
      rcases Bool.eq_false_or_eq_true (!a18) with hb6 | hb6
      · replace hx5 := iteBT hb6 hx5
        refine AWP.drawI mixed rfl ?_
        apply DrawSeq.consF; exact rfl; intro E
        refine AOps.move rfl rfl ?_
        exact AOps.nil ⟨rfl, rfl⟩
        exact rfl
        apply DrawSeq.consF; exact rfl; intro E
        refine AOps.move rfl rfl ?_
        exact AOps.nil ⟨rfl, rfl⟩
        exact rfl
        apply DrawSeq.consF; exact rfl; intro E
        refine S.idx ha14 rfl rfl rfl rfl ?_
        exact AOps.nil ⟨rfl, rfl⟩
        exact rfl
        apply DrawSeq.consF; exact rfl; intro E
        refine AOps.loadI rfl rfl rfl rfl ?_
        exact AOps.nil ⟨rfl, rfl⟩
        exact rfl
        apply DrawSeq.consF; exact rfl; intro E
        refine AOps.move rfl rfl ?_
        exact AOps.nil ⟨rfl, rfl⟩
        exact rfl
        apply DrawSeq.consF; exact rfl; intro E
        refine S.sub rfl rfl rfl ?_
        exact AOps.nil ⟨rfl, rfl⟩
        exact rfl
        apply DrawSeq.consF; exact rfl; intro E
        refine AOps.callR rfl rfl rfl rfl (ref1_In_ok ha18) rfl ?_
        exact AOps.nil ⟨rfl, rfl⟩
        exact rfl
        apply DrawSeq.consF; exact rfl; intro E
        refine AOps.not rfl rfl ?_
        exact AOps.nil ⟨rfl, rfl⟩
        exact rfl
        apply DrawSeq.consF; exact rfl; intro E
        refine AOps.move rfl rfl ?_
        exact AOps.nil ⟨rfl, rfl⟩
        exact rfl
        apply DrawSeq.consF; exact rfl; intro E
        refine AOps.guardF rfl rfl rfl hb6 ?_
        exact AOps.nil ⟨rfl, rfl⟩
        exact rfl
        apply DrawSeq.consF; exact rfl; intro E
        refine AOps.guardF rfl rfl rfl hb6 ?_
        exact AOps.nil ⟨rfl, rfl⟩
        exact rfl
        apply DrawSeq.consF; exact rfl; intro E
        refine AOps.guardF rfl rfl rfl hb6 ?_
        exact AOps.nil ⟨rfl, rfl⟩
        exact rfl
        apply DrawSeq.consF; exact rfl; intro E
        refine AOps.guardSkip rfl rfl rfl ?_
        exact AOps.nil ⟨rfl, rfl⟩
        exact rfl
        apply DrawSeq.consF; exact rfl; intro E
        refine AOps.guardSkip rfl rfl rfl ?_
        exact AOps.nil ⟨rfl, rfl⟩
        exact rfl
        apply DrawSeq.consF; exact rfl; intro E
        refine AOps.guardSkip rfl rfl rfl ?_
        exact AOps.nil ⟨rfl, rfl⟩
        exact rfl
        apply DrawSeq.consF; exact rfl; intro E
        refine AOps.guardSkip rfl rfl rfl ?_
        exact AOps.nil ⟨rfl, rfl⟩
        exact rfl
        apply DrawSeq.consF; exact rfl; intro E
        refine AOps.guardSkip rfl rfl rfl ?_
        exact AOps.nil ⟨rfl, rfl⟩
        exact rfl
        apply DrawSeq.consF; exact rfl; intro E
        refine AOps.guardSkip rfl rfl rfl ?_
        exact AOps.nil ⟨rfl, rfl⟩
        exact rfl
        apply DrawSeq.consF; exact rfl; intro E
        refine AOps.guardSkip rfl rfl rfl ?_
        exact AOps.nil ⟨rfl, rfl⟩
        exact rfl
        apply DrawSeq.consF; exact rfl; intro E
        refine AOps.guardSkip rfl rfl rfl ?_
        exact AOps.nil ⟨rfl, rfl⟩
        exact rfl
        apply DrawSeq.consF; exact rfl; intro E
        refine AOps.guardSkip rfl rfl rfl ?_
        exact AOps.nil ⟨rfl, rfl⟩
        exact rfl
        apply DrawSeq.consF; exact rfl; intro E
        refine AOps.guardSkip rfl rfl rfl ?_
        exact AOps.nil ⟨rfl, rfl⟩
        exact rfl
        apply DrawSeq.consF; exact rfl; intro E
        refine AOps.guardF rfl rfl rfl hb6 ?_
        exact AOps.nil ⟨rfl, rfl⟩
        exact rfl
        apply DrawSeq.consF; exact rfl; intro E
        refine AOps.pickT rfl hb6 rfl rfl ?_
        exact AOps.nil ⟨rfl, rfl⟩
        exact rfl
        refine DrawSeq.done ?_
        dsimp only [envEnd]
        have ej := Option.some.inj hx5
        subst ej
        refine thn_normal ?_
        exact Sub.env ⟨rfl, rfl, rfl, rfl, trivial⟩
      · replace hx5 := iteBF hb6 hx5
        rcases Bool.eq_false_or_eq_true (decide (0 < iv3)) with hb7 | hb7
        · replace hx5 := iteDT hb7 hx5
          obtain ⟨a26, ha26, hx5⟩ := bind_some hx5
          obtain ⟨a31, ha31, hx5⟩ := bind_some hx5
          refine AWP.drawI mixed rfl ?_
          apply DrawSeq.consF; exact rfl; intro E
          refine AOps.move rfl rfl ?_
          exact AOps.nil ⟨rfl, rfl⟩
          exact rfl
          apply DrawSeq.consF; exact rfl; intro E
          refine AOps.move rfl rfl ?_
          exact AOps.nil ⟨rfl, rfl⟩
          exact rfl
          apply DrawSeq.consF; exact rfl; intro E
          refine S.idx ha14 rfl rfl rfl rfl ?_
          exact AOps.nil ⟨rfl, rfl⟩
          exact rfl
          apply DrawSeq.consF; exact rfl; intro E
          refine AOps.loadI rfl rfl rfl rfl ?_
          exact AOps.nil ⟨rfl, rfl⟩
          exact rfl
          apply DrawSeq.consF; exact rfl; intro E
          refine AOps.move rfl rfl ?_
          exact AOps.nil ⟨rfl, rfl⟩
          exact rfl
          apply DrawSeq.consF; exact rfl; intro E
          refine S.sub rfl rfl rfl ?_
          exact AOps.nil ⟨rfl, rfl⟩
          exact rfl
          apply DrawSeq.consF; exact rfl; intro E
          refine AOps.callR rfl rfl rfl rfl (ref1_In_ok ha18) rfl ?_
          exact AOps.nil ⟨rfl, rfl⟩
          exact rfl
          apply DrawSeq.consF; exact rfl; intro E
          refine AOps.not rfl rfl ?_
          exact AOps.nil ⟨rfl, rfl⟩
          exact rfl
          apply DrawSeq.consF; exact rfl; intro E
          refine AOps.move rfl rfl ?_
          exact AOps.nil ⟨rfl, rfl⟩
          exact rfl
          apply DrawSeq.consF; exact rfl; intro E
          refine AOps.guardT rfl rfl rfl hb6 ?_; refine AOps.move rfl rfl ?_
          exact AOps.nil ⟨rfl, rfl⟩
          exact rfl
          apply DrawSeq.consF; exact rfl; intro E
          refine AOps.guardT rfl rfl rfl hb6 ?_; refine AOps.gtr rfl rfl rfl ?_
          exact AOps.nil ⟨rfl, rfl⟩
          exact rfl
          apply DrawSeq.consF; exact rfl; intro E
          refine AOps.guardT rfl rfl rfl hb6 ?_; refine AOps.move rfl rfl ?_
          exact AOps.nil ⟨rfl, rfl⟩
          exact rfl
          apply DrawSeq.consF; exact rfl; intro E
          refine AOps.guardT rfl rfl rfl hb7 ?_; refine AOps.move rfl rfl ?_
          exact AOps.nil ⟨rfl, rfl⟩
          exact rfl
          apply DrawSeq.consF; exact rfl; intro E
          refine AOps.guardT rfl rfl rfl hb7 ?_; refine AOps.move rfl rfl ?_
          exact AOps.nil ⟨rfl, rfl⟩
          exact rfl
          apply DrawSeq.consF; exact rfl; intro E
          refine AOps.guardT rfl rfl rfl hb7 ?_; refine S.idx ha26 rfl rfl rfl rfl ?_
          exact AOps.nil ⟨rfl, rfl⟩
          exact rfl
          apply DrawSeq.consF; exact rfl; intro E
          refine AOps.guardT rfl rfl rfl hb7 ?_; refine AOps.loadI rfl rfl rfl rfl ?_
          exact AOps.nil ⟨rfl, rfl⟩
          exact rfl
          apply DrawSeq.consF; exact rfl; intro E
          refine AOps.guardT rfl rfl rfl hb7 ?_; refine AOps.move rfl rfl ?_
          exact AOps.nil ⟨rfl, rfl⟩
          exact rfl
          apply DrawSeq.consF; exact rfl; intro E
          refine AOps.guardT rfl rfl rfl hb7 ?_; refine AOps.move rfl rfl ?_
          exact AOps.nil ⟨rfl, rfl⟩
          exact rfl
          apply DrawSeq.consF; exact rfl; intro E
          refine AOps.guardT rfl rfl rfl hb7 ?_; refine AOps.sub' rfl rfl rfl (by omega) ?_
          exact AOps.nil ⟨rfl, rfl⟩
          exact rfl
          apply DrawSeq.consF; exact rfl; intro E
          refine AOps.guardT rfl rfl rfl hb7 ?_; refine S.idx ha31 rfl rfl rfl rfl ?_
          exact AOps.nil ⟨rfl, rfl⟩
          exact rfl
          apply DrawSeq.consF; exact rfl; intro E
          refine AOps.guardT rfl rfl rfl hb7 ?_; refine AOps.loadI rfl rfl rfl rfl ?_
          exact AOps.nil ⟨rfl, rfl⟩
          exact rfl
          apply DrawSeq.consF; exact rfl; intro E
          refine AOps.guardT rfl rfl rfl hb7 ?_; refine AOps.leq rfl rfl rfl ?_
          exact AOps.nil ⟨rfl, rfl⟩
          exact rfl
          apply DrawSeq.consF; exact rfl; intro E
          refine AOps.guardT rfl rfl rfl hb6 ?_; refine AOps.pickT rfl hb7 rfl rfl ?_
          exact AOps.nil ⟨rfl, rfl⟩
          exact rfl
          apply DrawSeq.consF; exact rfl; intro E
          refine AOps.pickF rfl hb6 rfl rfl ?_
          exact AOps.nil ⟨rfl, rfl⟩
          exact rfl
          refine DrawSeq.done ?_
          dsimp only [envEnd]
          have ej := Option.some.inj hx5
          subst ej
          refine thn_normal ?_
          exact Sub.env ⟨rfl, rfl, rfl, rfl, trivial⟩
        · replace hx5 := iteDF hb7 hx5
          refine AWP.drawI mixed rfl ?_
          apply DrawSeq.consF; exact rfl; intro E
          refine AOps.move rfl rfl ?_
          exact AOps.nil ⟨rfl, rfl⟩
          exact rfl
          apply DrawSeq.consF; exact rfl; intro E
          refine AOps.move rfl rfl ?_
          exact AOps.nil ⟨rfl, rfl⟩
          exact rfl
          apply DrawSeq.consF; exact rfl; intro E
          refine S.idx ha14 rfl rfl rfl rfl ?_
          exact AOps.nil ⟨rfl, rfl⟩
          exact rfl
          apply DrawSeq.consF; exact rfl; intro E
          refine AOps.loadI rfl rfl rfl rfl ?_
          exact AOps.nil ⟨rfl, rfl⟩
          exact rfl
          apply DrawSeq.consF; exact rfl; intro E
          refine AOps.move rfl rfl ?_
          exact AOps.nil ⟨rfl, rfl⟩
          exact rfl
          apply DrawSeq.consF; exact rfl; intro E
          refine S.sub rfl rfl rfl ?_
          exact AOps.nil ⟨rfl, rfl⟩
          exact rfl
          apply DrawSeq.consF; exact rfl; intro E
          refine AOps.callR rfl rfl rfl rfl (ref1_In_ok ha18) rfl ?_
          exact AOps.nil ⟨rfl, rfl⟩
          exact rfl
          apply DrawSeq.consF; exact rfl; intro E
          refine AOps.not rfl rfl ?_
          exact AOps.nil ⟨rfl, rfl⟩
          exact rfl
          apply DrawSeq.consF; exact rfl; intro E
          refine AOps.move rfl rfl ?_
          exact AOps.nil ⟨rfl, rfl⟩
          exact rfl
          apply DrawSeq.consF; exact rfl; intro E
          refine AOps.guardT rfl rfl rfl hb6 ?_; refine AOps.move rfl rfl ?_
          exact AOps.nil ⟨rfl, rfl⟩
          exact rfl
          apply DrawSeq.consF; exact rfl; intro E
          refine AOps.guardT rfl rfl rfl hb6 ?_; refine AOps.gtr rfl rfl rfl ?_
          exact AOps.nil ⟨rfl, rfl⟩
          exact rfl
          apply DrawSeq.consF; exact rfl; intro E
          refine AOps.guardT rfl rfl rfl hb6 ?_; refine AOps.move rfl rfl ?_
          exact AOps.nil ⟨rfl, rfl⟩
          exact rfl
          apply DrawSeq.consF; exact rfl; intro E
          refine AOps.guardF rfl rfl rfl hb7 ?_
          exact AOps.nil ⟨rfl, rfl⟩
          exact rfl
          apply DrawSeq.consF; exact rfl; intro E
          refine AOps.guardF rfl rfl rfl hb7 ?_
          exact AOps.nil ⟨rfl, rfl⟩
          exact rfl
          apply DrawSeq.consF; exact rfl; intro E
          refine AOps.guardF rfl rfl rfl hb7 ?_
          exact AOps.nil ⟨rfl, rfl⟩
          exact rfl
          apply DrawSeq.consF; exact rfl; intro E
          refine AOps.guardF rfl rfl rfl hb7 ?_
          exact AOps.nil ⟨rfl, rfl⟩
          exact rfl
          apply DrawSeq.consF; exact rfl; intro E
          refine AOps.guardF rfl rfl rfl hb7 ?_
          exact AOps.nil ⟨rfl, rfl⟩
          exact rfl
          apply DrawSeq.consF; exact rfl; intro E
          refine AOps.guardF rfl rfl rfl hb7 ?_
          exact AOps.nil ⟨rfl, rfl⟩
          exact rfl
          apply DrawSeq.consF; exact rfl; intro E
          refine AOps.guardF rfl rfl rfl hb7 ?_
          exact AOps.nil ⟨rfl, rfl⟩
          exact rfl
          apply DrawSeq.consF; exact rfl; intro E
          refine AOps.guardF rfl rfl rfl hb7 ?_
          exact AOps.nil ⟨rfl, rfl⟩
          exact rfl
          apply DrawSeq.consF; exact rfl; intro E
          refine AOps.guardF rfl rfl rfl hb7 ?_
          exact AOps.nil ⟨rfl, rfl⟩
          exact rfl
          apply DrawSeq.consF; exact rfl; intro E
          refine AOps.guardF rfl rfl rfl hb7 ?_
          exact AOps.nil ⟨rfl, rfl⟩
          exact rfl
          apply DrawSeq.consF; exact rfl; intro E
          refine AOps.guardT rfl rfl rfl hb6 ?_; refine AOps.pickF rfl hb7 rfl rfl ?_
          exact AOps.nil ⟨rfl, rfl⟩
          exact rfl
          apply DrawSeq.consF; exact rfl; intro E
          refine AOps.pickF rfl hb6 rfl rfl ?_
          exact AOps.nil ⟨rfl, rfl⟩
          exact rfl
          refine DrawSeq.done ?_
          dsimp only [envEnd]
          have ej := Option.some.inj hx5
          subst ej
          refine thn_normal ?_
          exact Sub.env ⟨rfl, rfl, rfl, rfl, trivial⟩
    · refine AWP.iteB rfl h (fun hc8 h => ?_) (fun hc8 h => ?_)
      · refine AWP.seq ?_
        refine AWP.region ?_
        refine AOps.assign rfl rfl ?_
        refine AOps.nil ?_
        refine thn_normal ?_
        refine AWP.ret ?_
        refine inB_ret ?_
        refine thn_ret ?_
        have ej := Option.some.inj h
        subst ej
        refine thn_ret ⟨_, rfl, rfl, ?_⟩
        exact Done.ret rfl rfl
      · refine AWP.skip ?_
        refine inB_normal ?_
        refine thn_normal ?_
        refine AWP.region ?_
        refine AOps.move rfl rfl ?_
        refine AOps.add rfl rfl rfl (by omega) ?_
        refine AOps.assign rfl rfl ?_
        refine AOps.nil ?_
        have ej := Option.some.inj h
        subst ej
        refine thn_normal ⟨_, rfl, ?_⟩
        exact Sub.env ⟨rfl, rfl, rfl, trivial⟩
  · intro e s hq
    rcases oo with u | x
    · try dsimp only at h hq
      obtain ⟨rfl, hs⟩ := hq
      refine ⟨_, hs, ?_⟩
      refine inB_exit ?_
      refine thn_normal ?_
      refine AWP.seq ?_
      refine AWP.region ?_
      refine AOps.assign rfl rfl ?_
      refine AOps.nil ?_
      refine thn_normal ?_
      refine AWP.ret ?_
      have ej := Option.some.inj h
      subst ej
      exact Done.ret rfl rfl
    · try dsimp only at h hq
      obtain ⟨rfl, hs⟩ := hq
      refine ⟨_, Sub.refl _ _, ?_⟩
      refine inB_ret ?_
      refine thn_ret ?_
      have ej := Option.some.inj h
      subst ej
      exact hs
theorem ref1_Has_ok {l : List Int} {nv : Int} {r : Bool} (h : ref1_Has l nv = some r) : PureOk Tryd.prog 38 [.c (row 1 intI l), .c (int nv)] (.c (bool r)) := by
  unfold PureOk
  refine FnOk.enter (rs := [.t 4]) Tryd.func38 rfl Tryd.ntmps38 Tryd.results38 rfl ⟨trivial, trivial⟩ (by kernel_rfl) rfl ?_
  unfold ref1_Has at h
  refine AWP.seq ?_
  refine AWP.region ?_
  refine AOps.assign rfl rfl ?_
  refine AOps.nil ?_
  refine thn_normal ?_
  refine AWP.seq ?_
  refine AWP.seq ?_
  refine AWP.region ?_
  refine AOps.assign rfl rfl ?_
  refine AOps.nil ?_
  refine thn_normal ?_
  refine AWP.block ?_
  obtain ⟨oo, ho1, h⟩ := bind_some h
  refine AWP.rngS ho1 (fun iv3 _ => ⟨[(0, .c (row 1 intI l)), (1, .c (int nv)), (5, .c (int iv3))], []⟩) (fun o e st => match o with | .inl _ => e = .exit 0 ∧ Sub [] st ⟨[], []⟩ | .inr x => e = .ret ∧ Done [.t 4] (fun t _ => t = .c (bool x)) .ret st) ?_ ?_ ?_ ?_
  · try dsimp only
    exact Sub.env ⟨rfl, rfl, rfl, trivial⟩
  · intro iv3 s hloiv3 hltiv3 _
    try dsimp only
    refine AWP.seq ?_
    refine AWP.seq ?_
    refine AWP.region ?_
    refine AOps.move rfl rfl ?_
    refine AOps.move rfl rfl ?_
    refine S.len rfl rfl (fun hl8 => ?_)
    refine AOps.lss rfl rfl rfl ?_
    refine AOps.nil ?_
    refine thn_normal ?_
    refine AWP.condNP rfl hltiv3 ?_
    refine AWP.exit ?_
    refine thn_exit ?_
    refine thn_exit ⟨rfl, ?_⟩
    exact Sub.env trivial
  · intro iv3 s o hloiv3 hltiv3 h
    unfold ref1_Has_l1 at h
    try dsimp only at h ⊢
    refine AWP.seq ?_
    refine AWP.seq ?_
    refine AWP.region ?_
    refine AOps.move rfl rfl ?_
    refine AOps.move rfl rfl ?_
    refine S.len rfl rfl (fun hl8 => ?_)
    refine AOps.lss rfl rfl rfl ?_
    refine AOps.nil ?_
    refine thn_normal ?_
    refine AWP.condP rfl hltiv3 ?_
    refine AWP.skip ?_
    refine thn_normal ?_
    refine AWP.seq ?_
    refine AWP.block ?_
    refine AWP.seq ?_
    obtain ⟨a14, ha14, h⟩ := bind_some h
    refine AWP.region ?_
    refine AOps.move rfl rfl ?_
    refine AOps.move rfl rfl ?_
    refine S.idx ha14 rfl rfl rfl rfl ?_
    refine AOps.loadI rfl rfl rfl rfl ?_
    refine AOps.move rfl rfl ?_
    refine AOps.eql rfl rfl rfl ?_
    refine AOps.nil ?_
    refine thn_normal ?_
    refine AWP.ite rfl h (fun hc4 h => ?_) (fun hc4 h => ?_)
    · refine AWP.seq ?_
      refine AWP.region ?_
      refine AOps.assign rfl rfl ?_
      refine AOps.nil ?_
      refine thn_normal ?_
      refine AWP.ret ?_
      refine inB_ret ?_
      refine thn_ret ?_
      have ej := Option.some.inj h
      subst ej
      refine thn_ret ⟨_, rfl, rfl, ?_⟩
      exact Done.ret rfl rfl
    · refine AWP.skip ?_
      refine inB_normal ?_
      refine thn_normal ?_
      refine AWP.region ?_
      refine AOps.move rfl rfl ?_
      refine AOps.add rfl rfl rfl (by omega) ?_
      refine AOps.assign rfl rfl ?_
      refine AOps.nil ?_
      have ej := Option.some.inj h
      subst ej
      refine thn_normal ⟨_, rfl, ?_⟩
      exact Sub.env ⟨rfl, rfl, rfl, trivial⟩
  · intro e s hq
    rcases oo with u | x
    · try dsimp only at h hq
      obtain ⟨rfl, hs⟩ := hq
      refine ⟨_, hs, ?_⟩
      refine inB_exit ?_
      refine thn_normal ?_
      refine AWP.seq ?_
      refine AWP.region ?_
      refine AOps.assign rfl rfl ?_
      refine AOps.nil ?_
      refine thn_normal ?_
      refine AWP.ret ?_
      have ej := Option.some.inj h
      subst ej
      exact Done.ret rfl rfl
    · try dsimp only at h hq
      obtain ⟨rfl, hs⟩ := hq
      refine ⟨_, Sub.refl _ _, ?_⟩
      refine inB_ret ?_
      refine thn_ret ?_
      have ej := Option.some.inj h
      subst ej
      exact hs
theorem ref1_Disjoint_ok {av : List Int} {bv : List Int} {r : Bool} (h : ref1_Disjoint av bv = some r) : PureOk Tryd.prog 22 [.c (row 1 intI av), .c (row 1 intI bv)] (.c (bool r)) := by
  unfold PureOk
  refine FnOk.enter (rs := [.t 4]) Tryd.func22 rfl Tryd.ntmps22 Tryd.results22 rfl ⟨trivial, trivial⟩ (by kernel_rfl) rfl ?_
  unfold ref1_Disjoint at h
  refine AWP.seq ?_
  refine AWP.region ?_
  refine AOps.assign rfl rfl ?_
  refine AOps.nil ?_
  refine thn_normal ?_
  refine AWP.seq ?_
  refine AWP.seq ?_
  refine AWP.region ?_
  refine AOps.assign rfl rfl ?_
  refine AOps.nil ?_
  refine thn_normal ?_
  refine AWP.block ?_
  obtain ⟨oo, ho1, h⟩ := bind_some h
  refine AWP.rngS ho1 (fun iv3 _ => ⟨[(0, .c (row 1 intI av)), (1, .c (row 1 intI bv)), (5, .c (int iv3))], []⟩) (fun o e st => match o with | .inl _ => e = .exit 0 ∧ Sub [] st ⟨[], []⟩ | .inr x => e = .ret ∧ Done [.t 4] (fun t _ => t = .c (bool x)) .ret st) ?_ ?_ ?_ ?_
  · try dsimp only
    exact Sub.env ⟨rfl, rfl, rfl, trivial⟩
  · intro iv3 s hloiv3 hltiv3 _
    try dsimp only
    refine AWP.seq ?_
    refine AWP.seq ?_
    refine AWP.region ?_
    refine AOps.move rfl rfl ?_
    refine AOps.move rfl rfl ?_
    refine S.len rfl rfl (fun hl8 => ?_)
    refine AOps.lss rfl rfl rfl ?_
    refine AOps.nil ?_
    refine thn_normal ?_
    refine AWP.condNP rfl hltiv3 ?_
    refine AWP.exit ?_
    refine thn_exit ?_
    refine thn_exit ⟨rfl, ?_⟩
    exact Sub.env trivial
  · intro iv3 s o hloiv3 hltiv3 h
    unfold ref1_Disjoint_l1 at h
    try dsimp only at h ⊢
    refine AWP.seq ?_
    refine AWP.seq ?_
    refine AWP.region ?_
    refine AOps.move rfl rfl ?_
    refine AOps.move rfl rfl ?_
    refine S.len rfl rfl (fun hl8 => ?_)
    refine AOps.lss rfl rfl rfl ?_
    refine AOps.nil ?_
    refine thn_normal ?_
    refine AWP.condP rfl hltiv3 ?_
    refine AWP.skip ?_
    refine thn_normal ?_
    refine AWP.seq ?_
    refine AWP.block ?_
    refine AWP.seq ?_
    obtain ⟨a15, ha15, h⟩ := bind_some h
    obtain ⟨a17, ha17, h⟩ := bind_some h
    refine AWP.region ?_
    refine AOps.move rfl rfl ?_
    refine AOps.move rfl rfl ?_
    refine AOps.move rfl rfl ?_
    refine S.idx ha15 rfl rfl rfl rfl ?_
    refine AOps.loadI rfl rfl rfl rfl ?_
    refine AOps.callR rfl rfl rfl rfl (ref1_Has_ok ha17) rfl ?_
    refine AOps.nil ?_
    refine thn_normal ?_
    refine AWP.iteB rfl h (fun hc4 h => ?_) (fun hc4 h => ?_)
    · refine AWP.seq ?_
      refine AWP.region ?_
      refine AOps.assign rfl rfl ?_
      refine AOps.nil ?_
      refine thn_normal ?_
      refine AWP.ret ?_
      refine inB_ret ?_
      refine thn_ret ?_
      have ej := Option.some.inj h
      subst ej
      refine thn_ret ⟨_, rfl, rfl, ?_⟩
      exact Done.ret rfl rfl
    · refine AWP.skip ?_
      refine inB_normal ?_
      refine thn_normal ?_
      refine AWP.region ?_
      refine AOps.move rfl rfl ?_
      refine AOps.add rfl rfl rfl (by omega) ?_
      refine AOps.assign rfl rfl ?_
      refine AOps.nil ?_
      have ej := Option.some.inj h
      subst ej
      refine thn_normal ⟨_, rfl, ?_⟩
      exact Sub.env ⟨rfl, rfl, rfl, trivial⟩
  · intro e s hq
    rcases oo with u | x
    · try dsimp only at h hq
      obtain ⟨rfl, hs⟩ := hq
      refine ⟨_, hs, ?_⟩
      refine inB_exit ?_
      refine thn_normal ?_
      refine AWP.seq ?_
      refine AWP.region ?_
      refine AOps.assign rfl rfl ?_
      refine AOps.nil ?_
      refine thn_normal ?_
      refine AWP.ret ?_
      have ej := Option.some.inj h
      subst ej
      exact Done.ret rfl rfl
    · try dsimp only at h hq
      obtain ⟨rfl, hs⟩ := hq
      refine ⟨_, Sub.refl _ _, ?_⟩
      refine inB_ret ?_
      refine thn_ret ?_
      have ej := Option.some.inj h
      subst ej
      exact hs
theorem ref1_TaskFault_ok {t : TTask} {r : TFault} (h : ref1_TaskFault t = some r) : PureOk Tryd.prog 26 [.agg [int t.facts, row 1 intI t.init, row 1 intI t.goal, row 4 eTOperator t.operators]] (.agg [int r.code, int r.index]) := by
  unfold PureOk
  refine FnOk.enter (rs := [.cell 2 28 2]) Tryd.func26 rfl Tryd.ntmps26 Tryd.results26 rfl ⟨rv _ rfl, trivial⟩ (by kernel_rfl) rfl ?_
  unfold ref1_TaskFault at h
  refine AWP.seq ?_
  refine AWP.region ?_
  refine W.box rfl rfl rfl rfl rfl rfl ?_
  refine W.alloc rfl rfl rfl rfl ?_
  refine AOps.nil ?_
  refine thn_normal ?_
  refine AWP.seq ?_
  refine AWP.seq ?_
  obtain ⟨a7, ha7, h⟩ := bind_some h
  refine AWP.region ?_
  refine W.fieldAddr rfl rfl rfl rfl ?_
  refine AOps.load rfl rfl rfl rfl rfl rfl ?_
  refine AOps.callR rfl rfl rfl rfl (ref1_In_ok ha7) rfl ?_
  refine AOps.not rfl rfl ?_
  refine AOps.nil ?_
  refine thn_normal ?_
  refine AWP.iteB rfl h (fun hc2 h => ?_) (fun hc2 h => ?_)
  · refine AWP.seq ?_
    obtain ⟨a9, ha9, h⟩ := bind_some h
    refine AWP.region ?_
    refine AOps.callR rfl rfl rfl rfl (ref1_At_ok ha9) rfl ?_
    refine W.storeAgg rfl rfl rfl rfl rfl rfl rfl ?_
    refine AOps.nil ?_
    refine thn_normal ?_
    refine AWP.ret ?_
    refine thn_ret ?_
    have ej := Option.some.inj h
    subst ej
    exact Done.ret rfl rfl
  · refine AWP.skip ?_
    refine thn_normal ?_
    refine AWP.seq ?_
    refine AWP.seq ?_
    obtain ⟨a14, ha14, h⟩ := bind_some h
    refine AWP.region ?_
    refine W.fieldAddr rfl rfl rfl rfl ?_
    refine AOps.load rfl rfl rfl rfl rfl rfl ?_
    refine W.fieldAddr rfl rfl rfl rfl ?_
    refine AOps.load rfl rfl rfl rfl rfl rfl ?_
    refine AOps.callR rfl rfl rfl rfl (ref1_IsSet_ok ha14) rfl ?_
    refine AOps.not rfl rfl ?_
    refine AOps.nil ?_
    refine thn_normal ?_
    refine AWP.iteB rfl h (fun hc3 h => ?_) (fun hc3 h => ?_)
    · refine AWP.seq ?_
      obtain ⟨a16, ha16, h⟩ := bind_some h
      refine AWP.region ?_
      refine AOps.callR rfl rfl rfl rfl (ref1_At_ok ha16) rfl ?_
      refine W.storeAgg rfl rfl rfl rfl rfl rfl rfl ?_
      refine AOps.nil ?_
      refine thn_normal ?_
      refine AWP.ret ?_
      refine thn_ret ?_
      have ej := Option.some.inj h
      subst ej
      exact Done.ret rfl rfl
    · refine AWP.skip ?_
      refine thn_normal ?_
      refine AWP.seq ?_
      refine AWP.seq ?_
      obtain ⟨a21, ha21, h⟩ := bind_some h
      refine AWP.region ?_
      refine W.fieldAddr rfl rfl rfl rfl ?_
      refine AOps.load rfl rfl rfl rfl rfl rfl ?_
      refine W.fieldAddr rfl rfl rfl rfl ?_
      refine AOps.load rfl rfl rfl rfl rfl rfl ?_
      refine AOps.callR rfl rfl rfl rfl (ref1_IsSet_ok ha21) rfl ?_
      refine AOps.not rfl rfl ?_
      refine AOps.nil ?_
      refine thn_normal ?_
      refine AWP.iteB rfl h (fun hc4 h => ?_) (fun hc4 h => ?_)
      · refine AWP.seq ?_
        obtain ⟨a23, ha23, h⟩ := bind_some h
        refine AWP.region ?_
        refine AOps.callR rfl rfl rfl rfl (ref1_At_ok ha23) rfl ?_
        refine W.storeAgg rfl rfl rfl rfl rfl rfl rfl ?_
        refine AOps.nil ?_
        refine thn_normal ?_
        refine AWP.ret ?_
        refine thn_ret ?_
        have ej := Option.some.inj h
        subst ej
        exact Done.ret rfl rfl
      · refine AWP.skip ?_
        refine thn_normal ?_
        refine AWP.seq ?_
        refine AWP.seq ?_
        refine AWP.region ?_
        refine W.fieldAddr rfl rfl rfl rfl ?_
        refine AOps.load rfl rfl rfl rfl rfl rfl ?_
        refine S.len rfl rfl (fun hl26 => ?_)
        refine AOps.gtr rfl rfl rfl ?_
        refine AOps.nil ?_
        refine thn_normal ?_
        refine AWP.ite rfl h (fun hc5 h => ?_) (fun hc5 h => ?_)
        · refine AWP.seq ?_
          obtain ⟨a28, ha28, h⟩ := bind_some h
          refine AWP.region ?_
          refine AOps.callR rfl rfl rfl rfl (ref1_At_ok ha28) rfl ?_
          refine W.storeAgg rfl rfl rfl rfl rfl rfl rfl ?_
          refine AOps.nil ?_
          refine thn_normal ?_
          refine AWP.ret ?_
          refine thn_ret ?_
          have ej := Option.some.inj h
          subst ej
          exact Done.ret rfl rfl
        · refine AWP.skip ?_
          refine thn_normal ?_
          refine AWP.seq ?_
          refine AWP.seq ?_
          refine AWP.region ?_
          refine AOps.assign rfl rfl ?_
          refine AOps.nil ?_
          refine thn_normal ?_
          refine AWP.block ?_
          obtain ⟨oo, ho1, h⟩ := bind_some h
          refine AWP.rngS ho1 (fun iv6 _ => ⟨[(1, .c (.ptr 0 0 0)), (2, .c (.ptr 1 0 0)), (3, .c (int iv6))], [.one (.cells 4 [[int t.facts, row 1 intI t.init, row 1 intI t.goal, row 4 eTOperator t.operators]]), .one (.cells 2 [[int 0, int 0]])]⟩) (fun o e st => match o with | .inl _ => e = .exit 0 ∧ Sub [] st ⟨[(2, .c (.ptr 1 0 0))], [.one (.cells 4 [[int t.facts, row 1 intI t.init, row 1 intI t.goal, row 4 eTOperator t.operators]]), .one (.cells 2 [[int 0, int 0]])]⟩ | .inr x => e = .ret ∧ Done [.cell 2 28 2] (fun t _ => t = .agg [int x.code, int x.index]) .ret st) ?_ ?_ ?_ ?_
          · try dsimp only
            exact Sub.env ⟨rfl, rfl, rfl, trivial⟩
          · intro iv6 s hloiv6 hltiv6 _
            try dsimp only
            refine AWP.seq ?_
            refine AWP.seq ?_
            refine AWP.region ?_
            refine AOps.move rfl rfl ?_
            refine W.fieldAddr rfl rfl rfl rfl ?_
            refine AOps.load rfl rfl rfl rfl rfl rfl ?_
            refine S.len rfl rfl (fun hl32 => ?_)
            refine AOps.lss rfl rfl rfl ?_
            refine AOps.nil ?_
            refine thn_normal ?_
            refine AWP.condNP rfl hltiv6 ?_
            refine AWP.exit ?_
            refine thn_exit ?_
            refine thn_exit ⟨rfl, ?_⟩
            exact Sub.env ⟨rfl, trivial⟩
          · intro iv6 s o hloiv6 hltiv6 h
            unfold ref1_TaskFault_l1 at h
            try dsimp only at h ⊢
            refine AWP.seq ?_
            refine AWP.seq ?_
            refine AWP.region ?_
            refine AOps.move rfl rfl ?_
            refine W.fieldAddr rfl rfl rfl rfl ?_
            refine AOps.load rfl rfl rfl rfl rfl rfl ?_
            refine S.len rfl rfl (fun hl32 => ?_)
            refine AOps.lss rfl rfl rfl ?_
            refine AOps.nil ?_
            refine thn_normal ?_
            refine AWP.condP rfl hltiv6 ?_
            refine AWP.skip ?_
            refine thn_normal ?_
            refine AWP.seq ?_
            refine AWP.block ?_
            refine AWP.seq ?_
            obtain ⟨a39, ha39, h⟩ := bind_some h
            refine AWP.region ?_
            refine W.fieldAddr rfl rfl rfl rfl ?_
            refine AOps.load rfl rfl rfl rfl rfl rfl ?_
            refine AOps.move rfl rfl ?_
            refine S.idx ha39 rfl rfl rfl rfl ?_
            refine W.loadIAgg rfl rfl rfl rfl rfl ?_
            refine W.alloc rfl rfl rfl rfl ?_
            refine W.storeAgg rfl rfl rfl rfl rfl rfl rfl ?_
            refine AOps.nil ?_
            refine thn_normal ?_
            refine AWP.seq ?_
            obtain ⟨t7, hx8, h⟩ := bind_some h
            refine AWP.seqJ (⟨[(1, .c (.ptr 0 0 0)), (2, .c (.ptr 1 0 0)), (3, .c (int iv6)), (4, .c (.ptr 2 0 0)), (70, .c (bool t7))], [.one (.cells 4 [[int t.facts, row 1 intI t.init, row 1 intI t.goal, row 4 eTOperator t.operators]]), .one (.cells 2 [[int 0, int 0]]), .one (.cells 4 [[row 1 intI a39.pre, row 1 intI a39.add, row 1 intI a39.del, int a39.cost]])]⟩) ?_ ?_
            · obtain ⟨a45, ha45, hx8⟩ := bind_some hx8
              rcases Bool.eq_false_or_eq_true (!a45) with hb9 | hb9
              · replace hx8 := iteBT hb9 hx8
                refine AWP.region ?_
                refine W.fieldAddr rfl rfl rfl rfl ?_
                refine AOps.load rfl rfl rfl rfl rfl rfl ?_
                refine W.fieldAddr rfl rfl rfl rfl ?_
                refine AOps.load rfl rfl rfl rfl rfl rfl ?_
                refine AOps.callR rfl rfl rfl rfl (ref1_IsSet_ok ha45) rfl ?_
                refine AOps.not rfl rfl ?_
                refine AOps.move rfl rfl ?_
                refine AOps.guardF rfl rfl rfl hb9 ?_
                refine AOps.guardF rfl rfl rfl hb9 ?_
                refine AOps.guardF rfl rfl rfl hb9 ?_
                refine AOps.guardF rfl rfl rfl hb9 ?_
                refine AOps.guardF rfl rfl rfl hb9 ?_
                refine AOps.guardF rfl rfl rfl hb9 ?_
                refine AOps.pickT rfl hb9 rfl rfl ?_
                refine AOps.move rfl rfl ?_
                refine AOps.guardF rfl rfl rfl rfl ?_
                refine AOps.guardF rfl rfl rfl rfl ?_
                refine AOps.guardF rfl rfl rfl rfl ?_
                refine AOps.guardF rfl rfl rfl rfl ?_
                refine AOps.guardF rfl rfl rfl rfl ?_
                refine AOps.guardF rfl rfl rfl rfl ?_
                refine AOps.pickT rfl rfl rfl rfl ?_
                refine AOps.move rfl rfl ?_
                refine AOps.guardF rfl rfl rfl rfl ?_
                refine AOps.guardF rfl rfl rfl rfl ?_
                refine AOps.guardF rfl rfl rfl rfl ?_
                refine AOps.guardF rfl rfl rfl rfl ?_
                refine AOps.guardF rfl rfl rfl rfl ?_
                refine AOps.guardF rfl rfl rfl rfl ?_
                refine AOps.pickT rfl rfl rfl rfl ?_
                refine AOps.nil ?_
                have ej := Option.some.inj hx8
                subst ej
                refine thn_normal ?_
                exact Sub.env ⟨rfl, rfl, rfl, rfl, rfl, trivial⟩
              · replace hx8 := iteBF hb9 hx8
                obtain ⟨a52, ha52, hx8⟩ := bind_some hx8
                rcases Bool.eq_false_or_eq_true (!a52) with hb10 | hb10
                · replace hx8 := iteBT hb10 hx8
                  refine AWP.region ?_
                  refine W.fieldAddr rfl rfl rfl rfl ?_
                  refine AOps.load rfl rfl rfl rfl rfl rfl ?_
                  refine W.fieldAddr rfl rfl rfl rfl ?_
                  refine AOps.load rfl rfl rfl rfl rfl rfl ?_
                  refine AOps.callR rfl rfl rfl rfl (ref1_IsSet_ok ha45) rfl ?_
                  refine AOps.not rfl rfl ?_
                  refine AOps.move rfl rfl ?_
                  refine AOps.guardT rfl rfl rfl hb9 ?_; refine W.fieldAddr rfl rfl rfl rfl ?_
                  refine AOps.guardT rfl rfl rfl hb9 ?_; refine AOps.load rfl rfl rfl rfl rfl rfl ?_
                  refine AOps.guardT rfl rfl rfl hb9 ?_; refine W.fieldAddr rfl rfl rfl rfl ?_
                  refine AOps.guardT rfl rfl rfl hb9 ?_; refine AOps.load rfl rfl rfl rfl rfl rfl ?_
                  refine AOps.guardT rfl rfl rfl hb9 ?_; refine AOps.callR rfl rfl rfl rfl (ref1_IsSet_ok ha52) rfl ?_
                  refine AOps.guardT rfl rfl rfl hb9 ?_; refine AOps.not rfl rfl ?_
                  refine AOps.pickF rfl hb9 rfl rfl ?_
                  refine AOps.move rfl rfl ?_
                  refine AOps.guardF rfl rfl rfl hb10 ?_
                  refine AOps.guardF rfl rfl rfl hb10 ?_
                  refine AOps.guardF rfl rfl rfl hb10 ?_
                  refine AOps.guardF rfl rfl rfl hb10 ?_
                  refine AOps.guardF rfl rfl rfl hb10 ?_
                  refine AOps.guardF rfl rfl rfl hb10 ?_
                  refine AOps.pickT rfl hb10 rfl rfl ?_
                  refine AOps.move rfl rfl ?_
                  refine AOps.guardF rfl rfl rfl rfl ?_
                  refine AOps.guardF rfl rfl rfl rfl ?_
                  refine AOps.guardF rfl rfl rfl rfl ?_
                  refine AOps.guardF rfl rfl rfl rfl ?_
                  refine AOps.guardF rfl rfl rfl rfl ?_
                  refine AOps.guardF rfl rfl rfl rfl ?_
                  refine AOps.pickT rfl rfl rfl rfl ?_
                  refine AOps.nil ?_
                  have ej := Option.some.inj hx8
                  subst ej
                  refine thn_normal ?_
                  exact Sub.env ⟨rfl, rfl, rfl, rfl, rfl, trivial⟩
                · replace hx8 := iteBF hb10 hx8
                  obtain ⟨a60, ha60, hx8⟩ := bind_some hx8
                  rcases Bool.eq_false_or_eq_true (!a60) with hb11 | hb11
                  · replace hx8 := iteBT hb11 hx8
                    refine AWP.region ?_
                    refine W.fieldAddr rfl rfl rfl rfl ?_
                    refine AOps.load rfl rfl rfl rfl rfl rfl ?_
                    refine W.fieldAddr rfl rfl rfl rfl ?_
                    refine AOps.load rfl rfl rfl rfl rfl rfl ?_
                    refine AOps.callR rfl rfl rfl rfl (ref1_IsSet_ok ha45) rfl ?_
                    refine AOps.not rfl rfl ?_
                    refine AOps.move rfl rfl ?_
                    refine AOps.guardT rfl rfl rfl hb9 ?_; refine W.fieldAddr rfl rfl rfl rfl ?_
                    refine AOps.guardT rfl rfl rfl hb9 ?_; refine AOps.load rfl rfl rfl rfl rfl rfl ?_
                    refine AOps.guardT rfl rfl rfl hb9 ?_; refine W.fieldAddr rfl rfl rfl rfl ?_
                    refine AOps.guardT rfl rfl rfl hb9 ?_; refine AOps.load rfl rfl rfl rfl rfl rfl ?_
                    refine AOps.guardT rfl rfl rfl hb9 ?_; refine AOps.callR rfl rfl rfl rfl (ref1_IsSet_ok ha52) rfl ?_
                    refine AOps.guardT rfl rfl rfl hb9 ?_; refine AOps.not rfl rfl ?_
                    refine AOps.pickF rfl hb9 rfl rfl ?_
                    refine AOps.move rfl rfl ?_
                    refine AOps.guardT rfl rfl rfl hb10 ?_; refine W.fieldAddr rfl rfl rfl rfl ?_
                    refine AOps.guardT rfl rfl rfl hb10 ?_; refine AOps.load rfl rfl rfl rfl rfl rfl ?_
                    refine AOps.guardT rfl rfl rfl hb10 ?_; refine W.fieldAddr rfl rfl rfl rfl ?_
                    refine AOps.guardT rfl rfl rfl hb10 ?_; refine AOps.load rfl rfl rfl rfl rfl rfl ?_
                    refine AOps.guardT rfl rfl rfl hb10 ?_; refine AOps.callR rfl rfl rfl rfl (ref1_IsSet_ok ha60) rfl ?_
                    refine AOps.guardT rfl rfl rfl hb10 ?_; refine AOps.not rfl rfl ?_
                    refine AOps.pickF rfl hb10 rfl rfl ?_
                    refine AOps.move rfl rfl ?_
                    refine AOps.guardF rfl rfl rfl hb11 ?_
                    refine AOps.guardF rfl rfl rfl hb11 ?_
                    refine AOps.guardF rfl rfl rfl hb11 ?_
                    refine AOps.guardF rfl rfl rfl hb11 ?_
                    refine AOps.guardF rfl rfl rfl hb11 ?_
                    refine AOps.guardF rfl rfl rfl hb11 ?_
                    refine AOps.pickT rfl hb11 rfl rfl ?_
                    refine AOps.nil ?_
                    have ej := Option.some.inj hx8
                    subst ej
                    refine thn_normal ?_
                    exact Sub.env ⟨rfl, rfl, rfl, rfl, rfl, trivial⟩
                  · replace hx8 := iteBF hb11 hx8
                    obtain ⟨a68, ha68, hx8⟩ := bind_some hx8
                    refine AWP.region ?_
                    refine W.fieldAddr rfl rfl rfl rfl ?_
                    refine AOps.load rfl rfl rfl rfl rfl rfl ?_
                    refine W.fieldAddr rfl rfl rfl rfl ?_
                    refine AOps.load rfl rfl rfl rfl rfl rfl ?_
                    refine AOps.callR rfl rfl rfl rfl (ref1_IsSet_ok ha45) rfl ?_
                    refine AOps.not rfl rfl ?_
                    refine AOps.move rfl rfl ?_
                    refine AOps.guardT rfl rfl rfl hb9 ?_; refine W.fieldAddr rfl rfl rfl rfl ?_
                    refine AOps.guardT rfl rfl rfl hb9 ?_; refine AOps.load rfl rfl rfl rfl rfl rfl ?_
                    refine AOps.guardT rfl rfl rfl hb9 ?_; refine W.fieldAddr rfl rfl rfl rfl ?_
                    refine AOps.guardT rfl rfl rfl hb9 ?_; refine AOps.load rfl rfl rfl rfl rfl rfl ?_
                    refine AOps.guardT rfl rfl rfl hb9 ?_; refine AOps.callR rfl rfl rfl rfl (ref1_IsSet_ok ha52) rfl ?_
                    refine AOps.guardT rfl rfl rfl hb9 ?_; refine AOps.not rfl rfl ?_
                    refine AOps.pickF rfl hb9 rfl rfl ?_
                    refine AOps.move rfl rfl ?_
                    refine AOps.guardT rfl rfl rfl hb10 ?_; refine W.fieldAddr rfl rfl rfl rfl ?_
                    refine AOps.guardT rfl rfl rfl hb10 ?_; refine AOps.load rfl rfl rfl rfl rfl rfl ?_
                    refine AOps.guardT rfl rfl rfl hb10 ?_; refine W.fieldAddr rfl rfl rfl rfl ?_
                    refine AOps.guardT rfl rfl rfl hb10 ?_; refine AOps.load rfl rfl rfl rfl rfl rfl ?_
                    refine AOps.guardT rfl rfl rfl hb10 ?_; refine AOps.callR rfl rfl rfl rfl (ref1_IsSet_ok ha60) rfl ?_
                    refine AOps.guardT rfl rfl rfl hb10 ?_; refine AOps.not rfl rfl ?_
                    refine AOps.pickF rfl hb10 rfl rfl ?_
                    refine AOps.move rfl rfl ?_
                    refine AOps.guardT rfl rfl rfl hb11 ?_; refine W.fieldAddr rfl rfl rfl rfl ?_
                    refine AOps.guardT rfl rfl rfl hb11 ?_; refine AOps.load rfl rfl rfl rfl rfl rfl ?_
                    refine AOps.guardT rfl rfl rfl hb11 ?_; refine W.fieldAddr rfl rfl rfl rfl ?_
                    refine AOps.guardT rfl rfl rfl hb11 ?_; refine AOps.load rfl rfl rfl rfl rfl rfl ?_
                    refine AOps.guardT rfl rfl rfl hb11 ?_; refine AOps.callR rfl rfl rfl rfl (ref1_Disjoint_ok ha68) rfl ?_
                    refine AOps.guardT rfl rfl rfl hb11 ?_; refine AOps.not rfl rfl ?_
                    refine AOps.pickF rfl hb11 rfl rfl ?_
                    refine AOps.nil ?_
                    have ej := Option.some.inj hx8
                    subst ej
                    refine thn_normal ?_
                    exact Sub.env ⟨rfl, rfl, rfl, rfl, rfl, trivial⟩
            · refine AWP.iteB rfl h (fun hc12 h => ?_) (fun hc12 h => ?_)
              · refine AWP.seq ?_
                obtain ⟨a72, ha72, h⟩ := bind_some h
                refine AWP.region ?_
                refine AOps.move rfl rfl ?_
                refine AOps.callR rfl rfl rfl rfl (ref1_At_ok ha72) rfl ?_
                refine W.storeAgg rfl rfl rfl rfl rfl rfl rfl ?_
                refine AOps.nil ?_
                refine thn_normal ?_
                refine AWP.ret ?_
                refine thn_ret ?_
                refine inB_ret ?_
                refine thn_ret ?_
                have ej := Option.some.inj h
                subst ej
                refine thn_ret ⟨_, rfl, rfl, ?_⟩
                exact Done.ret rfl rfl
              · refine AWP.skip ?_
                refine thn_normal ?_
                refine AWP.seq ?_
                obtain ⟨a75, ha75, h⟩ := bind_some h
                refine AWP.region ?_
                refine W.fieldAddr rfl rfl rfl rfl ?_
                refine AOps.load rfl rfl rfl rfl rfl rfl ?_
                refine AOps.callR rfl rfl rfl rfl (ref1_In_ok ha75) rfl ?_
                refine AOps.not rfl rfl ?_
                refine AOps.nil ?_
                refine thn_normal ?_
                refine AWP.iteB rfl h (fun hc13 h => ?_) (fun hc13 h => ?_)
                · refine AWP.seq ?_
                  obtain ⟨a78, ha78, h⟩ := bind_some h
                  refine AWP.region ?_
                  refine AOps.move rfl rfl ?_
                  refine AOps.callR rfl rfl rfl rfl (ref1_At_ok ha78) rfl ?_
                  refine W.storeAgg rfl rfl rfl rfl rfl rfl rfl ?_
                  refine AOps.nil ?_
                  refine thn_normal ?_
                  refine AWP.ret ?_
                  refine inB_ret ?_
                  refine thn_ret ?_
                  have ej := Option.some.inj h
                  subst ej
                  refine thn_ret ⟨_, rfl, rfl, ?_⟩
                  exact Done.ret rfl rfl
                · refine AWP.skip ?_
                  refine inB_normal ?_
                  refine thn_normal ?_
                  refine AWP.region ?_
                  refine AOps.move rfl rfl ?_
                  refine AOps.add rfl rfl rfl (by omega) ?_
                  refine AOps.assign rfl rfl ?_
                  refine AOps.nil ?_
                  have ej := Option.some.inj h
                  subst ej
                  refine thn_normal ⟨_, rfl, ?_⟩
                  exact Sub.cut ⟨rfl, rfl, rfl, trivial⟩ rfl ⟨.one rfl, .one rfl, trivial⟩ rfl
          · intro e s hq
            rcases oo with u | x
            · try dsimp only at h hq
              obtain ⟨rfl, hs⟩ := hq
              refine ⟨_, hs, ?_⟩
              refine inB_exit ?_
              refine thn_normal ?_
              refine AWP.seq ?_
              refine AWP.region ?_
              refine W.build rfl rfl rfl rfl ?_
              refine W.storeAgg rfl rfl rfl rfl rfl rfl rfl ?_
              refine AOps.nil ?_
              refine thn_normal ?_
              refine AWP.ret ?_
              have ej := Option.some.inj h
              subst ej
              exact Done.ret rfl rfl
            · try dsimp only at h hq
              obtain ⟨rfl, hs⟩ := hq
              refine ⟨_, Sub.refl _ _, ?_⟩
              refine inB_ret ?_
              refine thn_ret ?_
              have ej := Option.some.inj h
              subst ej
              exact hs
theorem ref1_StepsFault_ok {operators : Int} {plan : List Int} {r : TFault} (h : ref1_StepsFault operators plan = some r) : PureOk Tryd.prog 28 [.c (int operators), .c (row 1 intI plan)] (.agg [int r.code, int r.index]) := by
  unfold PureOk
  refine FnOk.enter (rs := [.cell 4 28 2]) Tryd.func28 rfl Tryd.ntmps28 Tryd.results28 rfl ⟨rv _ rfl, trivial⟩ (by kernel_rfl) rfl ?_
  unfold ref1_StepsFault at h
  refine AWP.seq ?_
  refine AWP.region ?_
  refine W.alloc rfl rfl rfl rfl ?_
  refine AOps.nil ?_
  refine thn_normal ?_
  refine AWP.seq ?_
  refine AWP.seq ?_
  refine AWP.region ?_
  refine AOps.move rfl rfl ?_
  refine S.len rfl rfl (fun hl7 => ?_)
  refine AOps.gtr rfl rfl rfl ?_
  refine AOps.nil ?_
  refine thn_normal ?_
  refine AWP.ite rfl h (fun hc3 h => ?_) (fun hc3 h => ?_)
  · refine AWP.seq ?_
    obtain ⟨a9, ha9, h⟩ := bind_some h
    refine AWP.region ?_
    refine AOps.callR rfl rfl rfl rfl (ref1_At_ok ha9) rfl ?_
    refine W.storeAgg rfl rfl rfl rfl rfl rfl rfl ?_
    refine AOps.nil ?_
    refine thn_normal ?_
    refine AWP.ret ?_
    refine thn_ret ?_
    have ej := Option.some.inj h
    subst ej
    exact Done.ret rfl rfl
  · refine AWP.skip ?_
    refine thn_normal ?_
    refine AWP.seq ?_
    refine AWP.seq ?_
    refine AWP.region ?_
    refine AOps.assign rfl rfl ?_
    refine AOps.nil ?_
    refine thn_normal ?_
    refine AWP.block ?_
    obtain ⟨oo, ho1, h⟩ := bind_some h
    refine AWP.rngS ho1 (fun iv4 _ => ⟨[(0, .c (int operators)), (1, .c (row 1 intI plan)), (4, .c (.ptr 0 0 0)), (5, .c (int iv4))], [.one (.cells 2 [[int 0, int 0]])]⟩) (fun o e st => match o with | .inl _ => e = .exit 0 ∧ Sub [] st ⟨[(4, .c (.ptr 0 0 0))], [.one (.cells 2 [[int 0, int 0]])]⟩ | .inr x => e = .ret ∧ Done [.cell 4 28 2] (fun t _ => t = .agg [int x.code, int x.index]) .ret st) ?_ ?_ ?_ ?_
    · try dsimp only
      exact Sub.env ⟨rfl, rfl, rfl, rfl, trivial⟩
    · intro iv4 s hloiv4 hltiv4 _
      try dsimp only
      refine AWP.seq ?_
      refine AWP.seq ?_
      refine AWP.region ?_
      refine AOps.move rfl rfl ?_
      refine AOps.move rfl rfl ?_
      refine S.len rfl rfl (fun hl12 => ?_)
      refine AOps.lss rfl rfl rfl ?_
      refine AOps.nil ?_
      refine thn_normal ?_
      refine AWP.condNP rfl hltiv4 ?_
      refine AWP.exit ?_
      refine thn_exit ?_
      refine thn_exit ⟨rfl, ?_⟩
      exact Sub.env ⟨rfl, trivial⟩
    · intro iv4 s o hloiv4 hltiv4 h
      unfold ref1_StepsFault_l1 at h
      try dsimp only at h ⊢
      refine AWP.seq ?_
      refine AWP.seq ?_
      refine AWP.region ?_
      refine AOps.move rfl rfl ?_
      refine AOps.move rfl rfl ?_
      refine S.len rfl rfl (fun hl12 => ?_)
      refine AOps.lss rfl rfl rfl ?_
      refine AOps.nil ?_
      refine thn_normal ?_
      refine AWP.condP rfl hltiv4 ?_
      refine AWP.skip ?_
      refine thn_normal ?_
      refine AWP.seq ?_
      refine AWP.block ?_
      refine AWP.seq ?_
      obtain ⟨a18, ha18, h⟩ := bind_some h
      obtain ⟨a22, ha22, h⟩ := bind_some h
      refine AWP.region ?_
      refine AOps.move rfl rfl ?_
      refine AOps.move rfl rfl ?_
      refine S.idx ha18 rfl rfl rfl rfl ?_
      refine AOps.loadI rfl rfl rfl rfl ?_
      refine AOps.move rfl rfl ?_
      refine S.sub rfl rfl rfl ?_
      refine AOps.callR rfl rfl rfl rfl (ref1_In_ok ha22) rfl ?_
      refine AOps.not rfl rfl ?_
      refine AOps.nil ?_
      refine thn_normal ?_
      refine AWP.iteB rfl h (fun hc5 h => ?_) (fun hc5 h => ?_)
      · refine AWP.seq ?_
        obtain ⟨a24, ha24, h⟩ := bind_some h
        refine AWP.region ?_
        refine AOps.callR rfl rfl rfl rfl (ref1_At_ok ha24) rfl ?_
        refine W.storeAgg rfl rfl rfl rfl rfl rfl rfl ?_
        refine AOps.nil ?_
        refine thn_normal ?_
        refine AWP.ret ?_
        refine inB_ret ?_
        refine thn_ret ?_
        have ej := Option.some.inj h
        subst ej
        refine thn_ret ⟨_, rfl, rfl, ?_⟩
        exact Done.ret rfl rfl
      · refine AWP.skip ?_
        refine inB_normal ?_
        refine thn_normal ?_
        refine AWP.region ?_
        refine AOps.move rfl rfl ?_
        refine AOps.add rfl rfl rfl (by omega) ?_
        refine AOps.assign rfl rfl ?_
        refine AOps.nil ?_
        have ej := Option.some.inj h
        subst ej
        refine thn_normal ⟨_, rfl, ?_⟩
        exact Sub.env ⟨rfl, rfl, rfl, rfl, trivial⟩
    · intro e s hq
      rcases oo with u | x
      · try dsimp only at h hq
        obtain ⟨rfl, hs⟩ := hq
        refine ⟨_, hs, ?_⟩
        refine inB_exit ?_
        refine thn_normal ?_
        refine AWP.seq ?_
        refine AWP.region ?_
        refine W.build rfl rfl rfl rfl ?_
        refine W.storeAgg rfl rfl rfl rfl rfl rfl rfl ?_
        refine AOps.nil ?_
        refine thn_normal ?_
        refine AWP.ret ?_
        have ej := Option.some.inj h
        subst ej
        exact Done.ret rfl rfl
      · try dsimp only at h hq
        obtain ⟨rfl, hs⟩ := hq
        refine ⟨_, Sub.refl _ _, ?_⟩
        refine inB_ret ?_
        refine thn_ret ?_
        have ej := Option.some.inj h
        subst ej
        exact hs
end Ab
end
