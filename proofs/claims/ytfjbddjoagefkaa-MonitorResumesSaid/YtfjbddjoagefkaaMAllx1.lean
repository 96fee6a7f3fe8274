/-
  The program's functions compute what the plain texts say.
-/
import Derived.Test.YtfjbddjoagefkaaMAllD
import Derived.Test.YtfjbddjoagefkaaSo
namespace Ab
open Go Go.Proofs
set_option maxHeartbeats 4000000
set_option linter.all false
attribute [local irreducible] AWP AOps thn inB Done PureOk FreshOk Sub

theorem strips_IsSet_ok {l : List Int} {nv : Int} {r : Bool} (h : strips_IsSet l nv = some r) : PureOk Try.prog 50 [.c (row 1 intI l), .c (int nv)] (.c (bool r)) := by
  unfold PureOk
  refine FnOk.enter (rs := [.t 4]) Try.func50 rfl Try.ntmps50 Try.results50 rfl ⟨trivial, trivial⟩ (by kernel_rfl) rfl ?_
  unfold strips_IsSet at h
  refine AWP.seq ?_
  refine AWP.region ?_
  refine AOps.assign rfl rfl ?_
  refine AOps.nil ?_
  refine thn_normal ?_
  refine AWP.seq ?_
  refine AWP.seq ?_
  refine AWP.region ?_
  refine AOps.move rfl rfl ?_
  refine S.len rfl rfl (fun hl8 => ?_)
  refine AOps.move rfl rfl ?_
  refine AOps.nil ?_
  refine thn_normal ?_
  refine AWP.block ?_
  obtain ⟨oo, ho1, h⟩ := bind_some h
  refine AWP.rngS ho1 (fun t3 _ => ⟨[(0, .c (row 1 intI l)), (1, .c (int nv)), (7, .c (row 1 intI l)), (8, .c (int (l.length : Int))), (9, .c (int t3))], []⟩) (fun o e st => match o with | .inl _ => e = .exit 0 ∧ Sub [] st ⟨[], []⟩ | .inr x => e = .ret ∧ Done [.t 4] (fun t _ => t = .c (bool x)) .ret st) ?_ ?_ ?_ ?_
  · try dsimp only
    exact Sub.env ⟨rfl, rfl, rfl, rfl, rfl, trivial⟩
  · intro t3 s hlot3 hltt3 _
    try dsimp only
    refine AWP.seq ?_
    refine AWP.region ?_
    refine AOps.lss rfl rfl rfl ?_
    refine AOps.nil ?_
    refine thn_normal ?_
    refine AWP.seq ?_
    refine AWP.condNP rfl hltt3 ?_
    refine AWP.exit ?_
    refine thn_exit ?_
    refine thn_exit ⟨rfl, ?_⟩
    exact Sub.env trivial
  · intro t3 s o hlot3 hltt3 h
    unfold strips_IsSet_l1 at h
    try dsimp only at h ⊢
    refine AWP.seq ?_
    refine AWP.region ?_
    refine AOps.lss rfl rfl rfl ?_
    refine AOps.nil ?_
    refine thn_normal ?_
    refine AWP.seq ?_
    refine AWP.condP rfl hltt3 ?_
    refine AWP.skip ?_
    refine thn_normal ?_
    refine AWP.seq ?_
    refine AWP.block ?_
    refine AWP.seq ?_
    obtain ⟨a12, ha12, h⟩ := bind_some h
    refine AWP.region ?_
    refine AOps.move rfl rfl ?_
    refine S.idx ha12 rfl rfl rfl rfl ?_
    refine AOps.loadI rfl rfl rfl rfl ?_
    refine AOps.assign rfl rfl ?_
    refine AOps.assign rfl rfl ?_
    refine AOps.nil ?_
    refine thn_normal ?_
    obtain ⟨t4, hx5, h⟩ := bind_some h
    refine AWP.seqJ (⟨[(0, .c (row 1 intI l)), (1, .c (int nv)), (7, .c (row 1 intI l)), (8, .c (int (l.length : Int))), (9, .c (int t3)), (33, .c (bool t4))], []⟩) ?_ ?_
    · rcases Bool.eq_false_or_eq_true (decide (a12 < 0)) with hb6 | hb6
      · replace hx5 := iteDT hb6 hx5
        refine AWP.region ?_
        refine AOps.move rfl rfl ?_
        refine AOps.lss rfl rfl rfl ?_
        refine AOps.move rfl rfl ?_
        refine AOps.guardF rfl rfl rfl hb6 ?_
        refine AOps.guardF rfl rfl rfl hb6 ?_
        refine AOps.guardF rfl rfl rfl hb6 ?_
        refine AOps.pickT rfl hb6 rfl rfl ?_
        refine AOps.move rfl rfl ?_
        refine AOps.guardF rfl rfl rfl rfl ?_
        refine AOps.guardF rfl rfl rfl rfl ?_
        refine AOps.guardF rfl rfl rfl rfl ?_
        refine AOps.guardSkip rfl rfl rfl ?_
        refine AOps.guardSkip rfl rfl rfl ?_
        refine AOps.guardSkip rfl rfl rfl ?_
        refine AOps.guardSkip rfl rfl rfl ?_
        refine AOps.guardSkip rfl rfl rfl ?_
        refine AOps.guardSkip rfl rfl rfl ?_
        refine AOps.guardSkip rfl rfl rfl ?_
        refine AOps.guardF rfl rfl rfl rfl ?_
        refine AOps.pickT rfl rfl rfl rfl ?_
        refine AOps.nil ?_
        have ej := Option.some.inj hx5
        subst ej
        refine thn_normal ?_
        exact Sub.env ⟨rfl, rfl, rfl, rfl, rfl, rfl, trivial⟩
      · replace hx5 := iteDF hb6 hx5
        rcases Bool.eq_false_or_eq_true (decide (nv ≤ a12)) with hb7 | hb7
        · replace hx5 := iteDT hb7 hx5
          refine AWP.region ?_
          refine AOps.move rfl rfl ?_
          refine AOps.lss rfl rfl rfl ?_
          refine AOps.move rfl rfl ?_
          refine AOps.guardT rfl rfl rfl hb6 ?_; refine AOps.move rfl rfl ?_
          refine AOps.guardT rfl rfl rfl hb6 ?_; refine AOps.move rfl rfl ?_
          refine AOps.guardT rfl rfl rfl hb6 ?_; refine AOps.geq rfl rfl rfl ?_
          refine AOps.pickF rfl hb6 rfl rfl ?_
          refine AOps.move rfl rfl ?_
          refine AOps.guardF rfl rfl rfl hb7 ?_
          refine AOps.guardF rfl rfl rfl hb7 ?_
          refine AOps.guardF rfl rfl rfl hb7 ?_
          refine AOps.guardSkip rfl rfl rfl ?_
          refine AOps.guardSkip rfl rfl rfl ?_
          refine AOps.guardSkip rfl rfl rfl ?_
          refine AOps.guardSkip rfl rfl rfl ?_
          refine AOps.guardSkip rfl rfl rfl ?_
          refine AOps.guardSkip rfl rfl rfl ?_
          refine AOps.guardSkip rfl rfl rfl ?_
          refine AOps.guardF rfl rfl rfl hb7 ?_
          refine AOps.pickT rfl hb7 rfl rfl ?_
          refine AOps.nil ?_
          have ej := Option.some.inj hx5
          subst ej
          refine thn_normal ?_
          exact Sub.env ⟨rfl, rfl, rfl, rfl, rfl, rfl, trivial⟩
        · replace hx5 := iteDF hb7 hx5
          rcases Bool.eq_false_or_eq_true (decide (0 < t3)) with hb8 | hb8
          · replace hx5 := iteDT hb8 hx5
            obtain ⟨a29, ha29, hx5⟩ := bind_some hx5
            refine AWP.region ?_
            refine AOps.move rfl rfl ?_
            refine AOps.lss rfl rfl rfl ?_
            refine AOps.move rfl rfl ?_
            refine AOps.guardT rfl rfl rfl hb6 ?_; refine AOps.move rfl rfl ?_
            refine AOps.guardT rfl rfl rfl hb6 ?_; refine AOps.move rfl rfl ?_
            refine AOps.guardT rfl rfl rfl hb6 ?_; refine AOps.geq rfl rfl rfl ?_
            refine AOps.pickF rfl hb6 rfl rfl ?_
            refine AOps.move rfl rfl ?_
            refine AOps.guardT rfl rfl rfl hb7 ?_; refine AOps.move rfl rfl ?_
            refine AOps.guardT rfl rfl rfl hb7 ?_; refine AOps.gtr rfl rfl rfl ?_
            refine AOps.guardT rfl rfl rfl hb7 ?_; refine AOps.move rfl rfl ?_
            refine AOps.guardT rfl rfl rfl hb8 ?_; refine AOps.move rfl rfl ?_
            refine AOps.guardT rfl rfl rfl hb8 ?_; refine AOps.move rfl rfl ?_
            refine AOps.guardT rfl rfl rfl hb8 ?_; refine AOps.move rfl rfl ?_
            refine AOps.guardT rfl rfl rfl hb8 ?_; refine AOps.sub' rfl rfl rfl (by omega) ?_
            refine AOps.guardT rfl rfl rfl hb8 ?_; refine S.idx ha29 rfl rfl rfl rfl ?_
            refine AOps.guardT rfl rfl rfl hb8 ?_; refine AOps.loadI rfl rfl rfl rfl ?_
            refine AOps.guardT rfl rfl rfl hb8 ?_; refine AOps.leq rfl rfl rfl ?_
            refine AOps.guardT rfl rfl rfl hb7 ?_; refine AOps.pickT rfl hb8 rfl rfl ?_
            refine AOps.pickF rfl hb7 rfl rfl ?_
            refine AOps.nil ?_
            have ej := Option.some.inj hx5
            subst ej
            refine thn_normal ?_
            exact Sub.env ⟨rfl, rfl, rfl, rfl, rfl, rfl, trivial⟩
          · replace hx5 := iteDF hb8 hx5
            refine AWP.region ?_
            refine AOps.move rfl rfl ?_
            refine AOps.lss rfl rfl rfl ?_
            refine AOps.move rfl rfl ?_
            refine AOps.guardT rfl rfl rfl hb6 ?_; refine AOps.move rfl rfl ?_
            refine AOps.guardT rfl rfl rfl hb6 ?_; refine AOps.move rfl rfl ?_
            refine AOps.guardT rfl rfl rfl hb6 ?_; refine AOps.geq rfl rfl rfl ?_
            refine AOps.pickF rfl hb6 rfl rfl ?_
            refine AOps.move rfl rfl ?_
            refine AOps.guardT rfl rfl rfl hb7 ?_; refine AOps.move rfl rfl ?_
            refine AOps.guardT rfl rfl rfl hb7 ?_; refine AOps.gtr rfl rfl rfl ?_
            refine AOps.guardT rfl rfl rfl hb7 ?_; refine AOps.move rfl rfl ?_
            refine AOps.guardF rfl rfl rfl hb8 ?_
            refine AOps.guardF rfl rfl rfl hb8 ?_
            refine AOps.guardF rfl rfl rfl hb8 ?_
            refine AOps.guardF rfl rfl rfl hb8 ?_
            refine AOps.guardF rfl rfl rfl hb8 ?_
            refine AOps.guardF rfl rfl rfl hb8 ?_
            refine AOps.guardF rfl rfl rfl hb8 ?_
            refine AOps.guardT rfl rfl rfl hb7 ?_; refine AOps.pickF rfl hb8 rfl rfl ?_
            refine AOps.pickF rfl hb7 rfl rfl ?_
            refine AOps.nil ?_
            have ej := Option.some.inj hx5
            subst ej
            refine thn_normal ?_
            exact Sub.env ⟨rfl, rfl, rfl, rfl, rfl, rfl, trivial⟩
    · refine AWP.iteB rfl h (fun hc9 h => ?_) (fun hc9 h => ?_)
      · refine AWP.seq ?_
        refine AWP.region ?_
        refine AOps.assign rfl rfl ?_
        refine AOps.nil ?_
        refine thn_normal ?_
        refine AWP.ret ?_
        refine inB_ret ?_
        refine thn_ret ?_
        have ej := Option.some.inj h
        subst ej
        refine thn_ret ⟨_, rfl, rfl, ?_⟩
        exact Done.ret rfl rfl
      · refine AWP.skip ?_
        refine inB_normal ?_
        refine thn_normal ?_
        refine AWP.region ?_
        refine AOps.add rfl rfl rfl (by omega) ?_
        refine AOps.move rfl rfl ?_
        refine AOps.nil ?_
        have ej := Option.some.inj h
        subst ej
        refine thn_normal ⟨_, rfl, ?_⟩
        exact Sub.env ⟨rfl, rfl, rfl, rfl, rfl, trivial⟩
  · intro e s hq
    rcases oo with u | x
    · try dsimp only at h hq
      obtain ⟨rfl, hs⟩ := hq
      refine ⟨_, hs, ?_⟩
      refine inB_exit ?_
      refine thn_normal ?_
      refine AWP.seq ?_
      refine AWP.region ?_
      refine AOps.assign rfl rfl ?_
      refine AOps.nil ?_
      refine thn_normal ?_
      refine AWP.ret ?_
      have ej := Option.some.inj h
      subst ej
      exact Done.ret rfl rfl
    · try dsimp only at h hq
      obtain ⟨rfl, hs⟩ := hq
      refine ⟨_, Sub.refl _ _, ?_⟩
      refine inB_ret ?_
      refine thn_ret ?_
      have ej := Option.some.inj h
      subst ej
      exact hs

theorem cmp_isNaN_int_ok {xv : Int} {r : Bool} (h : cmp_isNaN_int xv = some r) : PureOk Try.prog 62 [.c (int xv)] (.c (bool r)) := by
  unfold PureOk
  refine FnOk.enter (rs := [.t 2]) Try.func62 rfl Try.ntmps62 Try.results62 rfl ⟨trivial, trivial⟩ (by kernel_rfl) rfl ?_
  unfold cmp_isNaN_int at h
  refine AWP.seq ?_
  refine AWP.region ?_
  refine AOps.assign rfl rfl ?_
  refine AOps.nil ?_
  refine thn_normal ?_
  refine AWP.seq ?_
  refine AWP.region ?_
  refine AOps.move rfl rfl ?_
  refine AOps.move rfl rfl ?_
  refine AOps.neq rfl rfl rfl ?_
  refine AOps.assign rfl rfl ?_
  refine AOps.nil ?_
  refine thn_normal ?_
  refine AWP.ret ?_
  have ej := Option.some.inj h
  subst ej
  exact Done.ret rfl rfl

theorem cmp_Less_int_ok {xv : Int} {yv : Int} {r : Bool} (h : cmp_Less_int xv yv = some r) : PureOk Try.prog 54 [.c (int xv), .c (int yv)] (.c (bool r)) := by
  unfold PureOk
  refine FnOk.enter (rs := [.t 4]) Try.func54 rfl Try.ntmps54 Try.results54 rfl ⟨trivial, trivial⟩ (by kernel_rfl) rfl ?_
  unfold cmp_Less_int at h
  refine AWP.seq ?_
  refine AWP.region ?_
  refine AOps.assign rfl rfl ?_
  refine AOps.nil ?_
  refine thn_normal ?_
  obtain ⟨t3, hx4, h⟩ := bind_some h
  refine AWP.seqJ (⟨[(4, .c (bool t3))], []⟩) ?_ ?_
  · obtain ⟨a6, ha6, hx4⟩ := bind_some hx4
    rcases Bool.eq_false_or_eq_true (a6) with hb5 | hb5
    · replace hx4 := iteBT hb5 hx4
      obtain ⟨a9, ha9, hx4⟩ := bind_some hx4
      rcases Bool.eq_false_or_eq_true (!a9) with hb6 | hb6
      · replace hx4 := iteBT hb6 hx4
        refine AWP.region ?_
        refine AOps.move rfl rfl ?_
        refine AOps.callR rfl rfl rfl rfl (cmp_isNaN_int_ok ha6) rfl ?_
        refine AOps.move rfl rfl ?_
        refine AOps.guardT rfl rfl rfl hb5 ?_; refine AOps.move rfl rfl ?_
        refine AOps.guardT rfl rfl rfl hb5 ?_; refine AOps.callR rfl rfl rfl rfl (cmp_isNaN_int_ok ha9) rfl ?_
        refine AOps.guardT rfl rfl rfl hb5 ?_; refine AOps.not rfl rfl ?_
        refine AOps.pickT rfl hb5 rfl rfl ?_
        refine AOps.move rfl rfl ?_
        refine AOps.guardF rfl rfl rfl hb6 ?_
        refine AOps.guardF rfl rfl rfl hb6 ?_
        refine AOps.guardF rfl rfl rfl hb6 ?_
        refine AOps.pickT rfl hb6 rfl rfl ?_
        refine AOps.assign rfl rfl ?_
        refine AOps.nil ?_
        have ej := Option.some.inj hx4
        subst ej
        refine thn_normal ?_
        exact Sub.env ⟨rfl, trivial⟩
      · replace hx4 := iteBF hb6 hx4
        refine AWP.region ?_
        refine AOps.move rfl rfl ?_
        refine AOps.callR rfl rfl rfl rfl (cmp_isNaN_int_ok ha6) rfl ?_
        refine AOps.move rfl rfl ?_
        refine AOps.guardT rfl rfl rfl hb5 ?_; refine AOps.move rfl rfl ?_
        refine AOps.guardT rfl rfl rfl hb5 ?_; refine AOps.callR rfl rfl rfl rfl (cmp_isNaN_int_ok ha9) rfl ?_
        refine AOps.guardT rfl rfl rfl hb5 ?_; refine AOps.not rfl rfl ?_
        refine AOps.pickT rfl hb5 rfl rfl ?_
        refine AOps.move rfl rfl ?_
        refine AOps.guardT rfl rfl rfl hb6 ?_; refine AOps.move rfl rfl ?_
        refine AOps.guardT rfl rfl rfl hb6 ?_; refine AOps.move rfl rfl ?_
        refine AOps.guardT rfl rfl rfl hb6 ?_; refine AOps.lss rfl rfl rfl ?_
        refine AOps.pickF rfl hb6 rfl rfl ?_
        refine AOps.assign rfl rfl ?_
        refine AOps.nil ?_
        have ej := Option.some.inj hx4
        subst ej
        refine thn_normal ?_
        exact Sub.env ⟨rfl, trivial⟩
    · replace hx4 := iteBF hb5 hx4
      refine AWP.region ?_
      refine AOps.move rfl rfl ?_
      refine AOps.callR rfl rfl rfl rfl (cmp_isNaN_int_ok ha6) rfl ?_
      refine AOps.move rfl rfl ?_
      refine AOps.guardF rfl rfl rfl hb5 ?_
      refine AOps.guardF rfl rfl rfl hb5 ?_
      refine AOps.guardF rfl rfl rfl hb5 ?_
      refine AOps.pickF rfl hb5 rfl rfl ?_
      refine AOps.move rfl rfl ?_
      refine AOps.guardT rfl rfl rfl rfl ?_; refine AOps.move rfl rfl ?_
      refine AOps.guardT rfl rfl rfl rfl ?_; refine AOps.move rfl rfl ?_
      refine AOps.guardT rfl rfl rfl rfl ?_; refine AOps.lss rfl rfl rfl ?_
      refine AOps.pickF rfl rfl rfl rfl ?_
      refine AOps.assign rfl rfl ?_
      refine AOps.nil ?_
      have ej := Option.some.inj hx4
      subst ej
      refine thn_normal ?_
      exact Sub.env ⟨rfl, trivial⟩
  · refine AWP.ret ?_
    have ej := Option.some.inj h
    subst ej
    exact Done.ret rfl rfl

theorem slices_isNaN_int_ok {xv : Int} {r : Bool} (h : slices_isNaN_int xv = some r) : PureOk Try.prog 55 [.c (int xv)] (.c (bool r)) := by
  unfold PureOk
  refine FnOk.enter (rs := [.t 2]) Try.func55 rfl Try.ntmps55 Try.results55 rfl ⟨trivial, trivial⟩ (by kernel_rfl) rfl ?_
  unfold slices_isNaN_int at h
  refine AWP.seq ?_
  refine AWP.region ?_
  refine AOps.assign rfl rfl ?_
  refine AOps.nil ?_
  refine thn_normal ?_
  refine AWP.seq ?_
  refine AWP.region ?_
  refine AOps.move rfl rfl ?_
  refine AOps.move rfl rfl ?_
  refine AOps.neq rfl rfl rfl ?_
  refine AOps.assign rfl rfl ?_
  refine AOps.nil ?_
  refine thn_normal ?_
  refine AWP.ret ?_
  have ej := Option.some.inj h
  subst ej
  exact Done.ret rfl rfl

theorem slices_BinarySearch_int_int_ok {xv : List Int} {target : Int} {r : Int × Bool} (h : slices_BinarySearch_int_int xv target = some r) : PureOk Try.prog 45 [.c (row 1 intI xv), .c (int target)] (.tup [.c (int r.1), .c (bool r.2)]) := by
  unfold PureOk
  refine FnOk.enter (rs := [.t 4, .t 5]) Try.func45 rfl Try.ntmps45 Try.results45 rfl ⟨trivial, trivial, trivial⟩ (by kernel_rfl) rfl ?_
  unfold slices_BinarySearch_int_int at h
  refine AWP.seq ?_
  refine AWP.region ?_
  refine AOps.assign rfl rfl ?_
  refine AOps.assign rfl rfl ?_
  refine AOps.nil ?_
  refine thn_normal ?_
  refine AWP.seq ?_
  refine AWP.region ?_
  refine AOps.move rfl rfl ?_
  refine S.len rfl rfl (fun hl11 => ?_)
  refine AOps.assign rfl rfl ?_
  refine AOps.nil ?_
  refine thn_normal ?_
  refine AWP.seq ?_
  refine AWP.region ?_
  refine AOps.move rfl rfl ?_
  refine AOps.assign rfl rfl ?_
  refine AOps.assign rfl rfl ?_
  refine AOps.nil ?_
  refine thn_normal ?_
  refine AWP.seq ?_
  refine AWP.block ?_
  obtain ⟨iv5, ho1, h⟩ := bind_some h
  refine AWP.loopS ho1 (fun (iv3, j4) => ⟨[(0, .c (row 1 intI xv)), (1, .c (int target)), (6, .c (int (xv.length : Int))), (7, .c (int iv3)), (8, .c (int j4))], []⟩) (fun iv5 e st => e = .exit 0 ∧ Sub [] st ⟨[(0, .c (row 1 intI xv)), (1, .c (int target)), (6, .c (int (xv.length : Int))), (7, .c (int iv5))], []⟩) ?_ ?_ ?_
  · try dsimp only
    exact Sub.env ⟨rfl, rfl, rfl, rfl, rfl, trivial⟩
  · intro s o h
    obtain ⟨iv3, j4⟩ := s
    unfold slices_BinarySearch_int_int_l1 at h
    try dsimp only at h ⊢
    refine AWP.seq ?_
    refine AWP.seq ?_
    refine AWP.region ?_
    refine AOps.move rfl rfl ?_
    refine AOps.move rfl rfl ?_
    refine AOps.lss rfl rfl rfl ?_
    refine AOps.nil ?_
    refine thn_normal ?_
    refine AWP.ite rfl h (fun hc6 h => ?_) (fun hc6 h => ?_)
    · refine AWP.skip ?_
      refine thn_normal ?_
      refine AWP.block ?_
      refine AWP.seq ?_
      refine AWP.region ?_
      refine AOps.move rfl rfl ?_
      refine AOps.move rfl rfl ?_
      refine S.add rfl rfl rfl ?_
      refine AOps.convInt rfl rfl ?_
      refine AOps.shr rfl rfl rfl (by decide) rfl ?_
      refine AOps.convInt rfl rfl ?_
      refine AOps.assign rfl rfl ?_
      refine AOps.nil ?_
      refine thn_normal ?_
      refine AWP.seq ?_
      obtain ⟨a24, ha24, h⟩ := bind_some h
      obtain ⟨a27, ha27, h⟩ := bind_some h
      refine AWP.region ?_
      refine AOps.move rfl rfl ?_
      refine AOps.move rfl rfl ?_
      refine S.idx ha24 rfl rfl rfl rfl ?_
      refine AOps.loadI rfl rfl rfl rfl ?_
      refine AOps.move rfl rfl ?_
      refine AOps.callR rfl rfl rfl rfl (cmp_Less_int_ok ha27) rfl ?_
      refine AOps.nil ?_
      refine thn_normal ?_
      refine AWP.iteB rfl h (fun hc7 h => ?_) (fun hc7 h => ?_)
      · refine AWP.region ?_
        refine AOps.move rfl rfl ?_
        refine S.add rfl rfl rfl ?_
        refine AOps.assign rfl rfl ?_
        refine AOps.nil ?_
        refine inB_normal ?_
        have ej := Option.some.inj h
        subst ej
        refine thn_normal ⟨_, rfl, ?_⟩
        exact Sub.env ⟨rfl, rfl, rfl, rfl, rfl, trivial⟩
      · refine AWP.region ?_
        refine AOps.move rfl rfl ?_
        refine AOps.assign rfl rfl ?_
        refine AOps.nil ?_
        refine inB_normal ?_
        have ej := Option.some.inj h
        subst ej
        refine thn_normal ⟨_, rfl, ?_⟩
        exact Sub.env ⟨rfl, rfl, rfl, rfl, rfl, trivial⟩
    · refine AWP.exit ?_
      refine thn_exit ?_
      have ej := Option.some.inj h
      subst ej
      refine thn_exit ⟨_, rfl, rfl, ?_⟩
      exact Sub.env ⟨rfl, rfl, rfl, rfl, trivial⟩
  · intro e s hq
    obtain ⟨rfl, hs⟩ := hq
    refine ⟨_, hs, ?_⟩
    refine inB_exit ?_
    refine thn_normal ?_
    obtain ⟨t8, hx9, h⟩ := bind_some h
    refine AWP.seqJ (⟨[(4, .c (int iv5)), (5, .c (bool t8))], []⟩) ?_ ?_
    · rcases Bool.eq_false_or_eq_true (decide (iv5 < (xv.length : Int))) with hb10 | hb10
      · replace hx9 := iteDT hb10 hx9
        obtain ⟨a38, ha38, hx9⟩ := bind_some hx9
        rcases Bool.eq_false_or_eq_true (decide (a38 = target)) with hb11 | hb11
        · replace hx9 := iteDT hb11 hx9
          refine AWP.region ?_
          refine AOps.move rfl rfl ?_
          refine AOps.move rfl rfl ?_
          refine AOps.move rfl rfl ?_
          refine AOps.lss rfl rfl rfl ?_
          refine AOps.move rfl rfl ?_
          refine AOps.guardT rfl rfl rfl hb10 ?_; refine AOps.move rfl rfl ?_
          refine AOps.guardT rfl rfl rfl hb10 ?_; refine AOps.move rfl rfl ?_
          refine AOps.guardT rfl rfl rfl hb10 ?_; refine S.idx ha38 rfl rfl rfl rfl ?_
          refine AOps.guardT rfl rfl rfl hb10 ?_; refine AOps.loadI rfl rfl rfl rfl ?_
          refine AOps.guardT rfl rfl rfl hb10 ?_; refine AOps.move rfl rfl ?_
          refine AOps.guardT rfl rfl rfl hb10 ?_; refine AOps.eql rfl rfl rfl ?_
          refine AOps.guardT rfl rfl rfl hb10 ?_; refine AOps.move rfl rfl ?_
          refine AOps.guardF rfl rfl rfl hb11 ?_
          refine AOps.guardF rfl rfl rfl hb11 ?_
          refine AOps.guardF rfl rfl rfl hb11 ?_
          refine AOps.guardF rfl rfl rfl hb11 ?_
          refine AOps.guardF rfl rfl rfl hb11 ?_
          refine AOps.guardF rfl rfl rfl hb11 ?_
          refine AOps.guardSkip rfl rfl rfl ?_
          refine AOps.guardSkip rfl rfl rfl ?_
          refine AOps.guardF rfl rfl rfl hb11 ?_
          refine AOps.guardT rfl rfl rfl hb10 ?_; refine AOps.pickT rfl hb11 rfl rfl ?_
          refine AOps.pickT rfl hb10 rfl rfl ?_
          refine AOps.assign rfl rfl ?_
          refine AOps.assign rfl rfl ?_
          refine AOps.nil ?_
          have ej := Option.some.inj hx9
          subst ej
          refine thn_normal ?_
          exact Sub.env ⟨rfl, rfl, trivial⟩
        · replace hx9 := iteDF hb11 hx9
          obtain ⟨a45, ha45, hx9⟩ := bind_some hx9
          obtain ⟨a47, ha47, hx9⟩ := bind_some hx9
          rcases Bool.eq_false_or_eq_true (a47) with hb12 | hb12
          · replace hx9 := iteBT hb12 hx9
            obtain ⟨a50, ha50, hx9⟩ := bind_some hx9
            refine AWP.region ?_
            refine AOps.move rfl rfl ?_
            refine AOps.move rfl rfl ?_
            refine AOps.move rfl rfl ?_
            refine AOps.lss rfl rfl rfl ?_
            refine AOps.move rfl rfl ?_
            refine AOps.guardT rfl rfl rfl hb10 ?_; refine AOps.move rfl rfl ?_
            refine AOps.guardT rfl rfl rfl hb10 ?_; refine AOps.move rfl rfl ?_
            refine AOps.guardT rfl rfl rfl hb10 ?_; refine S.idx ha38 rfl rfl rfl rfl ?_
            refine AOps.guardT rfl rfl rfl hb10 ?_; refine AOps.loadI rfl rfl rfl rfl ?_
            refine AOps.guardT rfl rfl rfl hb10 ?_; refine AOps.move rfl rfl ?_
            refine AOps.guardT rfl rfl rfl hb10 ?_; refine AOps.eql rfl rfl rfl ?_
            refine AOps.guardT rfl rfl rfl hb10 ?_; refine AOps.move rfl rfl ?_
            refine AOps.guardT rfl rfl rfl hb11 ?_; refine AOps.move rfl rfl ?_
            refine AOps.guardT rfl rfl rfl hb11 ?_; refine AOps.move rfl rfl ?_
            refine AOps.guardT rfl rfl rfl hb11 ?_; refine S.idx ha45 rfl rfl rfl rfl ?_
            refine AOps.guardT rfl rfl rfl hb11 ?_; refine AOps.loadI rfl rfl rfl rfl ?_
            refine AOps.guardT rfl rfl rfl hb11 ?_; refine AOps.callR rfl rfl rfl rfl (slices_isNaN_int_ok ha47) rfl ?_
            refine AOps.guardT rfl rfl rfl hb11 ?_; refine AOps.move rfl rfl ?_
            refine AOps.guardT rfl rfl rfl hb12 ?_; refine AOps.move rfl rfl ?_
            refine AOps.guardT rfl rfl rfl hb12 ?_; refine AOps.callR rfl rfl rfl rfl (slices_isNaN_int_ok ha50) rfl ?_
            refine AOps.guardT rfl rfl rfl hb11 ?_; refine AOps.pickT rfl hb12 rfl rfl ?_
            refine AOps.guardT rfl rfl rfl hb10 ?_; refine AOps.pickF rfl hb11 rfl rfl ?_
            refine AOps.pickT rfl hb10 rfl rfl ?_
            refine AOps.assign rfl rfl ?_
            refine AOps.assign rfl rfl ?_
            refine AOps.nil ?_
            have ej := Option.some.inj hx9
            subst ej
            refine thn_normal ?_
            exact Sub.env ⟨rfl, rfl, trivial⟩
          · replace hx9 := iteBF hb12 hx9
            refine AWP.region ?_
            refine AOps.move rfl rfl ?_
            refine AOps.move rfl rfl ?_
            refine AOps.move rfl rfl ?_
            refine AOps.lss rfl rfl rfl ?_
            refine AOps.move rfl rfl ?_
            refine AOps.guardT rfl rfl rfl hb10 ?_; refine AOps.move rfl rfl ?_
            refine AOps.guardT rfl rfl rfl hb10 ?_; refine AOps.move rfl rfl ?_
            refine AOps.guardT rfl rfl rfl hb10 ?_; refine S.idx ha38 rfl rfl rfl rfl ?_
            refine AOps.guardT rfl rfl rfl hb10 ?_; refine AOps.loadI rfl rfl rfl rfl ?_
            refine AOps.guardT rfl rfl rfl hb10 ?_; refine AOps.move rfl rfl ?_
            refine AOps.guardT rfl rfl rfl hb10 ?_; refine AOps.eql rfl rfl rfl ?_
            refine AOps.guardT rfl rfl rfl hb10 ?_; refine AOps.move rfl rfl ?_
            refine AOps.guardT rfl rfl rfl hb11 ?_; refine AOps.move rfl rfl ?_
            refine AOps.guardT rfl rfl rfl hb11 ?_; refine AOps.move rfl rfl ?_
            refine AOps.guardT rfl rfl rfl hb11 ?_; refine S.idx ha45 rfl rfl rfl rfl ?_
            refine AOps.guardT rfl rfl rfl hb11 ?_; refine AOps.loadI rfl rfl rfl rfl ?_
            refine AOps.guardT rfl rfl rfl hb11 ?_; refine AOps.callR rfl rfl rfl rfl (slices_isNaN_int_ok ha47) rfl ?_
            refine AOps.guardT rfl rfl rfl hb11 ?_; refine AOps.move rfl rfl ?_
            refine AOps.guardF rfl rfl rfl hb12 ?_
            refine AOps.guardF rfl rfl rfl hb12 ?_
            refine AOps.guardT rfl rfl rfl hb11 ?_; refine AOps.pickF rfl hb12 rfl rfl ?_
            refine AOps.guardT rfl rfl rfl hb10 ?_; refine AOps.pickF rfl hb11 rfl rfl ?_
            refine AOps.pickT rfl hb10 rfl rfl ?_
            refine AOps.assign rfl rfl ?_
            refine AOps.assign rfl rfl ?_
            refine AOps.nil ?_
            have ej := Option.some.inj hx9
            subst ej
            refine thn_normal ?_
            exact Sub.env ⟨rfl, rfl, trivial⟩
      · replace hx9 := iteDF hb10 hx9
        refine AWP.region ?_
        refine AOps.move rfl rfl ?_
        refine AOps.move rfl rfl ?_
        refine AOps.move rfl rfl ?_
        refine AOps.lss rfl rfl rfl ?_
        refine AOps.move rfl rfl ?_
        refine AOps.guardF rfl rfl rfl hb10 ?_
        refine AOps.guardF rfl rfl rfl hb10 ?_
        refine AOps.guardF rfl rfl rfl hb10 ?_
        refine AOps.guardF rfl rfl rfl hb10 ?_
        refine AOps.guardF rfl rfl rfl hb10 ?_
        refine AOps.guardF rfl rfl rfl hb10 ?_
        refine AOps.guardF rfl rfl rfl hb10 ?_
        refine AOps.guardSkip rfl rfl rfl ?_
        refine AOps.guardSkip rfl rfl rfl ?_
        refine AOps.guardSkip rfl rfl rfl ?_
        refine AOps.guardSkip rfl rfl rfl ?_
        refine AOps.guardSkip rfl rfl rfl ?_
        refine AOps.guardSkip rfl rfl rfl ?_
        refine AOps.guardSkip rfl rfl rfl ?_
        refine AOps.guardSkip rfl rfl rfl ?_
        refine AOps.guardSkip rfl rfl rfl ?_
        refine AOps.guardF rfl rfl rfl hb10 ?_
        refine AOps.pickF rfl hb10 rfl rfl ?_
        refine AOps.assign rfl rfl ?_
        refine AOps.assign rfl rfl ?_
        refine AOps.nil ?_
        have ej := Option.some.inj hx9
        subst ej
        refine thn_normal ?_
        exact Sub.env ⟨rfl, rfl, trivial⟩
    · refine AWP.ret ?_
      have ej := Option.some.inj h
      subst ej
      exact Done.ret rfl rfl

theorem strips_Meets_1_ok {xv : Int} {c2 : List Int} {r : Bool} (h : strips_Meets_1 xv c2 = some r) : PureOk Try.prog 53 [.c (int xv), .c (.imm (.ipt [.sl 1 (List.map intI c2)]))] (.c (bool r)) := by
  unfold PureOk
  refine FnOk.enter (rs := [.t 3]) Try.func53 rfl Try.ntmps53 Try.results53 rfl ⟨trivial, trivial⟩ (by kernel_rfl) rfl ?_
  unfold strips_Meets_1 at h
  refine AWP.seq ?_
  refine AWP.region ?_
  refine AOps.assign rfl rfl ?_
  refine AOps.nil ?_
  refine thn_normal ?_
  refine AWP.seq ?_
  obtain ⟨a9, ha9, h⟩ := bind_some h
  refine AWP.region ?_
  refine AOps.loadI rfl rfl rfl rfl ?_
  refine AOps.move rfl rfl ?_
  refine AOps.callR rfl rfl rfl rfl (slices_BinarySearch_int_int_ok ha9) rfl ?_
  refine AOps.move rfl rfl ?_
  refine AOps.extract rfl rfl rfl ?_
  refine AOps.extract rfl rfl rfl ?_
  refine AOps.assign rfl rfl ?_
  refine AOps.assign rfl rfl ?_
  refine AOps.nil ?_
  refine thn_normal ?_
  refine AWP.seq ?_
  refine AWP.region ?_
  refine AOps.move rfl rfl ?_
  refine AOps.assign rfl rfl ?_
  refine AOps.nil ?_
  refine thn_normal ?_
  refine AWP.ret ?_
  have ej := Option.some.inj h
  subst ej
  exact Done.ret rfl rfl

theorem slices_IndexFunc_int_int_ok {sv : List Int} {fv : Int → Option Bool} {r : Int} {fvfv : FuncId} {cvfv : List C} (hcvfv : C.okL 0 cvfv = true) (hfv : ∀ {y1 : Int} {z : Bool}, fv y1 = some z → PureOk Try.prog fvfv ([.c (int y1)] ++ cvfv.map T.c) (.c (bool z))) (h : slices_IndexFunc_int_int sv fv = some r) : PureOk Try.prog 61 [.c (row 1 intI sv), .c (.fn fvfv cvfv)] (.c (int r)) := by
  unfold PureOk
  refine FnOk.enter (rs := [.t 4]) Try.func61 rfl Try.ntmps61 Try.results61 rfl ⟨trivial, trivial⟩ (by kernel_rfl) rfl ?_
  unfold slices_IndexFunc_int_int at h
  refine AWP.seq ?_
  refine AWP.region ?_
  refine AOps.assign rfl rfl ?_
  refine AOps.nil ?_
  refine thn_normal ?_
  refine AWP.seq ?_
  refine AWP.seq ?_
  refine AWP.region ?_
  refine AOps.move rfl rfl ?_
  refine S.len rfl rfl (fun hl7 => ?_)
  refine AOps.move rfl rfl ?_
  refine AOps.nil ?_
  refine thn_normal ?_
  refine AWP.block ?_
  obtain ⟨oo, ho1, h⟩ := bind_some h
  refine AWP.rngS ho1 (fun t3 _ => ⟨[(0, .c (row 1 intI sv)), (1, .c (.fn fvfv cvfv)), (7, .c (int (sv.length : Int))), (8, .c (int t3))], []⟩) (fun o e st => match o with | .inl _ => e = .exit 0 ∧ Sub [] st ⟨[], []⟩ | .inr x => e = .ret ∧ Done [.t 4] (fun t _ => t = .c (int x)) .ret st) ?_ ?_ ?_ ?_
  · try dsimp only
    exact Sub.env ⟨rfl, rfl, rfl, rfl, trivial⟩
  · intro t3 s hlot3 hltt3 _
    try dsimp only
    refine AWP.seq ?_
    refine AWP.region ?_
    refine AOps.lss rfl rfl rfl ?_
    refine AOps.nil ?_
    refine thn_normal ?_
    refine AWP.seq ?_
    refine AWP.condNP rfl hltt3 ?_
    refine AWP.exit ?_
    refine thn_exit ?_
    refine thn_exit ⟨rfl, ?_⟩
    exact Sub.env trivial
  · intro t3 s o hlot3 hltt3 h
    unfold slices_IndexFunc_int_int_l1 at h
    try dsimp only at h ⊢
    refine AWP.seq ?_
    refine AWP.region ?_
    refine AOps.lss rfl rfl rfl ?_
    refine AOps.nil ?_
    refine thn_normal ?_
    refine AWP.seq ?_
    refine AWP.condP rfl hltt3 ?_
    refine AWP.skip ?_
    refine thn_normal ?_
    refine AWP.seq ?_
    refine AWP.block ?_
    refine AWP.seq ?_
    refine AWP.region ?_
    refine AOps.move rfl rfl ?_
    refine AOps.assign rfl rfl ?_
    refine AOps.nil ?_
    refine thn_normal ?_
    refine AWP.seq ?_
    obtain ⟨a14, ha14, h⟩ := bind_some h
    obtain ⟨a16, ha16, h⟩ := bind_some h
    refine AWP.region ?_
    refine AOps.move rfl rfl ?_
    refine AOps.move rfl rfl ?_
    refine AOps.move rfl rfl ?_
    refine S.idx ha14 rfl rfl rfl rfl ?_
    refine AOps.loadI rfl rfl rfl rfl ?_
    refine AOps.callR rfl rfl (okL_app rfl hcvfv) rfl (hfv ha16) rfl ?_
    refine AOps.nil ?_
    refine thn_normal ?_
    refine AWP.iteB rfl h (fun hc4 h => ?_) (fun hc4 h => ?_)
    · refine AWP.seq ?_
      refine AWP.region ?_
      refine AOps.move rfl rfl ?_
      refine AOps.assign rfl rfl ?_
      refine AOps.nil ?_
      refine thn_normal ?_
      refine AWP.ret ?_
      refine inB_ret ?_
      refine thn_ret ?_
      have ej := Option.some.inj h
      subst ej
      refine thn_ret ⟨_, rfl, rfl, ?_⟩
      exact Done.ret rfl rfl
    · refine AWP.skip ?_
      refine inB_normal ?_
      refine thn_normal ?_
      refine AWP.region ?_
      refine AOps.add rfl rfl rfl (by omega) ?_
      refine AOps.move rfl rfl ?_
      refine AOps.nil ?_
      have ej := Option.some.inj h
      subst ej
      refine thn_normal ⟨_, rfl, ?_⟩
      exact Sub.env ⟨rfl, rfl, rfl, rfl, trivial⟩
  · intro e s hq
    rcases oo with u | x
    · try dsimp only at h hq
      obtain ⟨rfl, hs⟩ := hq
      refine ⟨_, hs, ?_⟩
      refine inB_exit ?_
      refine thn_normal ?_
      refine AWP.seq ?_
      refine AWP.region ?_
      refine AOps.assign rfl rfl ?_
      refine AOps.nil ?_
      refine thn_normal ?_
      refine AWP.ret ?_
      have ej := Option.some.inj h
      subst ej
      exact Done.ret rfl rfl
    · try dsimp only at h hq
      obtain ⟨rfl, hs⟩ := hq
      refine ⟨_, Sub.refl _ _, ?_⟩
      refine inB_ret ?_
      refine thn_ret ?_
      have ej := Option.some.inj h
      subst ej
      exact hs

theorem slices_ContainsFunc_int_int_ok {sv : List Int} {fv : Int → Option Bool} {r : Bool} {fvfv : FuncId} {cvfv : List C} (hcvfv : C.okL 0 cvfv = true) (hfv : ∀ {y1 : Int} {z : Bool}, fv y1 = some z → PureOk Try.prog fvfv ([.c (int y1)] ++ cvfv.map T.c) (.c (bool z))) (h : slices_ContainsFunc_int_int sv fv = some r) : PureOk Try.prog 52 [.c (row 1 intI sv), .c (.fn fvfv cvfv)] (.c (bool r)) := by
  unfold PureOk
  refine FnOk.enter (rs := [.t 4]) Try.func52 rfl Try.ntmps52 Try.results52 rfl ⟨trivial, trivial⟩ (by kernel_rfl) rfl ?_
  unfold slices_ContainsFunc_int_int at h
  refine AWP.seq ?_
  refine AWP.region ?_
  refine AOps.assign rfl rfl ?_
  refine AOps.nil ?_
  refine thn_normal ?_
  refine AWP.seq ?_
  obtain ⟨a7, ha7, h⟩ := bind_some h
  refine AWP.region ?_
  refine AOps.move rfl rfl ?_
  refine AOps.move rfl rfl ?_
  refine AOps.callR rfl rfl (by simp [T.okL, T.ok, C.ok, C.okL, hcvfv]) rfl (slices_IndexFunc_int_int_ok hcvfv hfv ha7) rfl ?_
  refine AOps.geq rfl rfl rfl ?_
  refine AOps.assign rfl rfl ?_
  refine AOps.nil ?_
  refine thn_normal ?_
  refine AWP.ret ?_
  have ej := Option.some.inj h
  subst ej
  exact Done.ret rfl rfl

theorem strips_Meets_ok {av : List Int} {bv : List Int} {r : Bool} (h : strips_Meets av bv = some r) : PureOk Try.prog 43 [.c (row 1 intI av), .c (row 1 intI bv)] (.c (bool r)) := by
  unfold PureOk
  refine FnOk.enter (rs := [.t 4]) Try.func43 rfl Try.ntmps43 Try.results43 rfl ⟨trivial, trivial⟩ (by kernel_rfl) rfl ?_
  unfold strips_Meets at h
  refine AWP.seq ?_
  refine AWP.region ?_
  refine W.box rfl rfl rfl rfl rfl rfl ?_
  refine AOps.assign rfl rfl ?_
  refine AOps.nil ?_
  refine thn_normal ?_
  refine AWP.seq ?_
  obtain ⟨a7, ha7, h⟩ := bind_some h
  refine AWP.region ?_
  refine AOps.move rfl rfl ?_
  refine AOps.makeFunc rfl rfl ?_
  refine AOps.callL rfl rfl (.cons (.c .imm) (.cons (.c (.fn (.cons (.ptr (es := [.sl 1 (List.map intI bv)]) rfl rfl (.cons .imm .nil)) .nil))) .nil)) rfl (slices_ContainsFunc_int_int_ok rfl (fun hy => strips_Meets_1_ok hy) ha7) rfl ?_
  refine AOps.assign rfl rfl ?_
  refine AOps.nil ?_
  refine thn_normal ?_
  refine AWP.ret ?_
  have ej := Option.some.inj h
  subst ej
  exact Done.ret rfl rfl

theorem strips_operator_ok {ov : TOperator} {facts : Int} {r : Int} (h : strips_operator ov facts = some r) : PureOk Try.prog 51 [.agg [row 1 intI ov.pre, row 1 intI ov.add, row 1 intI ov.del, int ov.cost], .c (int facts)] (.c (int r)) := by
  unfold PureOk
  refine FnOk.enter (rs := [.t 4]) Try.func51 rfl Try.ntmps51 Try.results51 rfl ⟨trivial, trivial⟩ (by kernel_rfl) rfl ?_
  unfold strips_operator at h
  refine AWP.seq ?_
  refine AWP.region ?_
  refine W.box rfl rfl rfl rfl rfl rfl ?_
  refine AOps.assign rfl rfl ?_
  refine AOps.nil ?_
  refine thn_normal ?_
  refine AWP.seq ?_
  refine AWP.block ?_
  obtain ⟨t3, hx4, h⟩ := bind_some h
  refine AWP.seqJ (⟨[(2, .c (.ptr 0 0 0)), (5, .c (bool t3))], [.one (.cells 4 [[row 1 intI ov.pre, row 1 intI ov.add, row 1 intI ov.del, int ov.cost]])]⟩) ?_ ?_
  · obtain ⟨a9, ha9, hx4⟩ := bind_some hx4
    rcases Bool.eq_false_or_eq_true (!a9) with hb5 | hb5
    · replace hx4 := iteBT hb5 hx4
      refine AWP.region ?_
      refine W.fieldAddr rfl rfl rfl rfl ?_
      refine AOps.load rfl rfl rfl rfl rfl rfl ?_
      refine AOps.move rfl rfl ?_
      refine AOps.callR rfl rfl rfl rfl (strips_IsSet_ok ha9) rfl ?_
      refine AOps.not rfl rfl ?_
      refine AOps.move rfl rfl ?_
      refine AOps.guardF rfl rfl rfl hb5 ?_
      refine AOps.guardF rfl rfl rfl hb5 ?_
      refine AOps.guardF rfl rfl rfl hb5 ?_
      refine AOps.guardF rfl rfl rfl hb5 ?_
      refine AOps.guardF rfl rfl rfl hb5 ?_
      refine AOps.pickT rfl hb5 rfl rfl ?_
      refine AOps.move rfl rfl ?_
      refine AOps.guardF rfl rfl rfl rfl ?_
      refine AOps.guardF rfl rfl rfl rfl ?_
      refine AOps.guardF rfl rfl rfl rfl ?_
      refine AOps.guardF rfl rfl rfl rfl ?_
      refine AOps.guardF rfl rfl rfl rfl ?_
      refine AOps.pickT rfl rfl rfl rfl ?_
      refine AOps.move rfl rfl ?_
      refine AOps.guardF rfl rfl rfl rfl ?_
      refine AOps.guardF rfl rfl rfl rfl ?_
      refine AOps.guardF rfl rfl rfl rfl ?_
      refine AOps.guardF rfl rfl rfl rfl ?_
      refine AOps.guardF rfl rfl rfl rfl ?_
      refine AOps.pickT rfl rfl rfl rfl ?_
      refine AOps.assign rfl rfl ?_
      refine AOps.nil ?_
      have ej := Option.some.inj hx4
      subst ej
      refine thn_normal ?_
      exact Sub.env ⟨rfl, rfl, trivial⟩
    · replace hx4 := iteBF hb5 hx4
      obtain ⟨a15, ha15, hx4⟩ := bind_some hx4
      rcases Bool.eq_false_or_eq_true (!a15) with hb6 | hb6
      · replace hx4 := iteBT hb6 hx4
        refine AWP.region ?_
        refine W.fieldAddr rfl rfl rfl rfl ?_
        refine AOps.load rfl rfl rfl rfl rfl rfl ?_
        refine AOps.move rfl rfl ?_
        refine AOps.callR rfl rfl rfl rfl (strips_IsSet_ok ha9) rfl ?_
        refine AOps.not rfl rfl ?_
        refine AOps.move rfl rfl ?_
        refine AOps.guardT rfl rfl rfl hb5 ?_; refine W.fieldAddr rfl rfl rfl rfl ?_
        refine AOps.guardT rfl rfl rfl hb5 ?_; refine AOps.load rfl rfl rfl rfl rfl rfl ?_
        refine AOps.guardT rfl rfl rfl hb5 ?_; refine AOps.move rfl rfl ?_
        refine AOps.guardT rfl rfl rfl hb5 ?_; refine AOps.callR rfl rfl rfl rfl (strips_IsSet_ok ha15) rfl ?_
        refine AOps.guardT rfl rfl rfl hb5 ?_; refine AOps.not rfl rfl ?_
        refine AOps.pickF rfl hb5 rfl rfl ?_
        refine AOps.move rfl rfl ?_
        refine AOps.guardF rfl rfl rfl hb6 ?_
        refine AOps.guardF rfl rfl rfl hb6 ?_
        refine AOps.guardF rfl rfl rfl hb6 ?_
        refine AOps.guardF rfl rfl rfl hb6 ?_
        refine AOps.guardF rfl rfl rfl hb6 ?_
        refine AOps.pickT rfl hb6 rfl rfl ?_
        refine AOps.move rfl rfl ?_
        refine AOps.guardF rfl rfl rfl rfl ?_
        refine AOps.guardF rfl rfl rfl rfl ?_
        refine AOps.guardF rfl rfl rfl rfl ?_
        refine AOps.guardF rfl rfl rfl rfl ?_
        refine AOps.guardF rfl rfl rfl rfl ?_
        refine AOps.pickT rfl rfl rfl rfl ?_
        refine AOps.assign rfl rfl ?_
        refine AOps.nil ?_
        have ej := Option.some.inj hx4
        subst ej
        refine thn_normal ?_
        exact Sub.env ⟨rfl, rfl, trivial⟩
      · replace hx4 := iteBF hb6 hx4
        obtain ⟨a22, ha22, hx4⟩ := bind_some hx4
        rcases Bool.eq_false_or_eq_true (!a22) with hb7 | hb7
        · replace hx4 := iteBT hb7 hx4
          refine AWP.region ?_
          refine W.fieldAddr rfl rfl rfl rfl ?_
          refine AOps.load rfl rfl rfl rfl rfl rfl ?_
          refine AOps.move rfl rfl ?_
          refine AOps.callR rfl rfl rfl rfl (strips_IsSet_ok ha9) rfl ?_
          refine AOps.not rfl rfl ?_
          refine AOps.move rfl rfl ?_
          refine AOps.guardT rfl rfl rfl hb5 ?_; refine W.fieldAddr rfl rfl rfl rfl ?_
          refine AOps.guardT rfl rfl rfl hb5 ?_; refine AOps.load rfl rfl rfl rfl rfl rfl ?_
          refine AOps.guardT rfl rfl rfl hb5 ?_; refine AOps.move rfl rfl ?_
          refine AOps.guardT rfl rfl rfl hb5 ?_; refine AOps.callR rfl rfl rfl rfl (strips_IsSet_ok ha15) rfl ?_
          refine AOps.guardT rfl rfl rfl hb5 ?_; refine AOps.not rfl rfl ?_
          refine AOps.pickF rfl hb5 rfl rfl ?_
          refine AOps.move rfl rfl ?_
          refine AOps.guardT rfl rfl rfl hb6 ?_; refine W.fieldAddr rfl rfl rfl rfl ?_
          refine AOps.guardT rfl rfl rfl hb6 ?_; refine AOps.load rfl rfl rfl rfl rfl rfl ?_
          refine AOps.guardT rfl rfl rfl hb6 ?_; refine AOps.move rfl rfl ?_
          refine AOps.guardT rfl rfl rfl hb6 ?_; refine AOps.callR rfl rfl rfl rfl (strips_IsSet_ok ha22) rfl ?_
          refine AOps.guardT rfl rfl rfl hb6 ?_; refine AOps.not rfl rfl ?_
          refine AOps.pickF rfl hb6 rfl rfl ?_
          refine AOps.move rfl rfl ?_
          refine AOps.guardF rfl rfl rfl hb7 ?_
          refine AOps.guardF rfl rfl rfl hb7 ?_
          refine AOps.guardF rfl rfl rfl hb7 ?_
          refine AOps.guardF rfl rfl rfl hb7 ?_
          refine AOps.guardF rfl rfl rfl hb7 ?_
          refine AOps.pickT rfl hb7 rfl rfl ?_
          refine AOps.assign rfl rfl ?_
          refine AOps.nil ?_
          have ej := Option.some.inj hx4
          subst ej
          refine thn_normal ?_
          exact Sub.env ⟨rfl, rfl, trivial⟩
        · replace hx4 := iteBF hb7 hx4
          obtain ⟨a30, ha30, hx4⟩ := bind_some hx4
          refine AWP.region ?_
          refine W.fieldAddr rfl rfl rfl rfl ?_
          refine AOps.load rfl rfl rfl rfl rfl rfl ?_
          refine AOps.move rfl rfl ?_
          refine AOps.callR rfl rfl rfl rfl (strips_IsSet_ok ha9) rfl ?_
          refine AOps.not rfl rfl ?_
          refine AOps.move rfl rfl ?_
          refine AOps.guardT rfl rfl rfl hb5 ?_; refine W.fieldAddr rfl rfl rfl rfl ?_
          refine AOps.guardT rfl rfl rfl hb5 ?_; refine AOps.load rfl rfl rfl rfl rfl rfl ?_
          refine AOps.guardT rfl rfl rfl hb5 ?_; refine AOps.move rfl rfl ?_
          refine AOps.guardT rfl rfl rfl hb5 ?_; refine AOps.callR rfl rfl rfl rfl (strips_IsSet_ok ha15) rfl ?_
          refine AOps.guardT rfl rfl rfl hb5 ?_; refine AOps.not rfl rfl ?_
          refine AOps.pickF rfl hb5 rfl rfl ?_
          refine AOps.move rfl rfl ?_
          refine AOps.guardT rfl rfl rfl hb6 ?_; refine W.fieldAddr rfl rfl rfl rfl ?_
          refine AOps.guardT rfl rfl rfl hb6 ?_; refine AOps.load rfl rfl rfl rfl rfl rfl ?_
          refine AOps.guardT rfl rfl rfl hb6 ?_; refine AOps.move rfl rfl ?_
          refine AOps.guardT rfl rfl rfl hb6 ?_; refine AOps.callR rfl rfl rfl rfl (strips_IsSet_ok ha22) rfl ?_
          refine AOps.guardT rfl rfl rfl hb6 ?_; refine AOps.not rfl rfl ?_
          refine AOps.pickF rfl hb6 rfl rfl ?_
          refine AOps.move rfl rfl ?_
          refine AOps.guardT rfl rfl rfl hb7 ?_; refine W.fieldAddr rfl rfl rfl rfl ?_
          refine AOps.guardT rfl rfl rfl hb7 ?_; refine AOps.load rfl rfl rfl rfl rfl rfl ?_
          refine AOps.guardT rfl rfl rfl hb7 ?_; refine W.fieldAddr rfl rfl rfl rfl ?_
          refine AOps.guardT rfl rfl rfl hb7 ?_; refine AOps.load rfl rfl rfl rfl rfl rfl ?_
          refine AOps.guardT rfl rfl rfl hb7 ?_; refine AOps.callR rfl rfl rfl rfl (strips_Meets_ok ha30) rfl ?_
          refine AOps.pickF rfl hb7 rfl rfl ?_
          refine AOps.assign rfl rfl ?_
          refine AOps.nil ?_
          have ej := Option.some.inj hx4
          subst ej
          refine thn_normal ?_
          exact Sub.env ⟨rfl, rfl, trivial⟩
  · refine AWP.iteB rfl h (fun hc8 h => ?_) (fun hc8 h => ?_)
    · refine AWP.seq ?_
      refine AWP.region ?_
      refine AOps.assign rfl rfl ?_
      refine AOps.nil ?_
      refine thn_normal ?_
      refine AWP.ret ?_
      refine inB_ret ?_
      refine thn_ret ?_
      have ej := Option.some.inj h
      subst ej
      exact Done.ret rfl rfl
    · refine AWP.seqJ (⟨[(32, .c (bool ((decide (ov.cost < 0)) || (decide (100 < ov.cost)))))], [.one (.cells 4 [[row 1 intI ov.pre, row 1 intI ov.add, row 1 intI ov.del, int ov.cost]])]⟩) ?_ ?_
      · rcases Bool.eq_false_or_eq_true (decide (ov.cost < 0)) with hb1 | hb1
        · refine AWP.region ?_
          refine W.fieldAddr rfl rfl rfl rfl ?_
          refine AOps.load rfl rfl rfl rfl rfl rfl ?_
          refine AOps.lss rfl rfl rfl ?_
          refine AOps.move rfl rfl ?_
          refine AOps.guardF rfl rfl rfl hb1 ?_
          refine AOps.guardF rfl rfl rfl hb1 ?_
          refine AOps.guardF rfl rfl rfl hb1 ?_
          refine AOps.pickT rfl hb1 rfl rfl ?_
          refine AOps.assign rfl rfl ?_
          refine AOps.nil ?_
          refine thn_normal ?_
          simp only [and_t hb1, or_t hb1, Bool.false_or, Bool.true_or, Bool.false_and, Bool.true_and]
          exact Sub.env ⟨rfl, trivial⟩
        · refine AWP.region ?_
          refine W.fieldAddr rfl rfl rfl rfl ?_
          refine AOps.load rfl rfl rfl rfl rfl rfl ?_
          refine AOps.lss rfl rfl rfl ?_
          refine AOps.move rfl rfl ?_
          refine AOps.guardT rfl rfl rfl hb1 ?_; refine W.fieldAddr rfl rfl rfl rfl ?_
          refine AOps.guardT rfl rfl rfl hb1 ?_; refine AOps.load rfl rfl rfl rfl rfl rfl ?_
          refine AOps.guardT rfl rfl rfl hb1 ?_; refine AOps.gtr rfl rfl rfl ?_
          refine AOps.pickF rfl hb1 rfl rfl ?_
          refine AOps.assign rfl rfl ?_
          refine AOps.nil ?_
          refine thn_normal ?_
          simp only [and_f hb1, or_f hb1, Bool.false_or, Bool.true_or, Bool.false_and, Bool.true_and]
          exact Sub.env ⟨rfl, trivial⟩
      · refine AWP.iteB rfl h (fun hc9 h => ?_) (fun hc9 h => ?_)
        · refine AWP.seq ?_
          refine AWP.region ?_
          refine AOps.assign rfl rfl ?_
          refine AOps.nil ?_
          refine thn_normal ?_
          refine AWP.ret ?_
          refine inB_ret ?_
          refine thn_ret ?_
          have ej := Option.some.inj h
          subst ej
          exact Done.ret rfl rfl
        · refine AWP.skip ?_
          refine inB_normal ?_
          refine thn_normal ?_
          refine AWP.seq ?_
          refine AWP.region ?_
          refine AOps.assign rfl rfl ?_
          refine AOps.nil ?_
          refine thn_normal ?_
          refine AWP.ret ?_
          have ej := Option.some.inj h
          subst ej
          exact Done.ret rfl rfl

theorem strips_Validate_ok {t : TTask} {r : TFault} (h : strips_Validate t = some r) : PureOk Try.prog 40 [.agg [int t.facts, row 1 intI t.init, row 1 intI t.goal, row 4 eTOperator t.operators]] (.agg [int r.code, int r.index]) := by
  unfold PureOk
  refine FnOk.enter (rs := [.cell 2 29 2]) Try.func40 rfl Try.ntmps40 Try.results40 rfl ⟨rv _ rfl, trivial⟩ (by kernel_rfl) rfl ?_
  unfold strips_Validate at h
  refine AWP.seq ?_
  refine AWP.region ?_
  refine W.box rfl rfl rfl rfl rfl rfl ?_
  refine W.alloc rfl rfl rfl rfl ?_
  refine AOps.nil ?_
  refine thn_normal ?_
  refine AWP.seq ?_
  refine AWP.block ?_
  refine AWP.seqJ (⟨[(1, .c (.ptr 0 0 0)), (2, .c (.ptr 1 0 0)), (6, .c (bool ((decide (t.facts < 0)) || (decide (24 < t.facts)))))], [.one (.cells 4 [[int t.facts, row 1 intI t.init, row 1 intI t.goal, row 4 eTOperator t.operators]]), .one (.cells 2 [[int 0, int 0]])]⟩) ?_ ?_
  · rcases Bool.eq_false_or_eq_true (decide (t.facts < 0)) with hb1 | hb1
    · refine AWP.region ?_
      refine W.fieldAddr rfl rfl rfl rfl ?_
      refine AOps.load rfl rfl rfl rfl rfl rfl ?_
      refine AOps.lss rfl rfl rfl ?_
      refine AOps.move rfl rfl ?_
      refine AOps.guardF rfl rfl rfl hb1 ?_
      refine AOps.guardF rfl rfl rfl hb1 ?_
      refine AOps.guardF rfl rfl rfl hb1 ?_
      refine AOps.pickT rfl hb1 rfl rfl ?_
      refine AOps.assign rfl rfl ?_
      refine AOps.nil ?_
      refine thn_normal ?_
      simp only [and_t hb1, or_t hb1, Bool.false_or, Bool.true_or, Bool.false_and, Bool.true_and]
      exact Sub.env ⟨rfl, rfl, rfl, trivial⟩
    · refine AWP.region ?_
      refine W.fieldAddr rfl rfl rfl rfl ?_
      refine AOps.load rfl rfl rfl rfl rfl rfl ?_
      refine AOps.lss rfl rfl rfl ?_
      refine AOps.move rfl rfl ?_
      refine AOps.guardT rfl rfl rfl hb1 ?_; refine W.fieldAddr rfl rfl rfl rfl ?_
      refine AOps.guardT rfl rfl rfl hb1 ?_; refine AOps.load rfl rfl rfl rfl rfl rfl ?_
      refine AOps.guardT rfl rfl rfl hb1 ?_; refine AOps.gtr rfl rfl rfl ?_
      refine AOps.pickF rfl hb1 rfl rfl ?_
      refine AOps.assign rfl rfl ?_
      refine AOps.nil ?_
      refine thn_normal ?_
      simp only [and_f hb1, or_f hb1, Bool.false_or, Bool.true_or, Bool.false_and, Bool.true_and]
      exact Sub.env ⟨rfl, rfl, rfl, trivial⟩
  · refine AWP.iteB rfl h (fun hc2 h => ?_) (fun hc2 h => ?_)
    · refine AWP.seq ?_
      refine AWP.region ?_
      refine W.build rfl rfl rfl rfl ?_
      refine W.storeAgg rfl rfl rfl rfl rfl rfl rfl ?_
      refine AOps.nil ?_
      refine thn_normal ?_
      refine AWP.ret ?_
      refine inB_ret ?_
      refine thn_ret ?_
      have ej := Option.some.inj h
      subst ej
      exact Done.ret rfl rfl
    · refine AWP.seq ?_
      obtain ⟨a21, ha21, h⟩ := bind_some h
      refine AWP.region ?_
      refine W.fieldAddr rfl rfl rfl rfl ?_
      refine AOps.load rfl rfl rfl rfl rfl rfl ?_
      refine W.fieldAddr rfl rfl rfl rfl ?_
      refine AOps.load rfl rfl rfl rfl rfl rfl ?_
      refine AOps.callR rfl rfl rfl rfl (strips_IsSet_ok ha21) rfl ?_
      refine AOps.not rfl rfl ?_
      refine AOps.assign rfl rfl ?_
      refine AOps.nil ?_
      refine thn_normal ?_
      refine AWP.iteB rfl h (fun hc3 h => ?_) (fun hc3 h => ?_)
      · refine AWP.seq ?_
        refine AWP.region ?_
        refine W.build rfl rfl rfl rfl ?_
        refine W.storeAgg rfl rfl rfl rfl rfl rfl rfl ?_
        refine AOps.nil ?_
        refine thn_normal ?_
        refine AWP.ret ?_
        refine inB_ret ?_
        refine thn_ret ?_
        have ej := Option.some.inj h
        subst ej
        exact Done.ret rfl rfl
      · refine AWP.seq ?_
        obtain ⟨a29, ha29, h⟩ := bind_some h
        refine AWP.region ?_
        refine W.fieldAddr rfl rfl rfl rfl ?_
        refine AOps.load rfl rfl rfl rfl rfl rfl ?_
        refine W.fieldAddr rfl rfl rfl rfl ?_
        refine AOps.load rfl rfl rfl rfl rfl rfl ?_
        refine AOps.callR rfl rfl rfl rfl (strips_IsSet_ok ha29) rfl ?_
        refine AOps.not rfl rfl ?_
        refine AOps.assign rfl rfl ?_
        refine AOps.nil ?_
        refine thn_normal ?_
        refine AWP.iteB rfl h (fun hc4 h => ?_) (fun hc4 h => ?_)
        · refine AWP.seq ?_
          refine AWP.region ?_
          refine W.build rfl rfl rfl rfl ?_
          refine W.storeAgg rfl rfl rfl rfl rfl rfl rfl ?_
          refine AOps.nil ?_
          refine thn_normal ?_
          refine AWP.ret ?_
          refine inB_ret ?_
          refine thn_ret ?_
          have ej := Option.some.inj h
          subst ej
          exact Done.ret rfl rfl
        · refine AWP.seq ?_
          refine AWP.region ?_
          refine W.fieldAddr rfl rfl rfl rfl ?_
          refine AOps.load rfl rfl rfl rfl rfl rfl ?_
          refine S.len rfl rfl (fun hl35 => ?_)
          refine AOps.gtr rfl rfl rfl ?_
          refine AOps.assign rfl rfl ?_
          refine AOps.nil ?_
          refine thn_normal ?_
          refine AWP.ite rfl h (fun hc5 h => ?_) (fun hc5 h => ?_)
          · refine AWP.seq ?_
            refine AWP.region ?_
            refine W.build rfl rfl rfl rfl ?_
            refine W.storeAgg rfl rfl rfl rfl rfl rfl rfl ?_
            refine AOps.nil ?_
            refine thn_normal ?_
            refine AWP.ret ?_
            refine inB_ret ?_
            refine thn_ret ?_
            have ej := Option.some.inj h
            subst ej
            exact Done.ret rfl rfl
          · refine AWP.skip ?_
            refine inB_normal ?_
            refine thn_normal ?_
            refine AWP.seq ?_
            refine AWP.seq ?_
            refine AWP.region ?_
            refine W.fieldAddr rfl rfl rfl rfl ?_
            refine AOps.load rfl rfl rfl rfl rfl rfl ?_
            refine S.len rfl rfl (fun hl40 => ?_)
            refine AOps.move rfl rfl ?_
            refine AOps.nil ?_
            refine thn_normal ?_
            refine AWP.block ?_
            obtain ⟨oo, ho1, h⟩ := bind_some h
            refine AWP.rngS ho1 (fun t6 _ => ⟨[(1, .c (.ptr 0 0 0)), (2, .c (.ptr 1 0 0)), (39, .c (row 4 eTOperator t.operators)), (40, .c (int (t.operators.length : Int))), (41, .c (int t6))], [.one (.cells 4 [[int t.facts, row 1 intI t.init, row 1 intI t.goal, row 4 eTOperator t.operators]]), .one (.cells 2 [[int 0, int 0]])]⟩) (fun o e st => match o with | .inl _ => e = .exit 1 ∧ Sub [] st ⟨[(2, .c (.ptr 1 0 0))], [.one (.cells 4 [[int t.facts, row 1 intI t.init, row 1 intI t.goal, row 4 eTOperator t.operators]]), .one (.cells 2 [[int 0, int 0]])]⟩ | .inr x => e = .ret ∧ Done [.cell 2 29 2] (fun t _ => t = .agg [int x.code, int x.index]) .ret st) ?_ ?_ ?_ ?_
            · try dsimp only
              exact Sub.env ⟨rfl, rfl, rfl, rfl, rfl, trivial⟩
            · intro t6 s hlot6 hltt6 _
              try dsimp only
              refine AWP.seq ?_
              refine AWP.region ?_
              refine AOps.lss rfl rfl rfl ?_
              refine AOps.nil ?_
              refine thn_normal ?_
              refine AWP.seq ?_
              refine AWP.condNP rfl hltt6 ?_
              refine AWP.exit ?_
              refine thn_exit ?_
              refine thn_exit ⟨rfl, ?_⟩
              exact Sub.env ⟨rfl, trivial⟩
            · intro t6 s o hlot6 hltt6 h
              unfold strips_Validate_l1 at h
              try dsimp only at h ⊢
              refine AWP.seq ?_
              refine AWP.region ?_
              refine AOps.lss rfl rfl rfl ?_
              refine AOps.nil ?_
              refine thn_normal ?_
              refine AWP.seq ?_
              refine AWP.condP rfl hltt6 ?_
              refine AWP.skip ?_
              refine thn_normal ?_
              refine AWP.seq ?_
              refine AWP.block ?_
              refine AWP.seq ?_
              obtain ⟨a44, ha44, h⟩ := bind_some h
              refine AWP.region ?_
              refine AOps.move rfl rfl ?_
              refine S.idx ha44 rfl rfl rfl rfl ?_
              refine W.loadIAgg rfl rfl rfl rfl rfl ?_
              refine W.alloc rfl rfl rfl rfl ?_
              refine AOps.assign rfl rfl ?_
              refine W.storeAgg rfl rfl rfl rfl rfl rfl rfl ?_
              refine AOps.nil ?_
              refine thn_normal ?_
              refine AWP.seq ?_
              obtain ⟨a49, ha49, h⟩ := bind_some h
              refine AWP.region ?_
              refine W.loadAgg rfl rfl rfl rfl rfl rfl rfl ?_
              refine W.fieldAddr rfl rfl rfl rfl ?_
              refine AOps.load rfl rfl rfl rfl rfl rfl ?_
              refine AOps.callR rfl rfl rfl rfl (strips_operator_ok ha49) rfl ?_
              refine AOps.assign rfl rfl ?_
              refine AOps.nil ?_
              refine thn_normal ?_
              refine AWP.seq ?_
              refine AWP.region ?_
              refine AOps.move rfl rfl ?_
              refine AOps.neq rfl rfl rfl ?_
              refine AOps.nil ?_
              refine thn_normal ?_
              refine AWP.iteN rfl h (fun hc7 h => ?_) (fun hc7 h => ?_)
              · refine AWP.seq ?_
                refine AWP.region ?_
                refine AOps.move rfl rfl ?_
                refine AOps.move rfl rfl ?_
                refine W.build rfl rfl rfl rfl ?_
                refine W.storeAgg rfl rfl rfl rfl rfl rfl rfl ?_
                refine AOps.nil ?_
                refine thn_normal ?_
                refine AWP.ret ?_
                refine inB_ret ?_
                refine thn_ret ?_
                have ej := Option.some.inj h
                subst ej
                refine thn_ret ⟨_, rfl, rfl, ?_⟩
                exact Done.ret rfl rfl
              · refine AWP.skip ?_
                refine inB_normal ?_
                refine thn_normal ?_
                refine AWP.region ?_
                refine AOps.add rfl rfl rfl (by omega) ?_
                refine AOps.move rfl rfl ?_
                refine AOps.nil ?_
                have ej := Option.some.inj h
                subst ej
                refine thn_normal ⟨_, rfl, ?_⟩
                exact Sub.cut ⟨rfl, rfl, rfl, rfl, rfl, trivial⟩ rfl ⟨.one rfl, .one rfl, trivial⟩ rfl
            · intro e s hq
              rcases oo with u | x
              · try dsimp only at h hq
                obtain ⟨rfl, hs⟩ := hq
                refine ⟨_, hs, ?_⟩
                refine inB_exit ?_
                refine thn_normal ?_
                refine AWP.seq ?_
                refine AWP.region ?_
                refine W.build rfl rfl rfl rfl ?_
                refine W.storeAgg rfl rfl rfl rfl rfl rfl rfl ?_
                refine AOps.nil ?_
                refine thn_normal ?_
                refine AWP.ret ?_
                have ej := Option.some.inj h
                subst ej
                exact Done.ret rfl rfl
              · try dsimp only at h hq
                obtain ⟨rfl, hs⟩ := hq
                refine ⟨_, Sub.refl _ _, ?_⟩
                refine inB_ret ?_
                refine thn_ret ?_
                have ej := Option.some.inj h
                subst ej
                exact hs

theorem strips_Steps_ok {operators : Int} {plan : List Int} {r : TFault} (h : strips_Steps operators plan = some r) : PureOk Try.prog 41 [.c (int operators), .c (row 1 intI plan)] (.agg [int r.code, int r.index]) := by
  unfold PureOk
  refine FnOk.enter (rs := [.cell 4 29 2]) Try.func41 rfl Try.ntmps41 Try.results41 rfl ⟨rv _ rfl, trivial⟩ (by kernel_rfl) rfl ?_
  unfold strips_Steps at h
  refine AWP.seq ?_
  refine AWP.region ?_
  refine W.alloc rfl rfl rfl rfl ?_
  refine AOps.nil ?_
  refine thn_normal ?_
  refine AWP.seq ?_
  refine AWP.seq ?_
  refine AWP.region ?_
  refine AOps.move rfl rfl ?_
  refine S.len rfl rfl (fun hl8 => ?_)
  refine AOps.gtr rfl rfl rfl ?_
  refine AOps.nil ?_
  refine thn_normal ?_
  refine AWP.ite rfl h (fun hc3 h => ?_) (fun hc3 h => ?_)
  · refine AWP.seq ?_
    refine AWP.region ?_
    refine W.build rfl rfl rfl rfl ?_
    refine W.storeAgg rfl rfl rfl rfl rfl rfl rfl ?_
    refine AOps.nil ?_
    refine thn_normal ?_
    refine AWP.ret ?_
    refine thn_ret ?_
    have ej := Option.some.inj h
    subst ej
    exact Done.ret rfl rfl
  · refine AWP.skip ?_
    refine thn_normal ?_
    refine AWP.seq ?_
    refine AWP.seq ?_
    refine AWP.region ?_
    refine AOps.move rfl rfl ?_
    refine S.len rfl rfl (fun hl12 => ?_)
    refine AOps.move rfl rfl ?_
    refine AOps.nil ?_
    refine thn_normal ?_
    refine AWP.block ?_
    obtain ⟨oo, ho1, h⟩ := bind_some h
    refine AWP.rngS ho1 (fun t4 _ => ⟨[(0, .c (int operators)), (4, .c (.ptr 0 0 0)), (11, .c (row 1 intI plan)), (12, .c (int (plan.length : Int))), (13, .c (int t4))], [.one (.cells 2 [[int 0, int 0]])]⟩) (fun o e st => match o with | .inl _ => e = .exit 0 ∧ Sub [] st ⟨[(4, .c (.ptr 0 0 0))], [.one (.cells 2 [[int 0, int 0]])]⟩ | .inr x => e = .ret ∧ Done [.cell 4 29 2] (fun t _ => t = .agg [int x.code, int x.index]) .ret st) ?_ ?_ ?_ ?_
    · try dsimp only
      exact Sub.env ⟨rfl, rfl, rfl, rfl, rfl, trivial⟩
    · intro t4 s hlot4 hltt4 _
      try dsimp only
      refine AWP.seq ?_
      refine AWP.region ?_
      refine AOps.lss rfl rfl rfl ?_
      refine AOps.nil ?_
      refine thn_normal ?_
      refine AWP.seq ?_
      refine AWP.condNP rfl hltt4 ?_
      refine AWP.exit ?_
      refine thn_exit ?_
      refine thn_exit ⟨rfl, ?_⟩
      exact Sub.env ⟨rfl, trivial⟩
    · intro t4 s o hlot4 hltt4 h
      unfold strips_Steps_l1 at h
      try dsimp only at h ⊢
      refine AWP.seq ?_
      refine AWP.region ?_
      refine AOps.lss rfl rfl rfl ?_
      refine AOps.nil ?_
      refine thn_normal ?_
      refine AWP.seq ?_
      refine AWP.condP rfl hltt4 ?_
      refine AWP.skip ?_
      refine thn_normal ?_
      refine AWP.seq ?_
      refine AWP.block ?_
      refine AWP.seq ?_
      obtain ⟨a15, ha15, h⟩ := bind_some h
      refine AWP.region ?_
      refine S.idx ha15 rfl rfl rfl rfl ?_
      refine AOps.loadI rfl rfl rfl rfl ?_
      refine AOps.assign rfl rfl ?_
      refine AOps.nil ?_
      refine thn_normal ?_
      refine AWP.seqJ (⟨[(0, .c (int operators)), (4, .c (.ptr 0 0 0)), (11, .c (row 1 intI plan)), (12, .c (int (plan.length : Int))), (13, .c (int t4)), (23, .c (bool ((decide (a15 < 0)) || (decide (operators ≤ a15)))))], [.one (.cells 2 [[int 0, int 0]])]⟩) ?_ ?_
      · rcases Bool.eq_false_or_eq_true (decide (a15 < 0)) with hb1 | hb1
        · refine AWP.region ?_
          refine AOps.move rfl rfl ?_
          refine AOps.lss rfl rfl rfl ?_
          refine AOps.move rfl rfl ?_
          refine AOps.guardF rfl rfl rfl hb1 ?_
          refine AOps.guardF rfl rfl rfl hb1 ?_
          refine AOps.guardF rfl rfl rfl hb1 ?_
          refine AOps.pickT rfl hb1 rfl rfl ?_
          refine AOps.nil ?_
          refine thn_normal ?_
          simp only [and_t hb1, or_t hb1, Bool.false_or, Bool.true_or, Bool.false_and, Bool.true_and]
          exact Sub.env ⟨rfl, rfl, rfl, rfl, rfl, rfl, trivial⟩
        · refine AWP.region ?_
          refine AOps.move rfl rfl ?_
          refine AOps.lss rfl rfl rfl ?_
          refine AOps.move rfl rfl ?_
          refine AOps.guardT rfl rfl rfl hb1 ?_; refine AOps.move rfl rfl ?_
          refine AOps.guardT rfl rfl rfl hb1 ?_; refine AOps.move rfl rfl ?_
          refine AOps.guardT rfl rfl rfl hb1 ?_; refine AOps.geq rfl rfl rfl ?_
          refine AOps.pickF rfl hb1 rfl rfl ?_
          refine AOps.nil ?_
          refine thn_normal ?_
          simp only [and_f hb1, or_f hb1, Bool.false_or, Bool.true_or, Bool.false_and, Bool.true_and]
          exact Sub.env ⟨rfl, rfl, rfl, rfl, rfl, rfl, trivial⟩
      · refine AWP.iteB rfl h (fun hc5 h => ?_) (fun hc5 h => ?_)
        · refine AWP.seq ?_
          refine AWP.region ?_
          refine W.build rfl rfl rfl rfl ?_
          refine W.storeAgg rfl rfl rfl rfl rfl rfl rfl ?_
          refine AOps.nil ?_
          refine thn_normal ?_
          refine AWP.ret ?_
          refine inB_ret ?_
          refine thn_ret ?_
          have ej := Option.some.inj h
          subst ej
          refine thn_ret ⟨_, rfl, rfl, ?_⟩
          exact Done.ret rfl rfl
        · refine AWP.skip ?_
          refine inB_normal ?_
          refine thn_normal ?_
          refine AWP.region ?_
          refine AOps.add rfl rfl rfl (by omega) ?_
          refine AOps.move rfl rfl ?_
          refine AOps.nil ?_
          have ej := Option.some.inj h
          subst ej
          refine thn_normal ⟨_, rfl, ?_⟩
          exact Sub.env ⟨rfl, rfl, rfl, rfl, rfl, trivial⟩
    · intro e s hq
      rcases oo with u | x
      · try dsimp only at h hq
        obtain ⟨rfl, hs⟩ := hq
        refine ⟨_, hs, ?_⟩
        refine inB_exit ?_
        refine thn_normal ?_
        refine AWP.seq ?_
        refine AWP.region ?_
        refine W.build rfl rfl rfl rfl ?_
        refine W.storeAgg rfl rfl rfl rfl rfl rfl rfl ?_
        refine AOps.nil ?_
        refine thn_normal ?_
        refine AWP.ret ?_
        have ej := Option.some.inj h
        subst ej
        exact Done.ret rfl rfl
      · try dsimp only at h hq
        obtain ⟨rfl, hs⟩ := hq
        refine ⟨_, Sub.refl _ _, ?_⟩
        refine inB_ret ?_
        refine thn_ret ?_
        have ej := Option.some.inj h
        subst ej
        exact hs

theorem strips_PlanFault_ok {t : TTask} {plan : List Int} {r : TFault} (h : strips_PlanFault t plan = some r) : PureOk Try.prog 24 [.agg [int t.facts, row 1 intI t.init, row 1 intI t.goal, row 4 eTOperator t.operators], .c (row 1 intI plan)] (.agg [int r.code, int r.index]) := by
  unfold PureOk
  refine FnOk.enter (rs := [.cell 4 29 2]) Try.func24 rfl Try.ntmps24 Try.results24 rfl ⟨rv _ rfl, trivial⟩ (by kernel_rfl) rfl ?_
  unfold strips_PlanFault at h
  refine AWP.seq ?_
  refine AWP.region ?_
  refine W.box rfl rfl rfl rfl rfl rfl ?_
  refine W.alloc rfl rfl rfl rfl ?_
  refine AOps.nil ?_
  refine thn_normal ?_
  refine AWP.seq ?_
  refine AWP.seq ?_
  obtain ⟨a7, ha7, h⟩ := bind_some h
  refine AWP.region ?_
  refine W.loadAgg rfl rfl rfl rfl rfl rfl rfl ?_
  refine AOps.callR rfl rfl rfl rfl (strips_Validate_ok ha7) rfl ?_
  refine W.alloc rfl rfl rfl rfl ?_
  refine W.storeAgg rfl rfl rfl rfl rfl rfl rfl ?_
  refine AOps.nil ?_
  refine thn_normal ?_
  refine AWP.seq ?_
  refine AWP.region ?_
  refine W.loadAgg rfl rfl rfl rfl rfl rfl rfl ?_
  refine W.build rfl rfl rfl rfl ?_
  refine AOps.neqP rfl rfl rfl rfl rfl rfl rfl ?_
  refine AOps.nil ?_
  refine thn_normal ?_
  refine AWP.iteB rfl h (fun hc3 h => ?_) (fun hc3 h => ?_)
  · refine AWP.seq ?_
    refine AWP.region ?_
    refine W.loadAgg rfl rfl rfl rfl rfl rfl rfl ?_
    refine W.storeAgg rfl rfl rfl rfl rfl rfl rfl ?_
    refine AOps.nil ?_
    refine thn_normal ?_
    refine AWP.ret ?_
    refine thn_ret ?_
    have ej := Option.some.inj h
    subst ej
    exact Done.ret rfl rfl
  · refine AWP.skip ?_
    refine thn_normal ?_
    refine AWP.seq ?_
    obtain ⟨a16, ha16, h⟩ := bind_some h
    refine AWP.region ?_
    refine W.fieldAddr rfl rfl rfl rfl ?_
    refine AOps.load rfl rfl rfl rfl rfl rfl ?_
    refine S.len rfl rfl (fun hl14 => ?_)
    refine AOps.move rfl rfl ?_
    refine AOps.callR rfl rfl rfl rfl (strips_Steps_ok ha16) rfl ?_
    refine W.storeAgg rfl rfl rfl rfl rfl rfl rfl ?_
    refine AOps.nil ?_
    refine thn_normal ?_
    refine AWP.ret ?_
    have ej := Option.some.inj h
    subst ej
    exact Done.ret rfl rfl

theorem strips_Update_ok {sv : List Int} {add : List Int} {del : List Int} {r : (List Int)} (h : strips_Update sv add del = some r) : FreshOk Try.prog 32 [.c (row 1 intI sv), .c (row 1 intI add), .c (row 1 intI del)] 1 (List.map intI r) := by
  unfold FreshOk
  refine FnOk.enter (rs := [.t 6]) Try.func32 rfl Try.ntmps32 Try.results32 rfl ⟨trivial, trivial⟩ (by kernel_rfl) rfl ?_
  unfold strips_Update at h
  refine AWP.seq ?_
  refine AWP.region ?_
  refine AOps.assign rfl rfl ?_
  refine AOps.nil ?_
  refine thn_normal ?_
  refine AWP.seq ?_
  refine AWP.region ?_
  refine AOps.assign rfl rfl ?_
  refine AOps.nil ?_
  refine thn_normal ?_
  refine AWP.seq ?_
  refine AWP.seq ?_
  refine AWP.region ?_
  refine AOps.move rfl rfl ?_
  refine S.len rfl rfl (fun hl13 => ?_)
  refine AOps.move rfl rfl ?_
  refine AOps.nil ?_
  refine thn_normal ?_
  refine AWP.block ?_
  refine AWP.virtV 1 intI 7 rfl rfl rfl ?_
  obtain ⟨c4, ho1, h⟩ := bind_some h
  refine AWP.forS ho1 (fun t5 c4 => ⟨[(1, .c (row 1 intI add)), (2, .c (row 1 intI del)), (7, .c (.own 0 0 c4.length)), (12, .c (row 1 intI sv)), (13, .c (int (sv.length : Int))), (14, .c (int t5))], [.one (vec 1 intI c4)]⟩) (fun c4 e st => e = .exit 0 ∧ Sub [] st ⟨[(1, .c (row 1 intI add)), (7, .c (.own 0 0 c4.length))], [.one (vec 1 intI c4)]⟩) ?_ ?_ ?_ ?_
  · try dsimp only
    exact Sub.env ⟨rfl, rfl, (own_len (by first | rfl | simp only [List.length_set])), rfl, rfl, rfl, trivial⟩
  · intro t5 c4 hlot5 hltt5 _
    try dsimp only
    refine AWP.seq ?_
    refine AWP.region ?_
    refine AOps.lss rfl rfl rfl ?_
    refine AOps.nil ?_
    refine thn_normal ?_
    refine AWP.seq ?_
    refine AWP.condNP rfl hltt5 ?_
    refine AWP.exit ?_
    refine thn_exit ?_
    refine thn_exit ⟨rfl, ?_⟩
    exact Sub.env ⟨rfl, rfl, trivial⟩
  · intro t5 c4 o hlot5 hltt5 h
    unfold strips_Update_l1 at h
    try dsimp only at h ⊢
    refine AWP.seq ?_
    refine AWP.region ?_
    refine AOps.lss rfl rfl rfl ?_
    refine AOps.nil ?_
    refine thn_normal ?_
    refine AWP.seq ?_
    refine AWP.condP rfl hltt5 ?_
    refine AWP.skip ?_
    refine thn_normal ?_
    obtain ⟨c6, hx7, h⟩ := bind_some h
    refine AWP.seqJ (⟨[(1, .c (row 1 intI add)), (2, .c (row 1 intI del)), (7, .c (.own 2 0 c6.length)), (12, .c (row 1 intI sv)), (13, .c (int (sv.length : Int))), (14, .c (int t5))], [.dead, .dead, .one (vec 1 intI c6)]⟩) ?_ ?_
    · refine AWP.block ?_
      refine AWP.seq ?_
      obtain ⟨a16, ha16, hx7⟩ := bind_some hx7
      refine AWP.region ?_
      refine S.idx ha16 rfl rfl rfl rfl ?_
      refine AOps.loadI rfl rfl rfl rfl ?_
      refine AOps.assign rfl rfl ?_
      refine AOps.nil ?_
      refine thn_normal ?_
      refine AWP.seq ?_
      obtain ⟨a21, ha21, hx7⟩ := bind_some hx7
      refine AWP.region ?_
      refine AOps.move rfl rfl ?_
      refine AOps.move rfl rfl ?_
      refine AOps.callR rfl rfl rfl rfl (slices_BinarySearch_int_int_ok ha21) rfl ?_
      refine AOps.move rfl rfl ?_
      refine AOps.extract rfl rfl rfl ?_
      refine AOps.extract rfl rfl rfl ?_
      refine AOps.assign rfl rfl ?_
      refine AOps.assign rfl rfl ?_
      refine AOps.nil ?_
      refine thn_normal ?_
      refine AWP.seq ?_
      refine AWP.region ?_
      refine AOps.move rfl rfl ?_
      refine AOps.not rfl rfl ?_
      refine AOps.nil ?_
      refine thn_normal ?_
      refine AWP.iteB rfl hx7 (fun hc8 hx7 => ?_) (fun hc8 hx7 => ?_)
      · obtain ⟨a29, ha29, hx7⟩ := bind_some hx7
        refine AWP.region ?_
        refine AOps.move rfl rfl ?_
        refine AOps.move rfl rfl ?_
        refine S.lit (f := intI) (l := [a16]) (ess := [[int a16]]) rfl rfl rfl rfl rfl rfl rfl ⟨⟨.inl rfl, trivial⟩, trivial⟩ rfl rfl rfl ?_
        refine S.append (f := intI) ha29 rfl rfl rfl rfl rfl rfl (.own rfl rfl) rfl rfl rfl rfl ?_
        refine AOps.assign rfl rfl ?_
        refine AOps.nil ?_
        refine inB_normal ?_
        have ej := Option.some.inj hx7
        subst ej
        refine thn_normal ?_
        exact Sub.cut ⟨rfl, rfl, rfl, rfl, rfl, rfl, trivial⟩ rfl ⟨.dead, .dead, .vec, trivial⟩ rfl
      · refine AWP.skip ?_
        refine inB_normal ?_
        have ej := Option.some.inj hx7
        subst ej
        refine thn_normal ?_
        exact (Sub.move (env' := [(1, .c (row 1 intI add)), (2, .c (row 1 intI del)), (7, .c (.own 2 0 c4.length)), (12, .c (row 1 intI sv)), (13, .c (int (sv.length : Int))), (14, .c (int t5))]) (σ' := [.dead, .dead, .one (vec 1 intI c4)]) 2 0 rfl rfl rfl ⟨rfl, rfl, rfl, rfl, rfl, rfl, trivial⟩ rfl ⟨trivial, trivial, ⟨Blk.im_ok _ _ _, vec_mv rfl⟩, trivial⟩).trans (Sub.env ⟨rfl, rfl, rfl, rfl, rfl, rfl, trivial⟩)
    · refine AWP.region ?_
      refine AOps.add rfl rfl rfl (by omega) ?_
      refine AOps.move rfl rfl ?_
      refine AOps.nil ?_
      have ej := Option.some.inj h
      subst ej
      refine thn_normal ?_
      exact (Sub.move (env' := [(1, .c (row 1 intI add)), (2, .c (row 1 intI del)), (7, .c (.own 0 0 c6.length)), (12, .c (row 1 intI sv)), (13, .c (int (sv.length : Int))), (14, .c (int (t5 + 1)))]) (σ' := [.one (vec 1 intI c6), .dead]) 0 2 rfl rfl rfl ⟨rfl, rfl, rfl, rfl, rfl, rfl, trivial⟩ rfl ⟨⟨Blk.im_ok _ _ _, vec_mv rfl⟩, trivial, trivial⟩).trans (Sub.cut ⟨rfl, rfl, rfl, rfl, rfl, rfl, trivial⟩ rfl ⟨.vec, trivial⟩ rfl)
  · intro e s hq
    obtain ⟨rfl, hs⟩ := hq
    refine ⟨_, hs, ?_⟩
    refine inB_exit ?_
    refine thn_normal ?_
    refine AWP.seq ?_
    obtain ⟨a33, ha33, h⟩ := bind_some h
    refine AWP.region ?_
    refine AOps.move rfl rfl ?_
    refine AOps.move rfl rfl ?_
    refine S.append (f := intI) ha33 rfl rfl rfl rfl rfl rfl .row rfl rfl rfl rfl ?_
    refine AOps.assign rfl rfl ?_
    refine AOps.nil ?_
    refine thn_normal ?_
    refine AWP.seq ?_
    refine AWP.move (env' := [(7, .c (.own 0 0 a33.length))]) (σ' := [.one (vec 1 intI a33)]) 0 1 rfl rfl rfl ⟨rfl, trivial⟩ rfl ⟨⟨Blk.im_ok _ _ _, vec_mv rfl⟩, trivial⟩ ?_
    obtain ⟨a35, ha35, h⟩ := bind_some h
    refine AWP.region ?_
    refine AOps.move rfl rfl ?_
    refine S.sort ha35 sortL_ok rfl rfl rfl rfl rfl rfl ?_
    refine AOps.nil ?_
    refine thn_normal ?_
    refine AWP.seq ?_
    refine AWP.region ?_
    refine AOps.move rfl rfl ?_
    refine S.compact compactL_ok rfl rfl (sortL_len ha35) rfl rfl rfl rfl rfl ?_
    refine AOps.assign rfl rfl ?_
    refine AOps.nil ?_
    refine thn_normal ?_
    refine AWP.ret ?_
    have ej := Option.some.inj h
    subst ej
    exact Done.ret rfl (Fresh.mk rfl rfl)

theorem strips_Union_ok {av : List Int} {bv : List Int} {r : (List Int)} (h : strips_Union av bv = some r) : FreshOk Try.prog 42 [.c (row 1 intI av), .c (row 1 intI bv)] 1 (List.map intI r) := by
  unfold FreshOk
  refine FnOk.enter (rs := [.t 4]) Try.func42 rfl Try.ntmps42 Try.results42 rfl ⟨trivial, trivial⟩ (by kernel_rfl) rfl ?_
  unfold strips_Union at h
  refine AWP.seq ?_
  refine AWP.region ?_
  refine AOps.assign rfl rfl ?_
  refine AOps.nil ?_
  refine thn_normal ?_
  refine AWP.seq ?_
  obtain ⟨a7, ha7, h⟩ := bind_some h
  refine AWP.region ?_
  refine AOps.move rfl rfl ?_
  refine AOps.move rfl rfl ?_
  refine S.fresh rfl rfl rfl rfl (FreshOk.nil (by exact ⟨(.inl rfl), (.inl rfl), (.inr ⟨rfl, _, rfl⟩), trivial⟩) (strips_Update_ok ha7)) rfl rfl ?_
  refine AOps.assign rfl rfl ?_
  refine AOps.nil ?_
  refine thn_normal ?_
  refine AWP.ret ?_
  have ej := Option.some.inj h
  subst ej
  exact Done.ret rfl (Fresh.mk rfl rfl)

theorem monitor_needs_ok {t : TTask} {plan : List Int} {r : (List Tmonitor_need)} (h : monitor_needs t plan = some r) : FreshOk Try.prog 25 [.agg [int t.facts, row 1 intI t.init, row 1 intI t.goal, row 4 eTOperator t.operators], .c (row 1 intI plan)] 2 (List.map eTmonitor_need r) := by
  unfold FreshOk
  refine FnOk.enter (rs := [.t 4]) Try.func25 rfl Try.ntmps25 Try.results25 rfl ⟨trivial, trivial⟩ (by kernel_rfl) rfl ?_
  unfold monitor_needs at h
  refine AWP.seq ?_
  refine AWP.region ?_
  refine W.box rfl rfl rfl rfl rfl rfl ?_
  refine AOps.assign rfl rfl ?_
  refine AOps.nil ?_
  refine thn_normal ?_
  refine AWP.seq ?_
  obtain ⟨a12, ha12, h⟩ := bind_some h
  refine AWP.region ?_
  refine AOps.move rfl rfl ?_
  refine S.len rfl rfl (fun hl10 => ?_)
  refine S.add rfl rfl rfl ?_
  refine S.make (f := eTmonitor_need) ha12 (.row (.val .nil)) rfl rfl rfl rfl rfl rfl ?_
  refine AOps.assign rfl rfl ?_
  refine AOps.nil ?_
  refine thn_normal ?_
  refine AWP.seq ?_
  obtain ⟨a18, ha18, h⟩ := bind_some h
  obtain ⟨a20, ha20, h⟩ := bind_some h
  refine AWP.region ?_
  refine AOps.move rfl rfl ?_
  refine AOps.move rfl rfl ?_
  refine S.len rfl rfl (fun hl15 => ?_)
  refine W.fieldAddr rfl rfl rfl rfl ?_
  refine AOps.load rfl rfl rfl rfl rfl rfl ?_
  refine S.fresh rfl rfl rfl rfl (FreshOk.nil (by exact ⟨(.inl rfl), (.inr ⟨rfl, _, rfl⟩), trivial⟩) (strips_Union_ok ha18)) rfl rfl ?_
  refine W.build rfl rfl rfl rfl ?_
  refine S.idxO ha20 rfl rfl rfl rfl rfl ?_
  refine AOps.frzV (id := 2) (l := a18) (env2 := [(1, .c (row 1 intI plan)), (2, .c (.ptr 0 0 0)), (5, .c (.own 1 0 a12.length)), (19, .agg [row 1 intI a18, bool false]), (20, .c (.ptr 1 ((plan.length : Int).toNat) 0))]) (σ2 := [.one (.cells 4 [[int t.facts, row 1 intI t.init, row 1 intI t.goal, row 4 eTOperator t.operators]]), .one (vec 2 eTmonitor_need a12), .dead]) rfl rfl (by exact ⟨⟨_, rfl, .inl ⟨rfl, rfl⟩⟩, ⟨_, rfl, .inl ⟨rfl, rfl⟩⟩, ⟨_, rfl, .inl ⟨rfl, rfl⟩⟩, ⟨_, rfl, ⟨.inr ⟨_, rfl, rfl, rfl⟩, .inl ⟨rfl, rfl⟩, trivial⟩⟩, ⟨_, rfl, .inl ⟨rfl, rfl⟩⟩, trivial⟩) rfl (by exact ⟨⟨rfl, .inl ⟨rfl, rfl⟩, .inl ⟨rfl, rfl⟩, .inl ⟨rfl, rfl⟩, .inl ⟨rfl, rfl⟩, trivial⟩, FrzB.vec, trivial, trivial⟩) ?_; refine S.storeOAgg (f := eTmonitor_need) (a' := (⟨a18, false⟩ : Tmonitor_need)) (ix_lt ha20) (fun _ => rfl) rfl rfl rfl rfl rfl rfl ?_
  refine AOps.nil ?_
  refine thn_normal ?_
  refine AWP.seq ?_
  refine AWP.seq ?_
  refine AWP.region ?_
  refine AOps.move rfl rfl ?_
  refine S.len rfl rfl (fun hl22 => ?_)
  refine AOps.sub' rfl rfl rfl (by omega) ?_
  refine AOps.assign rfl rfl ?_
  refine AOps.nil ?_
  refine thn_normal ?_
  refine AWP.block ?_
  obtain ⟨c5, ho1, h⟩ := bind_some h
  refine AWP.loopS ho1 (fun (c3, iv4) => ⟨[(1, .c (row 1 intI plan)), (2, .c (.ptr 0 0 0)), (5, .c (.own 1 0 c3.length)), (6, .c (int iv4))], [.one (.cells 4 [[int t.facts, row 1 intI t.init, row 1 intI t.goal, row 4 eTOperator t.operators]]), .one (vec 2 eTmonitor_need c3)]⟩) (fun c5 e st => e = .exit 0 ∧ Sub [] st ⟨[(5, .c (.own 1 0 c5.length))], [.dead, .one (vec 2 eTmonitor_need c5)]⟩) ?_ ?_ ?_
  · try dsimp only
    exact Sub.cut ⟨rfl, rfl, (own_len (by first | rfl | simp only [List.length_set])), rfl, trivial⟩ rfl ⟨.one rfl, .vec, trivial⟩ rfl
  · intro s o h
    obtain ⟨c3, iv4⟩ := s
    unfold monitor_needs_l1 at h
    try dsimp only at h ⊢
    refine AWP.seq ?_
    refine AWP.seq ?_
    refine AWP.region ?_
    refine AOps.move rfl rfl ?_
    refine AOps.geq rfl rfl rfl ?_
    refine AOps.nil ?_
    refine thn_normal ?_
    refine AWP.ite rfl h (fun hc6 h => ?_) (fun hc6 h => ?_)
    · refine AWP.skip ?_
      refine thn_normal ?_
      obtain ⟨c7, hx8, h⟩ := bind_some h
      refine AWP.seqJ (⟨[(1, .c (row 1 intI plan)), (2, .c (.ptr 0 0 0)), (5, .c (.own 1 0 c7.length)), (6, .c (int iv4))], [.one (.cells 4 [[int t.facts, row 1 intI t.init, row 1 intI t.goal, row 4 eTOperator t.operators]]), .one (vec 2 eTmonitor_need c7)]⟩) ?_ ?_
      · refine AWP.block ?_
        refine AWP.seq ?_
        obtain ⟨a32, ha32, hx8⟩ := bind_some hx8
        obtain ⟨a34, ha34, hx8⟩ := bind_some hx8
        obtain ⟨a39, ha39, hx8⟩ := bind_some hx8
        refine AWP.sub (s' := ⟨[(1, .c (row 1 intI plan)), (2, .c (.ptr 0 0 0)), (5, .c (.own 1 0 c3.length)), (6, .c (int iv4)), (24, .c (int iv4)), (25, .c (bool (decide (0 ≤ iv4))))], [.one (.cells 4 [[int t.facts, row 1 intI t.init, row 1 intI t.goal, row 4 eTOperator t.operators]]), .one (vec 2 eTmonitor_need c3), .dead, .dead]⟩) (Sub.cut ⟨rfl, rfl, rfl, rfl, rfl, rfl, trivial⟩ rfl ⟨.one rfl, .vec, .dead, .dead, trivial⟩ rfl) ?_
        refine AWP.drawTI [.c (.ptr 0 0 3), .c (row 4 eTOperator t.operators), .c (row 1 intI plan), .c (int iv4), .c (.imm (.ipt [.val (.int .i64 a32)])), .c (int a32), .c (.imm (.ipt [.sl 1 (List.map intI a34.pre), .sl 1 (List.map intI a34.add), .sl 1 (List.map intI a34.del), .val (.int .i64 a34.cost)])), .agg [row 1 intI a34.pre, row 1 intI a34.add, row 1 intI a34.del, int a34.cost], .c (.own 1 0 c3.length), .c (int iv4), .c (int (w64 (iv4 + 1))), .c (.ptr 1 ((w64 (iv4 + 1)).toNat) 0), .agg [row 1 intI a39.facts, bool a39.never], .c (.ptr 2 0 0), .c (.ptr 3 0 0), .undef, .undef] [13, 14, 15, 16] [([], [.one (.cells 4 [[int t.facts, row 1 intI t.init, row 1 intI t.goal, row 4 eTOperator t.operators]]), .one (vec 2 eTmonitor_need c3), .dead, .dead]), ([13], [.one (.cells 4 [[int t.facts, row 1 intI t.init, row 1 intI t.goal, row 4 eTOperator t.operators]]), .one (vec 2 eTmonitor_need c3), .one (.cells 4 [[.imm (.val (.slice none 0 0)), .imm (.val (.slice none 0 0)), .imm (.val (.slice none 0 0)), int 0]]), .dead]), ([14], [.one (.cells 4 [[int t.facts, row 1 intI t.init, row 1 intI t.goal, row 4 eTOperator t.operators]]), .one (vec 2 eTmonitor_need c3), .dead, .one (.cells 2 [[.imm (.val (.slice none 0 0)), bool false]])]), ([13, 14], [.one (.cells 4 [[int t.facts, row 1 intI t.init, row 1 intI t.goal, row 4 eTOperator t.operators]]), .one (vec 2 eTmonitor_need c3), .one (.cells 4 [[.imm (.val (.slice none 0 0)), .imm (.val (.slice none 0 0)), .imm (.val (.slice none 0 0)), int 0]]), .one (.cells 2 [[.imm (.val (.slice none 0 0)), bool false]])]), ([13, 14, 15], [.one (.cells 4 [[int t.facts, row 1 intI t.init, row 1 intI t.goal, row 4 eTOperator t.operators]]), .one (vec 2 eTmonitor_need c3), .one (.cells 4 [[row 1 intI a34.pre, row 1 intI a34.add, row 1 intI a34.del, int a34.cost]]), .one (.cells 2 [[.imm (.val (.slice none 0 0)), bool false]])]), ([13, 14, 15, 16], [.one (.cells 4 [[int t.facts, row 1 intI t.init, row 1 intI t.goal, row 4 eTOperator t.operators]]), .one (vec 2 eTmonitor_need c3), .one (.cells 4 [[row 1 intI a34.pre, row 1 intI a34.add, row 1 intI a34.del, int a34.cost]]), .one (.cells 2 [[row 1 intI a39.facts, bool a39.never]])])] [.one (.cells 4 [[int t.facts, row 1 intI t.init, row 1 intI t.goal, row 4 eTOperator t.operators]]), .one (vec 2 eTmonitor_need c3), .one (.cells 4 [[row 1 intI a34.pre, row 1 intI a34.add, row 1 intI a34.del, int a34.cost]]), .one (.cells 2 [[row 1 intI a39.facts, bool a39.never]])] mixed rfl rfl rfl rfl rfl ?_ ?_
        · refine TabOk.cons ?_ ?_
          · apply EntOps.go; exact rfl; exact rfl; exact rfl; intro E hE; (refine W.fieldAddr rfl rfl rfl rfl ?_); exact AOps.nil ⟨rfl, rfl⟩
            apply EntOps.go; exact rfl; exact rfl; exact rfl; intro E hE; (refine AOps.load rfl rfl rfl rfl rfl rfl ?_); exact AOps.nil ⟨rfl, rfl⟩
            apply EntOps.go; exact rfl; exact rfl; exact rfl; intro E hE; (refine AOps.move rfl rfl ?_); exact AOps.nil ⟨rfl, rfl⟩
            apply EntOps.go; exact rfl; exact rfl; exact rfl; intro E hE; (refine AOps.move rfl rfl ?_); exact AOps.nil ⟨rfl, rfl⟩
            apply EntOps.go; exact rfl; exact rfl; exact rfl; intro E hE; (refine S.idx ha32 rfl rfl rfl rfl ?_); exact AOps.nil ⟨rfl, rfl⟩
            apply EntOps.go; exact rfl; exact rfl; exact rfl; intro E hE; (refine AOps.loadI rfl rfl rfl rfl ?_); exact AOps.nil ⟨rfl, rfl⟩
            apply EntOps.go; exact rfl; exact rfl; exact rfl; intro E hE; (refine S.idx ha34 rfl rfl rfl rfl ?_); exact AOps.nil ⟨rfl, rfl⟩
            apply EntOps.go; exact rfl; exact rfl; exact rfl; intro E hE; (refine W.loadIAgg rfl rfl rfl rfl rfl ?_); exact AOps.nil ⟨rfl, rfl⟩
            apply EntOps.go; exact rfl; exact rfl; exact rfl; intro E hE; (refine AOps.move rfl rfl ?_); exact AOps.nil ⟨rfl, rfl⟩
            apply EntOps.go; exact rfl; exact rfl; exact rfl; intro E hE; (refine AOps.move rfl rfl ?_); exact AOps.nil ⟨rfl, rfl⟩
            apply EntOps.go; exact rfl; exact rfl; exact rfl; intro E hE; (refine S.add rfl rfl rfl ?_); exact AOps.nil ⟨rfl, rfl⟩
            apply EntOps.go; exact rfl; exact rfl; exact rfl; intro E hE; (refine S.idxO ha39 rfl rfl rfl rfl rfl ?_); exact AOps.nil ⟨rfl, rfl⟩
            apply EntOps.go; exact rfl; exact rfl; exact rfl; intro E hE; (refine S.loadOAgg ha39 rfl rfl rfl rfl rfl rfl rfl ?_); exact AOps.nil ⟨rfl, rfl⟩
            apply EntOps.eff; exact rfl; exact rfl; exact rfl; exact rfl; intro E hE; (refine AOps.allocAt 2 hE rfl rfl rfl rfl rfl rfl rfl ⟨.one rfl, .vec, .dead, .dead, trivial⟩ rfl ?_); exact AOps.nil ⟨rfl, rfl⟩
            apply EntOps.eff; exact rfl; exact rfl; exact rfl; exact rfl; intro E hE; (refine AOps.allocAt 3 hE rfl rfl rfl rfl rfl rfl rfl ⟨.one rfl, .vec, .dead, .dead, trivial⟩ rfl ?_); exact AOps.nil ⟨rfl, rfl⟩
            refine EntOps.no rfl ?_
            refine EntOps.no rfl ?_
            exact EntOps.nil
          refine TabOk.cons ?_ ?_
          · apply EntOps.go; exact rfl; exact rfl; exact rfl; intro E hE; (refine W.fieldAddr rfl rfl rfl rfl ?_); exact AOps.nil ⟨rfl, rfl⟩
            apply EntOps.go; exact rfl; exact rfl; exact rfl; intro E hE; (refine AOps.load rfl rfl rfl rfl rfl rfl ?_); exact AOps.nil ⟨rfl, rfl⟩
            apply EntOps.go; exact rfl; exact rfl; exact rfl; intro E hE; (refine AOps.move rfl rfl ?_); exact AOps.nil ⟨rfl, rfl⟩
            apply EntOps.go; exact rfl; exact rfl; exact rfl; intro E hE; (refine AOps.move rfl rfl ?_); exact AOps.nil ⟨rfl, rfl⟩
            apply EntOps.go; exact rfl; exact rfl; exact rfl; intro E hE; (refine S.idx ha32 rfl rfl rfl rfl ?_); exact AOps.nil ⟨rfl, rfl⟩
            apply EntOps.go; exact rfl; exact rfl; exact rfl; intro E hE; (refine AOps.loadI rfl rfl rfl rfl ?_); exact AOps.nil ⟨rfl, rfl⟩
            apply EntOps.go; exact rfl; exact rfl; exact rfl; intro E hE; (refine S.idx ha34 rfl rfl rfl rfl ?_); exact AOps.nil ⟨rfl, rfl⟩
            apply EntOps.go; exact rfl; exact rfl; exact rfl; intro E hE; (refine W.loadIAgg rfl rfl rfl rfl rfl ?_); exact AOps.nil ⟨rfl, rfl⟩
            apply EntOps.go; exact rfl; exact rfl; exact rfl; intro E hE; (refine AOps.move rfl rfl ?_); exact AOps.nil ⟨rfl, rfl⟩
            apply EntOps.go; exact rfl; exact rfl; exact rfl; intro E hE; (refine AOps.move rfl rfl ?_); exact AOps.nil ⟨rfl, rfl⟩
            apply EntOps.go; exact rfl; exact rfl; exact rfl; intro E hE; (refine S.add rfl rfl rfl ?_); exact AOps.nil ⟨rfl, rfl⟩
            apply EntOps.go; exact rfl; exact rfl; exact rfl; intro E hE; (refine S.idxO ha39 rfl rfl rfl rfl rfl ?_); exact AOps.nil ⟨rfl, rfl⟩
            apply EntOps.go; exact rfl; exact rfl; exact rfl; intro E hE; (refine S.loadOAgg ha39 rfl rfl rfl rfl rfl rfl rfl ?_); exact AOps.nil ⟨rfl, rfl⟩
            refine EntOps.no rfl ?_
            apply EntOps.eff; exact rfl; exact rfl; exact rfl; exact rfl; intro E hE; (refine AOps.allocAt 3 hE rfl rfl rfl rfl rfl rfl rfl ⟨.one rfl, .vec, .one rfl, .dead, trivial⟩ rfl ?_); exact AOps.nil ⟨rfl, rfl⟩
            refine EntOps.no rfl ?_
            refine EntOps.no rfl ?_
            exact EntOps.nil
          refine TabOk.cons ?_ ?_
          · apply EntOps.go; exact rfl; exact rfl; exact rfl; intro E hE; (refine W.fieldAddr rfl rfl rfl rfl ?_); exact AOps.nil ⟨rfl, rfl⟩
            apply EntOps.go; exact rfl; exact rfl; exact rfl; intro E hE; (refine AOps.load rfl rfl rfl rfl rfl rfl ?_); exact AOps.nil ⟨rfl, rfl⟩
            apply EntOps.go; exact rfl; exact rfl; exact rfl; intro E hE; (refine AOps.move rfl rfl ?_); exact AOps.nil ⟨rfl, rfl⟩
            apply EntOps.go; exact rfl; exact rfl; exact rfl; intro E hE; (refine AOps.move rfl rfl ?_); exact AOps.nil ⟨rfl, rfl⟩
            apply EntOps.go; exact rfl; exact rfl; exact rfl; intro E hE; (refine S.idx ha32 rfl rfl rfl rfl ?_); exact AOps.nil ⟨rfl, rfl⟩
            apply EntOps.go; exact rfl; exact rfl; exact rfl; intro E hE; (refine AOps.loadI rfl rfl rfl rfl ?_); exact AOps.nil ⟨rfl, rfl⟩
            apply EntOps.go; exact rfl; exact rfl; exact rfl; intro E hE; (refine S.idx ha34 rfl rfl rfl rfl ?_); exact AOps.nil ⟨rfl, rfl⟩
            apply EntOps.go; exact rfl; exact rfl; exact rfl; intro E hE; (refine W.loadIAgg rfl rfl rfl rfl rfl ?_); exact AOps.nil ⟨rfl, rfl⟩
            apply EntOps.go; exact rfl; exact rfl; exact rfl; intro E hE; (refine AOps.move rfl rfl ?_); exact AOps.nil ⟨rfl, rfl⟩
            apply EntOps.go; exact rfl; exact rfl; exact rfl; intro E hE; (refine AOps.move rfl rfl ?_); exact AOps.nil ⟨rfl, rfl⟩
            apply EntOps.go; exact rfl; exact rfl; exact rfl; intro E hE; (refine S.add rfl rfl rfl ?_); exact AOps.nil ⟨rfl, rfl⟩
            apply EntOps.go; exact rfl; exact rfl; exact rfl; intro E hE; (refine S.idxO ha39 rfl rfl rfl rfl rfl ?_); exact AOps.nil ⟨rfl, rfl⟩
            apply EntOps.go; exact rfl; exact rfl; exact rfl; intro E hE; (refine S.loadOAgg ha39 rfl rfl rfl rfl rfl rfl rfl ?_); exact AOps.nil ⟨rfl, rfl⟩
            apply EntOps.eff; exact rfl; exact rfl; exact rfl; exact rfl; intro E hE; (refine AOps.allocAt 2 hE rfl rfl rfl rfl rfl rfl rfl ⟨.one rfl, .vec, .dead, .one rfl, trivial⟩ rfl ?_); exact AOps.nil ⟨rfl, rfl⟩
            refine EntOps.no rfl ?_
            refine EntOps.no rfl ?_
            refine EntOps.no rfl ?_
            exact EntOps.nil
          refine TabOk.cons ?_ ?_
          · apply EntOps.go; exact rfl; exact rfl; exact rfl; intro E hE; (refine W.fieldAddr rfl rfl rfl rfl ?_); exact AOps.nil ⟨rfl, rfl⟩
            apply EntOps.go; exact rfl; exact rfl; exact rfl; intro E hE; (refine AOps.load rfl rfl rfl rfl rfl rfl ?_); exact AOps.nil ⟨rfl, rfl⟩
            apply EntOps.go; exact rfl; exact rfl; exact rfl; intro E hE; (refine AOps.move rfl rfl ?_); exact AOps.nil ⟨rfl, rfl⟩
            apply EntOps.go; exact rfl; exact rfl; exact rfl; intro E hE; (refine AOps.move rfl rfl ?_); exact AOps.nil ⟨rfl, rfl⟩
            apply EntOps.go; exact rfl; exact rfl; exact rfl; intro E hE; (refine S.idx ha32 rfl rfl rfl rfl ?_); exact AOps.nil ⟨rfl, rfl⟩
            apply EntOps.go; exact rfl; exact rfl; exact rfl; intro E hE; (refine AOps.loadI rfl rfl rfl rfl ?_); exact AOps.nil ⟨rfl, rfl⟩
            apply EntOps.go; exact rfl; exact rfl; exact rfl; intro E hE; (refine S.idx ha34 rfl rfl rfl rfl ?_); exact AOps.nil ⟨rfl, rfl⟩
            apply EntOps.go; exact rfl; exact rfl; exact rfl; intro E hE; (refine W.loadIAgg rfl rfl rfl rfl rfl ?_); exact AOps.nil ⟨rfl, rfl⟩
            apply EntOps.go; exact rfl; exact rfl; exact rfl; intro E hE; (refine AOps.move rfl rfl ?_); exact AOps.nil ⟨rfl, rfl⟩
            apply EntOps.go; exact rfl; exact rfl; exact rfl; intro E hE; (refine AOps.move rfl rfl ?_); exact AOps.nil ⟨rfl, rfl⟩
            apply EntOps.go; exact rfl; exact rfl; exact rfl; intro E hE; (refine S.add rfl rfl rfl ?_); exact AOps.nil ⟨rfl, rfl⟩
            apply EntOps.go; exact rfl; exact rfl; exact rfl; intro E hE; (refine S.idxO ha39 rfl rfl rfl rfl rfl ?_); exact AOps.nil ⟨rfl, rfl⟩
            apply EntOps.go; exact rfl; exact rfl; exact rfl; intro E hE; (refine S.loadOAgg ha39 rfl rfl rfl rfl rfl rfl rfl ?_); exact AOps.nil ⟨rfl, rfl⟩
            refine EntOps.no rfl ?_
            refine EntOps.no rfl ?_
            apply EntOps.eff; exact rfl; exact rfl; exact rfl; exact rfl; intro E hE; (refine W.storeAgg rfl rfl rfl rfl rfl rfl rfl ?_); exact AOps.nil ⟨rfl, rfl⟩
            refine EntOps.no rfl ?_
            exact EntOps.nil
          refine TabOk.cons ?_ ?_
          · refine EntOps.no rfl ?_
            refine EntOps.no rfl ?_
            refine EntOps.no rfl ?_
            refine EntOps.no rfl ?_
            refine EntOps.no rfl ?_
            refine EntOps.no rfl ?_
            refine EntOps.no rfl ?_
            refine EntOps.no rfl ?_
            apply EntOps.go; exact rfl; exact rfl; exact rfl; intro E hE; (refine AOps.move rfl rfl ?_); exact AOps.nil ⟨rfl, rfl⟩
            apply EntOps.go; exact rfl; exact rfl; exact rfl; intro E hE; (refine AOps.move rfl rfl ?_); exact AOps.nil ⟨rfl, rfl⟩
            apply EntOps.go; exact rfl; exact rfl; exact rfl; intro E hE; (refine S.add rfl rfl rfl ?_); exact AOps.nil ⟨rfl, rfl⟩
            apply EntOps.go; exact rfl; exact rfl; exact rfl; intro E hE; (refine S.idxO ha39 rfl rfl rfl rfl rfl ?_); exact AOps.nil ⟨rfl, rfl⟩
            apply EntOps.go; exact rfl; exact rfl; exact rfl; intro E hE; (refine S.loadOAgg ha39 rfl rfl rfl rfl rfl rfl rfl ?_); exact AOps.nil ⟨rfl, rfl⟩
            refine EntOps.no rfl ?_
            refine EntOps.no rfl ?_
            refine EntOps.no rfl ?_
            apply EntOps.eff; exact rfl; exact rfl; exact rfl; exact rfl; intro E hE; (refine W.storeAgg rfl rfl rfl rfl rfl rfl rfl ?_); exact AOps.nil ⟨rfl, rfl⟩
            exact EntOps.nil
          refine TabOk.cons ?_ ?_
          · refine EntOps.no rfl ?_
            refine EntOps.no rfl ?_
            refine EntOps.no rfl ?_
            refine EntOps.no rfl ?_
            refine EntOps.no rfl ?_
            refine EntOps.no rfl ?_
            refine EntOps.no rfl ?_
            refine EntOps.no rfl ?_
            refine EntOps.no rfl ?_
            refine EntOps.no rfl ?_
            refine EntOps.no rfl ?_
            refine EntOps.no rfl ?_
            refine EntOps.no rfl ?_
            refine EntOps.no rfl ?_
            refine EntOps.no rfl ?_
            refine EntOps.no rfl ?_
            refine EntOps.no rfl ?_
            exact EntOps.nil
          exact TabOk.nil
        dsimp only [envEnd]
        refine thn_normal ?_
        refine AWP.seq ?_
        obtain ⟨t9, hx10, hx8⟩ := bind_some hx8
        refine AWP.seqJ (⟨[(1, .c (row 1 intI plan)), (2, .c (.ptr 0 0 0)), (5, .c (.own 1 0 c3.length)), (6, .c (int iv4)), (7, .c (.ptr 2 0 0)), (8, .c (.ptr 3 0 0)), (49, .c (bool t9))], [.one (.cells 4 [[int t.facts, row 1 intI t.init, row 1 intI t.goal, row 4 eTOperator t.operators]]), .one (vec 2 eTmonitor_need c3), .one (.cells 4 [[row 1 intI a34.pre, row 1 intI a34.add, row 1 intI a34.del, int a34.cost]]), .one (.cells 2 [[row 1 intI a39.facts, bool a39.never]])]⟩) ?_ ?_
        · rcases Bool.eq_false_or_eq_true (a39.never) with hb11 | hb11
          · replace hx10 := iteBT hb11 hx10
            refine AWP.region ?_
            refine W.fieldAddr rfl rfl rfl rfl ?_
            refine AOps.load rfl rfl rfl rfl rfl rfl ?_
            refine AOps.move rfl rfl ?_
            refine AOps.guardF rfl rfl rfl hb11 ?_
            refine AOps.guardF rfl rfl rfl hb11 ?_
            refine AOps.guardF rfl rfl rfl hb11 ?_
            refine AOps.guardF rfl rfl rfl hb11 ?_
            refine AOps.guardF rfl rfl rfl hb11 ?_
            refine AOps.pickT rfl hb11 rfl rfl ?_
            refine AOps.nil ?_
            have ej := Option.some.inj hx10
            subst ej
            refine thn_normal ?_
            exact Sub.env ⟨rfl, rfl, rfl, rfl, rfl, rfl, rfl, trivial⟩
          · replace hx10 := iteBF hb11 hx10
            obtain ⟨a48, ha48, hx10⟩ := bind_some hx10
            refine AWP.region ?_
            refine W.fieldAddr rfl rfl rfl rfl ?_
            refine AOps.load rfl rfl rfl rfl rfl rfl ?_
            refine AOps.move rfl rfl ?_
            refine AOps.guardT rfl rfl rfl hb11 ?_; refine W.fieldAddr rfl rfl rfl rfl ?_
            refine AOps.guardT rfl rfl rfl hb11 ?_; refine AOps.load rfl rfl rfl rfl rfl rfl ?_
            refine AOps.guardT rfl rfl rfl hb11 ?_; refine W.fieldAddr rfl rfl rfl rfl ?_
            refine AOps.guardT rfl rfl rfl hb11 ?_; refine AOps.load rfl rfl rfl rfl rfl rfl ?_
            refine AOps.guardT rfl rfl rfl hb11 ?_; refine AOps.callR rfl rfl rfl rfl (strips_Meets_ok ha48) rfl ?_
            refine AOps.pickF rfl hb11 rfl rfl ?_
            refine AOps.nil ?_
            have ej := Option.some.inj hx10
            subst ej
            refine thn_normal ?_
            exact Sub.env ⟨rfl, rfl, rfl, rfl, rfl, rfl, rfl, trivial⟩
        · refine AWP.iteB rfl hx8 (fun hc12 hx8 => ?_) (fun hc12 hx8 => ?_)
          · refine AWP.seq ?_
            obtain ⟨a52, ha52, hx8⟩ := bind_some hx8
            refine AWP.region ?_
            refine AOps.move rfl rfl ?_
            refine AOps.move rfl rfl ?_
            refine S.idxO ha52 rfl rfl rfl rfl rfl ?_
            refine W.fieldAddr rfl rfl rfl rfl ?_
            refine S.storeO (f := eTmonitor_need) (a' := (⟨a52.facts, true⟩ : Tmonitor_need)) (ix_get ha52).2 rfl rfl rfl rfl rfl ?_
            refine AOps.nil ?_
            refine thn_normal ?_
            refine AWP.exit ?_
            refine thn_exit ?_
            refine inB_exit ?_
            have ej := Option.some.inj hx8
            subst ej
            refine thn_normal ?_
            exact Sub.cut ⟨rfl, rfl, (own_len (by first | rfl | simp only [List.length_set])), rfl, trivial⟩ rfl ⟨.one rfl, .vec, trivial⟩ rfl
          · refine AWP.skip ?_
            refine thn_normal ?_
            obtain ⟨a60, ha60, hx8⟩ := bind_some hx8
            obtain ⟨a63, ha63, hx8⟩ := bind_some hx8
            obtain ⟨a64, ha64, hx8⟩ := bind_some hx8
            refine AWP.drawEI [6, 9, 12] mixed rfl rfl rfl ?_
            apply DrawSeqE.consN; exact rfl; exact rfl; intro E
            refine AOps.move rfl rfl ?_
            exact AOps.nil ⟨rfl, rfl⟩
            exact rfl
            apply DrawSeqE.consN; exact rfl; exact rfl; intro E
            refine AOps.move rfl rfl ?_
            exact AOps.nil ⟨rfl, rfl⟩
            exact rfl
            apply DrawSeqE.consN; exact rfl; exact rfl; intro E
            refine W.fieldAddr rfl rfl rfl rfl ?_
            exact AOps.nil ⟨rfl, rfl⟩
            exact rfl
            apply DrawSeqE.consN; exact rfl; exact rfl; intro E
            refine AOps.load rfl rfl rfl rfl rfl rfl ?_
            exact AOps.nil ⟨rfl, rfl⟩
            exact rfl
            apply DrawSeqE.consN; exact rfl; exact rfl; intro E
            refine W.fieldAddr rfl rfl rfl rfl ?_
            exact AOps.nil ⟨rfl, rfl⟩
            exact rfl
            apply DrawSeqE.consN; exact rfl; exact rfl; intro E
            refine AOps.load rfl rfl rfl rfl rfl rfl ?_
            exact AOps.nil ⟨rfl, rfl⟩
            exact rfl
            apply DrawSeqE.consE; exact rfl; exact rfl; intro E
            refine AOps.callR rfl rfl rfl rfl (FreshOk.data (FreshOk.nil (by exact ⟨(.inl rfl), (.inr ⟨rfl, _, rfl⟩), (.inl rfl), trivial⟩) (strips_Update_ok ha60))) rfl ?_
            exact AOps.nil ⟨rfl, rfl⟩
            exact rfl
            exact rfl
            apply DrawSeqE.consN; exact rfl; exact rfl; intro E
            refine W.fieldAddr rfl rfl rfl rfl ?_
            exact AOps.nil ⟨rfl, rfl⟩
            exact rfl
            apply DrawSeqE.consN; exact rfl; exact rfl; intro E
            refine AOps.load rfl rfl rfl rfl rfl rfl ?_
            exact AOps.nil ⟨rfl, rfl⟩
            exact rfl
            apply DrawSeqE.consE; exact rfl; exact rfl; intro E
            refine AOps.callR rfl rfl rfl rfl (FreshOk.data (strips_Union_ok ha63)) rfl ?_
            exact AOps.nil ⟨rfl, rfl⟩
            exact rfl
            exact rfl
            apply DrawSeqE.consN; exact rfl; exact rfl; intro E
            refine S.idxO ha64 rfl rfl rfl rfl rfl ?_
            exact AOps.nil ⟨rfl, rfl⟩
            exact rfl
            apply DrawSeqE.consN; exact rfl; exact rfl; intro E
            refine W.fieldAddr rfl rfl rfl rfl ?_
            exact AOps.nil ⟨rfl, rfl⟩
            exact rfl
            apply DrawSeqE.consE (v := .undef); exact rfl; exact rfl; intro E
            refine S.storeO (f := eTmonitor_need) (a' := (⟨a63, a64.never⟩ : Tmonitor_need)) (ix_get ha64).2 rfl rfl rfl rfl rfl ?_
            exact AOps.nil ⟨rfl, rfl⟩
            exact rfl
            exact rfl
            refine DrawSeqE.done rfl ?_ ?_
            · apply RestI.cons; exact rfl; exact rfl
              first | refine RestK.skip rfl ?_ | (apply RestK.go; exact rfl; exact rfl; intro E; (refine AOps.move rfl rfl ?_); exact AOps.nil ⟨rfl, rfl⟩)
              first | refine RestK.skip rfl ?_ | (apply RestK.go; exact rfl; exact rfl; intro E; (refine AOps.move rfl rfl ?_); exact AOps.nil ⟨rfl, rfl⟩)
              first | refine RestK.skip rfl ?_ | (apply RestK.go; exact rfl; exact rfl; intro E; (refine AOps.move rfl rfl ?_); exact AOps.nil ⟨rfl, rfl⟩)
              first | refine RestK.skip rfl ?_ | (apply RestK.go; exact rfl; exact rfl; intro E; (refine AOps.move rfl rfl ?_); exact AOps.nil ⟨rfl, rfl⟩)
              exact RestK.nil
              apply RestI.cons; exact rfl; exact rfl
              first | refine RestK.skip rfl ?_ | (apply RestK.go; exact rfl; exact rfl; intro E; (refine AOps.move rfl rfl ?_); exact AOps.nil ⟨rfl, rfl⟩)
              first | refine RestK.skip rfl ?_ | (apply RestK.go; exact rfl; exact rfl; intro E; (refine AOps.move rfl rfl ?_); exact AOps.nil ⟨rfl, rfl⟩)
              first | refine RestK.skip rfl ?_ | (apply RestK.go; exact rfl; exact rfl; intro E; (refine AOps.move rfl rfl ?_); exact AOps.nil ⟨rfl, rfl⟩)
              first | refine RestK.skip rfl ?_ | (apply RestK.go; exact rfl; exact rfl; intro E; (refine AOps.move rfl rfl ?_); exact AOps.nil ⟨rfl, rfl⟩)
              exact RestK.nil
              apply RestI.cons; exact rfl; exact rfl
              first | refine RestK.skip rfl ?_ | (apply RestK.go; exact rfl; exact rfl; intro E; (refine W.fieldAddr rfl rfl rfl rfl ?_); exact AOps.nil ⟨rfl, rfl⟩)
              first | refine RestK.skip rfl ?_ | (apply RestK.go; exact rfl; exact rfl; intro E; (refine W.fieldAddr rfl rfl rfl rfl ?_); exact AOps.nil ⟨rfl, rfl⟩)
              first | refine RestK.skip rfl ?_ | (apply RestK.go; exact rfl; exact rfl; intro E; (refine W.fieldAddr rfl rfl rfl rfl ?_); exact AOps.nil ⟨rfl, rfl⟩)
              first | refine RestK.skip rfl ?_ | (apply RestK.go; exact rfl; exact rfl; intro E; (refine W.fieldAddr rfl rfl rfl rfl ?_); exact AOps.nil ⟨rfl, rfl⟩)
              exact RestK.nil
              apply RestI.cons; exact rfl; exact rfl
              first | refine RestK.skip rfl ?_ | (apply RestK.go; exact rfl; exact rfl; intro E; (refine AOps.load rfl rfl rfl rfl rfl rfl ?_); exact AOps.nil ⟨rfl, rfl⟩)
              first | refine RestK.skip rfl ?_ | (apply RestK.go; exact rfl; exact rfl; intro E; (refine AOps.load rfl rfl rfl rfl rfl rfl ?_); exact AOps.nil ⟨rfl, rfl⟩)
              first | refine RestK.skip rfl ?_ | (apply RestK.go; exact rfl; exact rfl; intro E; (refine AOps.load rfl rfl rfl rfl rfl rfl ?_); exact AOps.nil ⟨rfl, rfl⟩)
              first | refine RestK.skip rfl ?_ | (apply RestK.go; exact rfl; exact rfl; intro E; (refine AOps.load rfl rfl rfl rfl rfl rfl ?_); exact AOps.nil ⟨rfl, rfl⟩)
              exact RestK.nil
              apply RestI.cons; exact rfl; exact rfl
              first | refine RestK.skip rfl ?_ | (apply RestK.go; exact rfl; exact rfl; intro E; (refine W.fieldAddr rfl rfl rfl rfl ?_); exact AOps.nil ⟨rfl, rfl⟩)
              first | refine RestK.skip rfl ?_ | (apply RestK.go; exact rfl; exact rfl; intro E; (refine W.fieldAddr rfl rfl rfl rfl ?_); exact AOps.nil ⟨rfl, rfl⟩)
              first | refine RestK.skip rfl ?_ | (apply RestK.go; exact rfl; exact rfl; intro E; (refine W.fieldAddr rfl rfl rfl rfl ?_); exact AOps.nil ⟨rfl, rfl⟩)
              first | refine RestK.skip rfl ?_ | (apply RestK.go; exact rfl; exact rfl; intro E; (refine W.fieldAddr rfl rfl rfl rfl ?_); exact AOps.nil ⟨rfl, rfl⟩)
              exact RestK.nil
              apply RestI.cons; exact rfl; exact rfl
              first | refine RestK.skip rfl ?_ | (apply RestK.go; exact rfl; exact rfl; intro E; (refine AOps.load rfl rfl rfl rfl rfl rfl ?_); exact AOps.nil ⟨rfl, rfl⟩)
              first | refine RestK.skip rfl ?_ | (apply RestK.go; exact rfl; exact rfl; intro E; (refine AOps.load rfl rfl rfl rfl rfl rfl ?_); exact AOps.nil ⟨rfl, rfl⟩)
              first | refine RestK.skip rfl ?_ | (apply RestK.go; exact rfl; exact rfl; intro E; (refine AOps.load rfl rfl rfl rfl rfl rfl ?_); exact AOps.nil ⟨rfl, rfl⟩)
              first | refine RestK.skip rfl ?_ | (apply RestK.go; exact rfl; exact rfl; intro E; (refine AOps.load rfl rfl rfl rfl rfl rfl ?_); exact AOps.nil ⟨rfl, rfl⟩)
              exact RestK.nil
              refine RestI.skip rfl ?_
              apply RestI.cons; exact rfl; exact rfl
              first | refine RestK.skip rfl ?_ | (apply RestK.go; exact rfl; exact rfl; intro E; (refine W.fieldAddr rfl rfl rfl rfl ?_); exact AOps.nil ⟨rfl, rfl⟩)
              first | refine RestK.skip rfl ?_ | (apply RestK.go; exact rfl; exact rfl; intro E; (refine W.fieldAddr rfl rfl rfl rfl ?_); exact AOps.nil ⟨rfl, rfl⟩)
              first | refine RestK.skip rfl ?_ | (apply RestK.go; exact rfl; exact rfl; intro E; (refine W.fieldAddr rfl rfl rfl rfl ?_); exact AOps.nil ⟨rfl, rfl⟩)
              first | refine RestK.skip rfl ?_ | (apply RestK.go; exact rfl; exact rfl; intro E; (refine W.fieldAddr rfl rfl rfl rfl ?_); exact AOps.nil ⟨rfl, rfl⟩)
              exact RestK.nil
              apply RestI.cons; exact rfl; exact rfl
              first | refine RestK.skip rfl ?_ | (apply RestK.go; exact rfl; exact rfl; intro E; (refine AOps.load rfl rfl rfl rfl rfl rfl ?_); exact AOps.nil ⟨rfl, rfl⟩)
              first | refine RestK.skip rfl ?_ | (apply RestK.go; exact rfl; exact rfl; intro E; (refine AOps.load rfl rfl rfl rfl rfl rfl ?_); exact AOps.nil ⟨rfl, rfl⟩)
              first | refine RestK.skip rfl ?_ | (apply RestK.go; exact rfl; exact rfl; intro E; (refine AOps.load rfl rfl rfl rfl rfl rfl ?_); exact AOps.nil ⟨rfl, rfl⟩)
              first | refine RestK.skip rfl ?_ | (apply RestK.go; exact rfl; exact rfl; intro E; (refine AOps.load rfl rfl rfl rfl rfl rfl ?_); exact AOps.nil ⟨rfl, rfl⟩)
              exact RestK.nil
              refine RestI.skip rfl ?_
              apply RestI.cons; exact rfl; exact rfl
              first | refine RestK.skip rfl ?_ | (apply RestK.go; exact rfl; exact rfl; intro E; (refine S.idxO ha64 rfl rfl rfl rfl rfl ?_); exact AOps.nil ⟨rfl, rfl⟩)
              first | refine RestK.skip rfl ?_ | (apply RestK.go; exact rfl; exact rfl; intro E; (refine S.idxO ha64 rfl rfl rfl rfl rfl ?_); exact AOps.nil ⟨rfl, rfl⟩)
              first | refine RestK.skip rfl ?_ | (apply RestK.go; exact rfl; exact rfl; intro E; (refine S.idxO ha64 rfl rfl rfl rfl rfl ?_); exact AOps.nil ⟨rfl, rfl⟩)
              first | refine RestK.skip rfl ?_ | (apply RestK.go; exact rfl; exact rfl; intro E; (refine S.idxO ha64 rfl rfl rfl rfl rfl ?_); exact AOps.nil ⟨rfl, rfl⟩)
              exact RestK.nil
              apply RestI.cons; exact rfl; exact rfl
              first | refine RestK.skip rfl ?_ | (apply RestK.go; exact rfl; exact rfl; intro E; (refine W.fieldAddr rfl rfl rfl rfl ?_); exact AOps.nil ⟨rfl, rfl⟩)
              first | refine RestK.skip rfl ?_ | (apply RestK.go; exact rfl; exact rfl; intro E; (refine W.fieldAddr rfl rfl rfl rfl ?_); exact AOps.nil ⟨rfl, rfl⟩)
              first | refine RestK.skip rfl ?_ | (apply RestK.go; exact rfl; exact rfl; intro E; (refine W.fieldAddr rfl rfl rfl rfl ?_); exact AOps.nil ⟨rfl, rfl⟩)
              first | refine RestK.skip rfl ?_ | (apply RestK.go; exact rfl; exact rfl; intro E; (refine W.fieldAddr rfl rfl rfl rfl ?_); exact AOps.nil ⟨rfl, rfl⟩)
              exact RestK.nil
              refine RestI.skip rfl ?_
              exact RestI.nil
            dsimp only [envEnd]
            refine inB_normal ?_
            have ej := Option.some.inj hx8
            subst ej
            refine thn_normal ?_
            exact Sub.cut ⟨rfl, rfl, (own_len (by first | rfl | simp only [List.length_set])), rfl, trivial⟩ rfl ⟨.one rfl, .vec, trivial⟩ rfl
      · refine AWP.region ?_
        refine AOps.move rfl rfl ?_
        refine S.sub rfl rfl rfl ?_
        refine AOps.assign rfl rfl ?_
        refine AOps.nil ?_
        have ej := Option.some.inj h
        subst ej
        refine thn_normal ⟨_, rfl, ?_⟩
        exact Sub.env ⟨rfl, rfl, rfl, rfl, trivial⟩
    · refine AWP.exit ?_
      refine thn_exit ?_
      have ej := Option.some.inj h
      subst ej
      refine thn_exit ⟨_, rfl, rfl, ?_⟩
      exact Sub.cut ⟨rfl, trivial⟩ rfl ⟨.dead, .vec, trivial⟩ rfl
  · intro e s hq
    obtain ⟨rfl, hs⟩ := hq
    refine ⟨_, hs, ?_⟩
    refine inB_exit ?_
    refine thn_normal ?_
    refine AWP.seq ?_
    refine AWP.region ?_
    refine AOps.move rfl rfl ?_
    refine AOps.assign rfl rfl ?_
    refine AOps.nil ?_
    refine thn_normal ?_
    refine AWP.ret ?_
    have ej := Option.some.inj h
    subst ej
    exact Done.ret rfl (Fresh.mk rfl rfl)

theorem monitor_Conditions_ok {t : TTask} {plan : List Int} {r : (List (List Int)) × (List Bool) × TFault} (h : monitor_Conditions t plan = some r) : PureOk Try.prog 8 [.agg [int t.facts, row 1 intI t.init, row 1 intI t.goal, row 4 eTOperator t.operators], .c (row 1 intI plan)] (.tup [.c (row 1 eLi64 r.1), .c (row 1 eBool r.2.1), .agg [int r.2.2.code, int r.2.2.index]]) := by
  unfold PureOk
  refine FnOk.enter (rs := [.t 4, .t 5, .cell 6 29 2]) Try.func8 rfl Try.ntmps8 Try.results8 rfl ⟨trivial, trivial, rv _ rfl, trivial⟩ (by kernel_rfl) rfl ?_
  unfold monitor_Conditions at h
  refine AWP.seq ?_
  refine AWP.region ?_
  refine W.box rfl rfl rfl rfl rfl rfl ?_
  refine AOps.assign rfl rfl ?_
  refine AOps.assign rfl rfl ?_
  refine W.alloc rfl rfl rfl rfl ?_
  refine AOps.nil ?_
  refine thn_normal ?_
  refine AWP.seq ?_
  refine AWP.seq ?_
  obtain ⟨a14, ha14, h⟩ := bind_some h
  refine AWP.region ?_
  refine W.loadAgg rfl rfl rfl rfl rfl rfl rfl ?_
  refine AOps.move rfl rfl ?_
  refine AOps.callR rfl rfl rfl rfl (strips_PlanFault_ok ha14) rfl ?_
  refine W.alloc rfl rfl rfl rfl ?_
  refine W.storeAgg rfl rfl rfl rfl rfl rfl rfl ?_
  refine AOps.nil ?_
  refine thn_normal ?_
  refine AWP.seq ?_
  refine AWP.region ?_
  refine W.loadAgg rfl rfl rfl rfl rfl rfl rfl ?_
  refine W.build rfl rfl rfl rfl ?_
  refine AOps.neqP rfl rfl rfl rfl rfl rfl rfl ?_
  refine AOps.nil ?_
  refine thn_normal ?_
  refine AWP.iteB rfl h (fun hc3 h => ?_) (fun hc3 h => ?_)
  · refine AWP.seq ?_
    refine AWP.drawEI [3] mixed rfl rfl rfl ?_
    apply DrawSeqE.consN; exact rfl; exact rfl; intro E
    refine W.loadAgg rfl rfl rfl rfl rfl rfl rfl ?_
    exact AOps.nil ⟨rfl, rfl⟩
    exact rfl
    apply DrawSeqE.consN; exact rfl; exact rfl; intro E
    refine AOps.assign rfl rfl ?_
    exact AOps.nil ⟨rfl, rfl⟩
    exact rfl
    apply DrawSeqE.consN; exact rfl; exact rfl; intro E
    refine AOps.assign rfl rfl ?_
    exact AOps.nil ⟨rfl, rfl⟩
    exact rfl
    apply DrawSeqE.consE (v := .undef); exact rfl; exact rfl; intro E
    refine W.storeAgg rfl rfl rfl rfl rfl rfl rfl ?_
    exact AOps.nil ⟨rfl, rfl⟩
    exact rfl
    exact rfl
    refine DrawSeqE.done rfl ?_ ?_
    · apply RestI.cons; exact rfl; exact rfl
      first | refine RestK.skip rfl ?_ | (apply RestK.go; exact rfl; exact rfl; intro E; (refine W.loadAgg rfl rfl rfl rfl rfl rfl rfl ?_); exact AOps.nil ⟨rfl, rfl⟩)
      first | refine RestK.skip rfl ?_ | (apply RestK.go; exact rfl; exact rfl; intro E; (refine W.loadAgg rfl rfl rfl rfl rfl rfl rfl ?_); exact AOps.nil ⟨rfl, rfl⟩)
      exact RestK.nil
      apply RestI.cons; exact rfl; exact rfl
      first | refine RestK.skip rfl ?_ | (apply RestK.go; exact rfl; exact rfl; intro E; (refine AOps.assign rfl rfl ?_); exact AOps.nil ⟨rfl, rfl⟩)
      first | refine RestK.skip rfl ?_ | (apply RestK.go; exact rfl; exact rfl; intro E; (refine AOps.assign rfl rfl ?_); exact AOps.nil ⟨rfl, rfl⟩)
      exact RestK.nil
      apply RestI.cons; exact rfl; exact rfl
      first | refine RestK.skip rfl ?_ | (apply RestK.go; exact rfl; exact rfl; intro E; (refine AOps.assign rfl rfl ?_); exact AOps.nil ⟨rfl, rfl⟩)
      first | refine RestK.skip rfl ?_ | (apply RestK.go; exact rfl; exact rfl; intro E; (refine AOps.assign rfl rfl ?_); exact AOps.nil ⟨rfl, rfl⟩)
      exact RestK.nil
      refine RestI.skip rfl ?_
      exact RestI.nil
    dsimp only [envEnd]
    refine thn_normal ?_
    refine AWP.nilrow 1 4 rfl ?_
    refine AWP.nilrow 1 5 rfl ?_
    refine AWP.ret ?_
    refine thn_ret ?_
    have ej := Option.some.inj h
    subst ej
    exact Done.ret rfl rfl
  · refine AWP.skip ?_
    refine thn_normal ?_
    refine AWP.seq ?_
    refine AWP.region ?_
    refine AOps.assign rfl rfl ?_
    refine AOps.nil ?_
    refine thn_normal ?_
    refine AWP.seq ?_
    refine AWP.region ?_
    refine AOps.assign rfl rfl ?_
    refine AOps.nil ?_
    refine thn_normal ?_
    refine AWP.seq ?_
    refine AWP.seq ?_
    obtain ⟨a21, ha21, h⟩ := bind_some h
    refine AWP.region ?_
    refine W.loadAgg rfl rfl rfl rfl rfl rfl rfl ?_
    refine AOps.move rfl rfl ?_
    refine S.fresh rfl rfl rfl rfl (monitor_needs_ok ha21) rfl rfl ?_
    refine S.lenO rfl rfl rfl (fun hl22 => ?_)
    refine AOps.move rfl rfl ?_
    refine AOps.nil ?_
    refine thn_normal ?_
    refine AWP.block ?_
    refine AWP.virtV 1 eLi64 8 rfl rfl rfl ?_
    refine AWP.virtV 1 eBool 9 rfl rfl rfl ?_
    obtain ⟨⟨c4, c5⟩, ho1, h⟩ := bind_some h
    try dsimp only at h
    refine AWP.forS ho1 (fun t6 (c4, c5) => ⟨[(6, .c (.ptr 1 0 0)), (8, .c (.own 4 0 c4.length)), (9, .c (.own 5 0 c5.length)), (21, .c (.own 3 0 a21.length)), (22, .c (int (a21.length : Int))), (23, .c (int t6))], [.dead, .one (.cells 2 [[int 0, int 0]]), .dead, .one (vec 2 eTmonitor_need a21), .one (vec 1 eLi64 c4), .one (vec 1 eBool c5)]⟩) (fun (c4, c5) e st => e = .exit 0 ∧ Sub [] st ⟨[(6, .c (.ptr 1 0 0)), (8, .c (.own 4 0 c4.length)), (9, .c (.own 5 0 c5.length))], [.dead, .one (.cells 2 [[int 0, int 0]]), .dead, .one (vec 2 eTmonitor_need a21), .one (vec 1 eLi64 c4), .one (vec 1 eBool c5)]⟩) ?_ ?_ ?_ ?_
    · try dsimp only
      exact Sub.cut ⟨rfl, (own_len (by first | rfl | simp only [List.length_set])), (own_len (by first | rfl | simp only [List.length_set])), rfl, rfl, rfl, trivial⟩ rfl ⟨.dead, .one rfl, .dead, .vec, .vec, .vec, trivial⟩ rfl
    · intro t6 s hlot6 hltt6 _
      obtain ⟨c4, c5⟩ := s
      try dsimp only
      refine AWP.seq ?_
      refine AWP.region ?_
      refine AOps.lss rfl rfl rfl ?_
      refine AOps.nil ?_
      refine thn_normal ?_
      refine AWP.seq ?_
      refine AWP.condNP rfl hltt6 ?_
      refine AWP.exit ?_
      refine thn_exit ?_
      refine thn_exit ⟨rfl, ?_⟩
      exact Sub.env ⟨rfl, rfl, rfl, trivial⟩
    · intro t6 s o hlot6 hltt6 h
      obtain ⟨c4, c5⟩ := s
      unfold monitor_Conditions_l1 at h
      try dsimp only at h ⊢
      refine AWP.seq ?_
      refine AWP.region ?_
      refine AOps.lss rfl rfl rfl ?_
      refine AOps.nil ?_
      refine thn_normal ?_
      refine AWP.seq ?_
      refine AWP.condP rfl hltt6 ?_
      refine AWP.skip ?_
      refine thn_normal ?_
      refine AWP.seq ?_
      refine AWP.block ?_
      refine AWP.seq ?_
      obtain ⟨a25, ha25, h⟩ := bind_some h
      refine AWP.region ?_
      refine S.idxO ha25 rfl rfl rfl rfl rfl ?_
      refine S.loadOAgg ha25 rfl rfl rfl rfl rfl rfl rfl ?_
      refine W.alloc rfl rfl rfl rfl ?_
      refine W.storeAgg rfl rfl rfl rfl rfl rfl rfl ?_
      refine AOps.nil ?_
      refine thn_normal ?_
      refine AWP.seq ?_
      obtain ⟨a31, ha31, h⟩ := bind_some h
      refine AWP.region ?_
      refine AOps.move rfl rfl ?_
      refine W.fieldAddr rfl rfl rfl rfl ?_
      refine AOps.load rfl rfl rfl rfl rfl rfl ?_
      refine S.lit (f := eLi64) (l := [a25.facts]) (ess := [[row 1 intI a25.facts]]) rfl rfl rfl rfl rfl rfl rfl ⟨⟨.inl rfl, trivial⟩, trivial⟩ rfl rfl rfl ?_
      refine S.append (f := eLi64) ha31 rfl rfl rfl rfl rfl rfl (.own rfl rfl) rfl rfl rfl rfl ?_
      refine AOps.assign rfl rfl ?_
      refine AOps.nil ?_
      refine thn_normal ?_
      refine AWP.move (env' := [(6, .c (.ptr 1 0 0)), (8, .c (.own 4 0 a31.length)), (9, .c (.own 5 0 c5.length)), (11, .c (.ptr 6 0 0)), (21, .c (.own 3 0 a21.length)), (22, .c (int (a21.length : Int))), (23, .c (int t6))]) (σ' := [.dead, .one (.cells 2 [[int 0, int 0]]), .dead, .one (vec 2 eTmonitor_need a21), .one (vec 1 eLi64 a31), .one (vec 1 eBool c5), .one (.cells 2 [[row 1 intI a25.facts, bool a25.never]]), .one (vec 1 eLi64 [a25.facts])]) 4 8 rfl rfl rfl ⟨rfl, rfl, rfl, rfl, rfl, rfl, rfl, trivial⟩ rfl ⟨trivial, ⟨rfl, rfl⟩, trivial, ⟨Blk.im_ok _ _ _, vec_mv rfl⟩, ⟨Blk.im_ok _ _ _, vec_mv rfl⟩, ⟨Blk.im_ok _ _ _, vec_mv rfl⟩, ⟨rfl, rfl⟩, ⟨Blk.im_ok _ _ _, vec_mv rfl⟩, trivial⟩ ?_
      obtain ⟨a37, ha37, h⟩ := bind_some h
      refine AWP.region ?_
      refine AOps.move rfl rfl ?_
      refine W.fieldAddr rfl rfl rfl rfl ?_
      refine AOps.load rfl rfl rfl rfl rfl rfl ?_
      refine AOps.not rfl rfl ?_
      refine S.lit (f := eBool) (l := [!a25.never]) (ess := [[bool (!a25.never)]]) rfl rfl rfl rfl rfl rfl rfl ⟨⟨.inl rfl, trivial⟩, trivial⟩ rfl rfl rfl ?_
      refine S.append (f := eBool) ha37 rfl rfl rfl rfl rfl rfl (.own rfl rfl) rfl rfl rfl rfl ?_
      refine AOps.assign rfl rfl ?_
      refine AOps.nil ?_
      refine inB_normal ?_
      refine thn_normal ?_
      refine AWP.move (env' := [(6, .c (.ptr 1 0 0)), (8, .c (.own 4 0 a31.length)), (9, .c (.own 5 0 a37.length)), (21, .c (.own 3 0 a21.length)), (22, .c (int (a21.length : Int))), (23, .c (int t6))]) (σ' := [.dead, .one (.cells 2 [[int 0, int 0]]), .dead, .one (vec 2 eTmonitor_need a21), .one (vec 1 eLi64 a31), .one (vec 1 eBool a37), .one (.cells 2 [[row 1 intI a25.facts, bool a25.never]]), .one (vec 1 eLi64 [a25.facts]), .one (vec 1 eBool [!a25.never])]) 5 9 rfl rfl rfl ⟨rfl, rfl, rfl, rfl, rfl, rfl, trivial⟩ rfl ⟨trivial, ⟨rfl, rfl⟩, trivial, ⟨Blk.im_ok _ _ _, vec_mv rfl⟩, ⟨Blk.im_ok _ _ _, vec_mv rfl⟩, ⟨Blk.im_ok _ _ _, vec_mv rfl⟩, ⟨rfl, rfl⟩, ⟨Blk.im_ok _ _ _, vec_mv rfl⟩, ⟨Blk.im_ok _ _ _, vec_mv rfl⟩, trivial⟩ ?_
      refine AWP.region ?_
      refine AOps.add rfl rfl rfl (by omega) ?_
      refine AOps.move rfl rfl ?_
      refine AOps.nil ?_
      have ej := Option.some.inj h
      subst ej
      refine thn_normal ?_
      exact Sub.cut ⟨rfl, rfl, rfl, rfl, rfl, rfl, trivial⟩ rfl ⟨.dead, .one rfl, .dead, .vec, .vec, .vec, trivial⟩ rfl
    · intro e s hq
      obtain ⟨rfl, hs⟩ := hq
      refine ⟨_, hs, ?_⟩
      refine inB_exit ?_
      refine thn_normal ?_
      refine AWP.seq ?_
      refine AWP.region ?_
      refine AOps.move rfl rfl ?_
      refine AOps.move rfl rfl ?_
      refine W.build rfl rfl rfl rfl ?_
      refine AOps.assign rfl rfl ?_
      refine AOps.assign rfl rfl ?_
      refine W.storeAgg rfl rfl rfl rfl rfl rfl rfl ?_
      refine AOps.nil ?_
      refine thn_normal ?_
      refine AWP.frzV (id := 4) (l := c4) (env2 := [(4, .c (row 1 eLi64 c4)), (5, .c (.own 5 0 c5.length)), (6, .c (.ptr 1 0 0))]) (σ2 := [.dead, .one (.cells 2 [[int 0, int 0]]), .dead, .one (vec 2 eTmonitor_need a21), .dead, .one (vec 1 eBool c5)]) rfl rfl (by exact ⟨⟨_, rfl, .inr ⟨_, rfl, rfl, rfl⟩⟩, ⟨_, rfl, .inl ⟨rfl, rfl⟩⟩, ⟨_, rfl, .inl ⟨rfl, rfl⟩⟩, trivial⟩) rfl (by exact ⟨trivial, ⟨rfl, .inl ⟨rfl, rfl⟩, .inl ⟨rfl, rfl⟩, trivial⟩, trivial, FrzB.vec, trivial, FrzB.vec, trivial⟩) ?_
      refine AWP.frzV (id := 5) (l := c5) (env2 := [(4, .c (row 1 eLi64 c4)), (5, .c (row 1 eBool c5)), (6, .c (.ptr 1 0 0))]) (σ2 := [.dead, .one (.cells 2 [[int 0, int 0]]), .dead, .one (vec 2 eTmonitor_need a21), .dead, .dead]) rfl rfl (by exact ⟨⟨_, rfl, .inl ⟨rfl, rfl⟩⟩, ⟨_, rfl, .inr ⟨_, rfl, rfl, rfl⟩⟩, ⟨_, rfl, .inl ⟨rfl, rfl⟩⟩, trivial⟩) rfl (by exact ⟨trivial, ⟨rfl, .inl ⟨rfl, rfl⟩, .inl ⟨rfl, rfl⟩, trivial⟩, trivial, FrzB.vec, trivial, trivial, trivial⟩) ?_
      refine AWP.ret ?_
      have ej := Option.some.inj h
      subst ej
      exact Done.ret rfl rfl

theorem ref1_In_ok {nv : Int} {low : Int} {high : Int} {r : Bool} (h : ref1_In nv low high = some r) : PureOk Try.prog 10 [.c (int nv), .c (int low), .c (int high)] (.c (bool r)) := by
  unfold PureOk
  refine FnOk.enter (rs := [.t 6]) Try.func10 rfl Try.ntmps10 Try.results10 rfl ⟨trivial, trivial⟩ (by kernel_rfl) rfl ?_
  unfold ref1_In at h
  refine AWP.seq ?_
  refine AWP.region ?_
  refine AOps.assign rfl rfl ?_
  refine AOps.nil ?_
  refine thn_normal ?_
  refine AWP.seqJ (⟨[(6, .c (bool ((decide (low ≤ nv)) && (decide (nv ≤ high)))))], []⟩) ?_ ?_
  · rcases Bool.eq_false_or_eq_true (decide (low ≤ nv)) with hb1 | hb1
    · refine AWP.region ?_
      refine AOps.move rfl rfl ?_
      refine AOps.move rfl rfl ?_
      refine AOps.geq rfl rfl rfl ?_
      refine AOps.move rfl rfl ?_
      refine AOps.guardT rfl rfl rfl hb1 ?_; refine AOps.move rfl rfl ?_
      refine AOps.guardT rfl rfl rfl hb1 ?_; refine AOps.move rfl rfl ?_
      refine AOps.guardT rfl rfl rfl hb1 ?_; refine AOps.leq rfl rfl rfl ?_
      refine AOps.pickT rfl hb1 rfl rfl ?_
      refine AOps.assign rfl rfl ?_
      refine AOps.nil ?_
      refine thn_normal ?_
      simp only [and_t hb1, or_t hb1, Bool.false_or, Bool.true_or, Bool.false_and, Bool.true_and]
      exact Sub.env ⟨rfl, trivial⟩
    · refine AWP.region ?_
      refine AOps.move rfl rfl ?_
      refine AOps.move rfl rfl ?_
      refine AOps.geq rfl rfl rfl ?_
      refine AOps.move rfl rfl ?_
      refine AOps.guardF rfl rfl rfl hb1 ?_
      refine AOps.guardF rfl rfl rfl hb1 ?_
      refine AOps.guardF rfl rfl rfl hb1 ?_
      refine AOps.pickF rfl hb1 rfl rfl ?_
      refine AOps.assign rfl rfl ?_
      refine AOps.nil ?_
      refine thn_normal ?_
      simp only [and_f hb1, or_f hb1, Bool.false_or, Bool.true_or, Bool.false_and, Bool.true_and]
      exact Sub.env ⟨rfl, trivial⟩
  · refine AWP.ret ?_
    have ej := Option.some.inj h
    subst ej
    exact Done.ret rfl rfl

theorem ref1_IsSet_ok {l : List Int} {nv : Int} {r : Bool} (h : ref1_IsSet l nv = some r) : PureOk Try.prog 26 [.c (row 1 intI l), .c (int nv)] (.c (bool r)) := by
  unfold PureOk
  refine FnOk.enter (rs := [.t 4]) Try.func26 rfl Try.ntmps26 Try.results26 rfl ⟨trivial, trivial⟩ (by kernel_rfl) rfl ?_
  unfold ref1_IsSet at h
  refine AWP.seq ?_
  refine AWP.region ?_
  refine AOps.assign rfl rfl ?_
  refine AOps.nil ?_
  refine thn_normal ?_
  refine AWP.seq ?_
  refine AWP.seq ?_
  refine AWP.region ?_
  refine AOps.assign rfl rfl ?_
  refine AOps.nil ?_
  refine thn_normal ?_
  refine AWP.block ?_
  obtain ⟨oo, ho1, h⟩ := bind_some h
  refine AWP.rngS ho1 (fun iv3 _ => ⟨[(0, .c (row 1 intI l)), (1, .c (int nv)), (5, .c (int iv3))], []⟩) (fun o e st => match o with | .inl _ => e = .exit 0 ∧ Sub [] st ⟨[], []⟩ | .inr x => e = .ret ∧ Done [.t 4] (fun t _ => t = .c (bool x)) .ret st) ?_ ?_ ?_ ?_
  · try dsimp only
    exact Sub.env ⟨rfl, rfl, rfl, trivial⟩
  · intro iv3 s hloiv3 hltiv3 _
    try dsimp only
    refine AWP.seq ?_
    refine AWP.seq ?_
    refine AWP.region ?_
    refine AOps.move rfl rfl ?_
    refine AOps.move rfl rfl ?_
    refine S.len rfl rfl (fun hl8 => ?_)
    refine AOps.lss rfl rfl rfl ?_
    refine AOps.nil ?_
    refine thn_normal ?_
    refine AWP.condNP rfl hltiv3 ?_
    refine AWP.exit ?_
    refine thn_exit ?_
    refine thn_exit ⟨rfl, ?_⟩
    exact Sub.env trivial
  · intro iv3 s o hloiv3 hltiv3 h
    unfold ref1_IsSet_l1 at h
    try dsimp only at h ⊢
    refine AWP.seq ?_
    refine AWP.seq ?_
    refine AWP.region ?_
    refine AOps.move rfl rfl ?_
    refine AOps.move rfl rfl ?_
    refine S.len rfl rfl (fun hl8 => ?_)
    refine AOps.lss rfl rfl rfl ?_
    refine AOps.nil ?_
    refine thn_normal ?_
    refine AWP.condP rfl hltiv3 ?_
    refine AWP.skip ?_
    refine thn_normal ?_
    refine AWP.seq ?_
    refine AWP.block ?_
    obtain ⟨t4, hx5, h⟩ := bind_some h
    refine AWP.seqJ (⟨[(0, .c (row 1 intI l)), (1, .c (int nv)), (5, .c (int iv3)), (35, .c (bool t4))], []⟩) ?_ ?_
    · obtain ⟨a14, ha14, hx5⟩ := bind_some hx5
      obtain ⟨a18, ha18, hx5⟩ := bind_some hx5
      rcases Bool.eq_false_or_eq_true (!a18) with hb6 | hb6
      · replace hx5 := iteBT hb6 hx5
        refine AWP.drawI mixed rfl ?_
        apply DrawSeq.consF; exact rfl; intro E
        refine AOps.move rfl rfl ?_
        exact AOps.nil ⟨rfl, rfl⟩
        exact rfl
        apply DrawSeq.consF; exact rfl; intro E
        refine AOps.move rfl rfl ?_
        exact AOps.nil ⟨rfl, rfl⟩
        exact rfl
        apply DrawSeq.consF; exact rfl; intro E
        refine S.idx ha14 rfl rfl rfl rfl ?_
        exact AOps.nil ⟨rfl, rfl⟩
        exact rfl
        apply DrawSeq.consF; exact rfl; intro E
        refine AOps.loadI rfl rfl rfl rfl ?_
        exact AOps.nil ⟨rfl, rfl⟩
        exact rfl
        apply DrawSeq.consF; exact rfl; intro E
        refine AOps.move rfl rfl ?_
        exact AOps.nil ⟨rfl, rfl⟩
        exact rfl
        apply DrawSeq.consF; exact rfl; intro E
        refine S.sub rfl rfl rfl ?_
        exact AOps.nil ⟨rfl, rfl⟩
        exact rfl
        apply DrawSeq.consF; exact rfl; intro E
        refine AOps.callR rfl rfl rfl rfl (ref1_In_ok ha18) rfl ?_
        exact AOps.nil ⟨rfl, rfl⟩
        exact rfl
        apply DrawSeq.consF; exact rfl; intro E
        refine AOps.not rfl rfl ?_
        exact AOps.nil ⟨rfl, rfl⟩
        exact rfl
        apply DrawSeq.consF; exact rfl; intro E
        refine AOps.move rfl rfl ?_
        exact AOps.nil ⟨rfl, rfl⟩
        exact rfl
        apply DrawSeq.consF; exact rfl; intro E
        refine AOps.guardF rfl rfl rfl hb6 ?_
        exact AOps.nil ⟨rfl, rfl⟩
        exact rfl
        apply DrawSeq.consF; exact rfl; intro E
        refine AOps.guardF rfl rfl rfl hb6 ?_
        exact AOps.nil ⟨rfl, rfl⟩
        exact rfl
        apply DrawSeq.consF; exact rfl; intro E
        refine AOps.guardF rfl rfl rfl hb6 ?_
        exact AOps.nil ⟨rfl, rfl⟩
        exact rfl
        apply DrawSeq.consF; exact rfl; intro E
        refine AOps.guardSkip rfl rfl rfl ?_
        exact AOps.nil ⟨rfl, rfl⟩
        exact rfl
        apply DrawSeq.consF; exact rfl; intro E
        refine AOps.guardSkip rfl rfl rfl ?_
        exact AOps.nil ⟨rfl, rfl⟩
        exact rfl
        apply DrawSeq.consF; exact rfl; intro E
        refine AOps.guardSkip rfl rfl rfl ?_
        exact AOps.nil ⟨rfl, rfl⟩
        exact rfl
        apply DrawSeq.consF; exact rfl; intro E
        refine AOps.guardSkip rfl rfl rfl ?_
        exact AOps.nil ⟨rfl, rfl⟩
        exact rfl
        apply DrawSeq.consF; exact rfl; intro E
        refine AOps.guardSkip rfl rfl rfl ?_
        exact AOps.nil ⟨rfl, rfl⟩
        exact rfl
        apply DrawSeq.consF; exact rfl; intro E
        refine AOps.guardSkip rfl rfl rfl ?_
        exact AOps.nil ⟨rfl, rfl⟩
        exact rfl
        apply DrawSeq.consF; exact rfl; intro E
        refine AOps.guardSkip rfl rfl rfl ?_
        exact AOps.nil ⟨rfl, rfl⟩
        exact rfl
        apply DrawSeq.consF; exact rfl; intro E
        refine AOps.guardSkip rfl rfl rfl ?_
        exact AOps.nil ⟨rfl, rfl⟩
        exact rfl
        apply DrawSeq.consF; exact rfl; intro E
        refine AOps.guardSkip rfl rfl rfl ?_
        exact AOps.nil ⟨rfl, rfl⟩
        exact rfl
        apply DrawSeq.consF; exact rfl; intro E
        refine AOps.guardSkip rfl rfl rfl ?_
        exact AOps.nil ⟨rfl, rfl⟩
        exact rfl
        apply DrawSeq.consF; exact rfl; intro E
        refine AOps.guardF rfl rfl rfl hb6 ?_
        exact AOps.nil ⟨rfl, rfl⟩
        exact rfl
        apply DrawSeq.consF; exact rfl; intro E
        refine AOps.pickT rfl hb6 rfl rfl ?_
        exact AOps.nil ⟨rfl, rfl⟩
        exact rfl
        refine DrawSeq.done ?_
        dsimp only [envEnd]
        have ej := Option.some.inj hx5
        subst ej
        refine thn_normal ?_
        exact Sub.env ⟨rfl, rfl, rfl, rfl, trivial⟩
      · replace hx5 := iteBF hb6 hx5
        rcases Bool.eq_false_or_eq_true (decide (0 < iv3)) with hb7 | hb7
        · replace hx5 := iteDT hb7 hx5
          obtain ⟨a26, ha26, hx5⟩ := bind_some hx5
          obtain ⟨a31, ha31, hx5⟩ := bind_some hx5
          refine AWP.drawI mixed rfl ?_
          apply DrawSeq.consF; exact rfl; intro E
          refine AOps.move rfl rfl ?_
          exact AOps.nil ⟨rfl, rfl⟩
          exact rfl
          apply DrawSeq.consF; exact rfl; intro E
          refine AOps.move rfl rfl ?_
          exact AOps.nil ⟨rfl, rfl⟩
          exact rfl
          apply DrawSeq.consF; exact rfl; intro E
          refine S.idx ha14 rfl rfl rfl rfl ?_
          exact AOps.nil ⟨rfl, rfl⟩
          exact rfl
          apply DrawSeq.consF; exact rfl; intro E
          refine AOps.loadI rfl rfl rfl rfl ?_
          exact AOps.nil ⟨rfl, rfl⟩
          exact rfl
          apply DrawSeq.consF; exact rfl; intro E
          refine AOps.move rfl rfl ?_
          exact AOps.nil ⟨rfl, rfl⟩
          exact rfl
          apply DrawSeq.consF; exact rfl; intro E
          refine S.sub rfl rfl rfl ?_
          exact AOps.nil ⟨rfl, rfl⟩
          exact rfl
          apply DrawSeq.consF; exact rfl; intro E
          refine AOps.callR rfl rfl rfl rfl (ref1_In_ok ha18) rfl ?_
          exact AOps.nil ⟨rfl, rfl⟩
          exact rfl
          apply DrawSeq.consF; exact rfl; intro E
          refine AOps.not rfl rfl ?_
          exact AOps.nil ⟨rfl, rfl⟩
          exact rfl
          apply DrawSeq.consF; exact rfl; intro E
          refine AOps.move rfl rfl ?_
          exact AOps.nil ⟨rfl, rfl⟩
          exact rfl
          apply DrawSeq.consF; exact rfl; intro E
          refine AOps.guardT rfl rfl rfl hb6 ?_; refine AOps.move rfl rfl ?_
          exact AOps.nil ⟨rfl, rfl⟩
          exact rfl
          apply DrawSeq.consF; exact rfl; intro E
          refine AOps.guardT rfl rfl rfl hb6 ?_; refine AOps.gtr rfl rfl rfl ?_
          exact AOps.nil ⟨rfl, rfl⟩
          exact rfl
          apply DrawSeq.consF; exact rfl; intro E
          refine AOps.guardT rfl rfl rfl hb6 ?_; refine AOps.move rfl rfl ?_
          exact AOps.nil ⟨rfl, rfl⟩
          exact rfl
          apply DrawSeq.consF; exact rfl; intro E
          refine AOps.guardT rfl rfl rfl hb7 ?_; refine AOps.move rfl rfl ?_
          exact AOps.nil ⟨rfl, rfl⟩
          exact rfl
          apply DrawSeq.consF; exact rfl; intro E
          refine AOps.guardT rfl rfl rfl hb7 ?_; refine AOps.move rfl rfl ?_
          exact AOps.nil ⟨rfl, rfl⟩
          exact rfl
          apply DrawSeq.consF; exact rfl; intro E
          refine AOps.guardT rfl rfl rfl hb7 ?_; refine S.idx ha26 rfl rfl rfl rfl ?_
          exact AOps.nil ⟨rfl, rfl⟩
          exact rfl
          apply DrawSeq.consF; exact rfl; intro E
          refine AOps.guardT rfl rfl rfl hb7 ?_; refine AOps.loadI rfl rfl rfl rfl ?_
          exact AOps.nil ⟨rfl, rfl⟩
          exact rfl
          apply DrawSeq.consF; exact rfl; intro E
          refine AOps.guardT rfl rfl rfl hb7 ?_; refine AOps.move rfl rfl ?_
          exact AOps.nil ⟨rfl, rfl⟩
          exact rfl
          apply DrawSeq.consF; exact rfl; intro E
          refine AOps.guardT rfl rfl rfl hb7 ?_; refine AOps.move rfl rfl ?_
          exact AOps.nil ⟨rfl, rfl⟩
          exact rfl
          apply DrawSeq.consF; exact rfl; intro E
          refine AOps.guardT rfl rfl rfl hb7 ?_; refine AOps.sub' rfl rfl rfl (by omega) ?_
          exact AOps.nil ⟨rfl, rfl⟩
          exact rfl
          apply DrawSeq.consF; exact rfl; intro E
          refine AOps.guardT rfl rfl rfl hb7 ?_; refine S.idx ha31 rfl rfl rfl rfl ?_
          exact AOps.nil ⟨rfl, rfl⟩
          exact rfl
          apply DrawSeq.consF; exact rfl; intro E
          refine AOps.guardT rfl rfl rfl hb7 ?_; refine AOps.loadI rfl rfl rfl rfl ?_
          exact AOps.nil ⟨rfl, rfl⟩
          exact rfl
          apply DrawSeq.consF; exact rfl; intro E
          refine AOps.guardT rfl rfl rfl hb7 ?_; refine AOps.leq rfl rfl rfl ?_
          exact AOps.nil ⟨rfl, rfl⟩
          exact rfl
          apply DrawSeq.consF; exact rfl; intro E
          refine AOps.guardT rfl rfl rfl hb6 ?_; refine AOps.pickT rfl hb7 rfl rfl ?_
          exact AOps.nil ⟨rfl, rfl⟩
          exact rfl
          apply DrawSeq.consF; exact rfl; intro E
          refine AOps.pickF rfl hb6 rfl rfl ?_
          exact AOps.nil ⟨rfl, rfl⟩
          exact rfl
          refine DrawSeq.done ?_
          dsimp only [envEnd]
          have ej := Option.some.inj hx5
          subst ej
          refine thn_normal ?_
          exact Sub.env ⟨rfl, rfl, rfl, rfl, trivial⟩
        · replace hx5 := iteDF hb7 hx5
          refine AWP.drawI mixed rfl ?_
          apply DrawSeq.consF; exact rfl; intro E
          refine AOps.move rfl rfl ?_
          exact AOps.nil ⟨rfl, rfl⟩
          exact rfl
          apply DrawSeq.consF; exact rfl; intro E
          refine AOps.move rfl rfl ?_
          exact AOps.nil ⟨rfl, rfl⟩
          exact rfl
          apply DrawSeq.consF; exact rfl; intro E
          refine S.idx ha14 rfl rfl rfl rfl ?_
          exact AOps.nil ⟨rfl, rfl⟩
          exact rfl
          apply DrawSeq.consF; exact rfl; intro E
          refine AOps.loadI rfl rfl rfl rfl ?_
          exact AOps.nil ⟨rfl, rfl⟩
          exact rfl
          apply DrawSeq.consF; exact rfl; intro E
          refine AOps.move rfl rfl ?_
          exact AOps.nil ⟨rfl, rfl⟩
          exact rfl
          apply DrawSeq.consF; exact rfl; intro E
          refine S.sub rfl rfl rfl ?_
          exact AOps.nil ⟨rfl, rfl⟩
          exact rfl
          apply DrawSeq.consF; exact rfl; intro E
          refine AOps.callR rfl rfl rfl rfl (ref1_In_ok ha18) rfl ?_
          exact AOps.nil ⟨rfl, rfl⟩
          exact rfl
          apply DrawSeq.consF; exact rfl; intro E
          refine AOps.not rfl rfl ?_
          exact AOps.nil ⟨rfl, rfl⟩
          exact rfl
          apply DrawSeq.consF; exact rfl; intro E
          refine AOps.move rfl rfl ?_
          exact AOps.nil ⟨rfl, rfl⟩
          exact rfl
          apply DrawSeq.consF; exact rfl; intro E
          refine AOps.guardT rfl rfl rfl hb6 ?_; refine AOps.move rfl rfl ?_
          exact AOps.nil ⟨rfl, rfl⟩
          exact rfl
          apply DrawSeq.consF; exact rfl; intro E
          refine AOps.guardT rfl rfl rfl hb6 ?_; refine AOps.gtr rfl rfl rfl ?_
          exact AOps.nil ⟨rfl, rfl⟩
          exact rfl
          apply DrawSeq.consF; exact rfl; intro E
          refine AOps.guardT rfl rfl rfl hb6 ?_; refine AOps.move rfl rfl ?_
          exact AOps.nil ⟨rfl, rfl⟩
          exact rfl
          apply DrawSeq.consF; exact rfl; intro E
          refine AOps.guardF rfl rfl rfl hb7 ?_
          exact AOps.nil ⟨rfl, rfl⟩
          exact rfl
          apply DrawSeq.consF; exact rfl; intro E
          refine AOps.guardF rfl rfl rfl hb7 ?_
          exact AOps.nil ⟨rfl, rfl⟩
          exact rfl
          apply DrawSeq.consF; exact rfl; intro E
          refine AOps.guardF rfl rfl rfl hb7 ?_
          exact AOps.nil ⟨rfl, rfl⟩
          exact rfl
          apply DrawSeq.consF; exact rfl; intro E
          refine AOps.guardF rfl rfl rfl hb7 ?_
          exact AOps.nil ⟨rfl, rfl⟩
          exact rfl
          apply DrawSeq.consF; exact rfl; intro E
          refine AOps.guardF rfl rfl rfl hb7 ?_
          exact AOps.nil ⟨rfl, rfl⟩
          exact rfl
          apply DrawSeq.consF; exact rfl; intro E
          refine AOps.guardF rfl rfl rfl hb7 ?_
          exact AOps.nil ⟨rfl, rfl⟩
          exact rfl
          apply DrawSeq.consF; exact rfl; intro E
          refine AOps.guardF rfl rfl rfl hb7 ?_
          exact AOps.nil ⟨rfl, rfl⟩
          exact rfl
          apply DrawSeq.consF; exact rfl; intro E
          refine AOps.guardF rfl rfl rfl hb7 ?_
          exact AOps.nil ⟨rfl, rfl⟩
          exact rfl
          apply DrawSeq.consF; exact rfl; intro E
          refine AOps.guardF rfl rfl rfl hb7 ?_
          exact AOps.nil ⟨rfl, rfl⟩
          exact rfl
          apply DrawSeq.consF; exact rfl; intro E
          refine AOps.guardF rfl rfl rfl hb7 ?_
          exact AOps.nil ⟨rfl, rfl⟩
          exact rfl
          apply DrawSeq.consF; exact rfl; intro E
          refine AOps.guardT rfl rfl rfl hb6 ?_; refine AOps.pickF rfl hb7 rfl rfl ?_
          exact AOps.nil ⟨rfl, rfl⟩
          exact rfl
          apply DrawSeq.consF; exact rfl; intro E
          refine AOps.pickF rfl hb6 rfl rfl ?_
          exact AOps.nil ⟨rfl, rfl⟩
          exact rfl
          refine DrawSeq.done ?_
          dsimp only [envEnd]
          have ej := Option.some.inj hx5
          subst ej
          refine thn_normal ?_
          exact Sub.env ⟨rfl, rfl, rfl, rfl, trivial⟩
    · refine AWP.iteB rfl h (fun hc8 h => ?_) (fun hc8 h => ?_)
      · refine AWP.seq ?_
        refine AWP.region ?_
        refine AOps.assign rfl rfl ?_
        refine AOps.nil ?_
        refine thn_normal ?_
        refine AWP.ret ?_
        refine inB_ret ?_
        refine thn_ret ?_
        have ej := Option.some.inj h
        subst ej
        refine thn_ret ⟨_, rfl, rfl, ?_⟩
        exact Done.ret rfl rfl
      · refine AWP.skip ?_
        refine inB_normal ?_
        refine thn_normal ?_
        refine AWP.region ?_
        refine AOps.move rfl rfl ?_
        refine AOps.add rfl rfl rfl (by omega) ?_
        refine AOps.assign rfl rfl ?_
        refine AOps.nil ?_
        have ej := Option.some.inj h
        subst ej
        refine thn_normal ⟨_, rfl, ?_⟩
        exact Sub.env ⟨rfl, rfl, rfl, trivial⟩
  · intro e s hq
    rcases oo with u | x
    · try dsimp only at h hq
      obtain ⟨rfl, hs⟩ := hq
      refine ⟨_, hs, ?_⟩
      refine inB_exit ?_
      refine thn_normal ?_
      refine AWP.seq ?_
      refine AWP.region ?_
      refine AOps.assign rfl rfl ?_
      refine AOps.nil ?_
      refine thn_normal ?_
      refine AWP.ret ?_
      have ej := Option.some.inj h
      subst ej
      exact Done.ret rfl rfl
    · try dsimp only at h hq
      obtain ⟨rfl, hs⟩ := hq
      refine ⟨_, Sub.refl _ _, ?_⟩
      refine inB_ret ?_
      refine thn_ret ?_
      have ej := Option.some.inj h
      subst ej
      exact hs

theorem ref1_StateOk_ok {t : TTask} {sv : List Int} {r : Bool} (h : ref1_StateOk t sv = some r) : PureOk Try.prog 9 [.agg [int t.facts, row 1 intI t.init, row 1 intI t.goal, row 4 eTOperator t.operators], .c (row 1 intI sv)] (.c (bool r)) := by
  unfold PureOk
  refine FnOk.enter (rs := [.t 4]) Try.func9 rfl Try.ntmps9 Try.results9 rfl ⟨trivial, trivial⟩ (by kernel_rfl) rfl ?_
  unfold ref1_StateOk at h
  refine AWP.seq ?_
  refine AWP.region ?_
  refine W.box rfl rfl rfl rfl rfl rfl ?_
  refine AOps.assign rfl rfl ?_
  refine AOps.nil ?_
  refine thn_normal ?_
  refine AWP.seq ?_
  obtain ⟨a8, ha8, h⟩ := bind_some h
  refine AWP.region ?_
  refine AOps.move rfl rfl ?_
  refine W.fieldAddr rfl rfl rfl rfl ?_
  refine AOps.load rfl rfl rfl rfl rfl rfl ?_
  refine AOps.callR rfl rfl rfl rfl (ref1_IsSet_ok ha8) rfl ?_
  refine AOps.assign rfl rfl ?_
  refine AOps.nil ?_
  refine thn_normal ?_
  refine AWP.ret ?_
  have ej := Option.some.inj h
  subst ej
  exact Done.ret rfl rfl

theorem law8_step_ok {r : TTask} (h : law8_step = some r) : PureOk Try.prog 27 [] (.agg [int r.facts, row 1 intI r.init, row 1 intI r.goal, row 4 eTOperator r.operators]) := by
  unfold PureOk
  refine FnOk.enter (rs := [.cell 0 25 4]) Try.func27 rfl Try.ntmps27 Try.results27 rfl ⟨rv _ rfl, trivial⟩ (by kernel_rfl) rfl ?_
  unfold law8_step at h
  refine AWP.seq ?_
  refine AWP.region ?_
  refine W.alloc rfl rfl rfl rfl ?_
  refine AOps.nil ?_
  refine thn_normal ?_
  refine AWP.seq ?_
  refine AWP.region ?_
  refine S.lit (f := intI) (l := [0]) (ess := [[int 0]]) rfl rfl rfl rfl rfl rfl rfl ⟨⟨.inl rfl, trivial⟩, trivial⟩ rfl rfl rfl ?_
  refine S.lit (f := intI) (l := [1]) (ess := [[int 1]]) rfl rfl rfl rfl rfl rfl rfl ⟨⟨.inl rfl, trivial⟩, trivial⟩ rfl rfl rfl ?_
  refine S.lit (f := intI) (l := [0]) (ess := [[int 0]]) rfl rfl rfl rfl rfl rfl rfl ⟨⟨.inl rfl, trivial⟩, trivial⟩ rfl rfl rfl ?_
  refine S.lit (f := intI) (l := [1]) (ess := [[int 1]]) rfl rfl rfl rfl rfl rfl rfl ⟨⟨.inl rfl, trivial⟩, trivial⟩ rfl rfl rfl ?_
  refine S.lit (f := intI) (l := [0]) (ess := [[int 0]]) rfl rfl rfl rfl rfl rfl rfl ⟨⟨.inl rfl, trivial⟩, trivial⟩ rfl rfl rfl ?_
  refine W.build rfl rfl rfl rfl ?_
  refine S.lit (f := intI) (l := [1]) (ess := [[int 1]]) rfl rfl rfl rfl rfl rfl rfl ⟨⟨.inl rfl, trivial⟩, trivial⟩ rfl rfl rfl ?_
  refine W.build rfl rfl rfl rfl ?_
  refine AOps.frzV (id := 3) (l := [0]) (env2 := [(0, .c (.ptr 0 0 0)), (1, .c (.own 1 0 ([0].length))), (2, .c (.own 2 0 ([1].length))), (6, .agg [row 1 intI [0], .own 4 0 ([1].length), .own 5 0 ([0].length), int 1]), (8, .agg [.imm (.val (.slice none 0 0)), .own 6 0 ([1].length), .imm (.val (.slice none 0 0)), int 3])]) (σ2 := [.one (.cells 4 [[int 0, .imm (.val (.slice none 0 0)), .imm (.val (.slice none 0 0)), .imm (.val (.slice none 0 0))]]), .one (vec 1 intI [0]), .one (vec 1 intI [1]), .dead, .one (vec 1 intI [1]), .one (vec 1 intI [0]), .one (vec 1 intI [1])]) rfl rfl (by exact ⟨⟨_, rfl, .inl ⟨rfl, rfl⟩⟩, ⟨_, rfl, .inl ⟨rfl, rfl⟩⟩, ⟨_, rfl, .inl ⟨rfl, rfl⟩⟩, ⟨_, rfl, ⟨.inr ⟨_, rfl, rfl, rfl⟩, .inl ⟨rfl, rfl⟩, .inl ⟨rfl, rfl⟩, .inl ⟨rfl, rfl⟩, trivial⟩⟩, ⟨_, rfl, ⟨.inl ⟨rfl, rfl⟩, .inl ⟨rfl, rfl⟩, .inl ⟨rfl, rfl⟩, .inl ⟨rfl, rfl⟩, trivial⟩⟩, trivial⟩) rfl (by exact ⟨⟨rfl, .inl ⟨rfl, rfl⟩, .inl ⟨rfl, rfl⟩, .inl ⟨rfl, rfl⟩, .inl ⟨rfl, rfl⟩, trivial⟩, FrzB.vec, FrzB.vec, trivial, FrzB.vec, FrzB.vec, FrzB.vec, trivial⟩) ?_; refine AOps.frzV (id := 4) (l := [1]) (env2 := [(0, .c (.ptr 0 0 0)), (1, .c (.own 1 0 ([0].length))), (2, .c (.own 2 0 ([1].length))), (6, .agg [row 1 intI [0], row 1 intI [1], .own 5 0 ([0].length), int 1]), (8, .agg [.imm (.val (.slice none 0 0)), .own 6 0 ([1].length), .imm (.val (.slice none 0 0)), int 3])]) (σ2 := [.one (.cells 4 [[int 0, .imm (.val (.slice none 0 0)), .imm (.val (.slice none 0 0)), .imm (.val (.slice none 0 0))]]), .one (vec 1 intI [0]), .one (vec 1 intI [1]), .dead, .dead, .one (vec 1 intI [0]), .one (vec 1 intI [1])]) rfl rfl (by exact ⟨⟨_, rfl, .inl ⟨rfl, rfl⟩⟩, ⟨_, rfl, .inl ⟨rfl, rfl⟩⟩, ⟨_, rfl, .inl ⟨rfl, rfl⟩⟩, ⟨_, rfl, ⟨.inl ⟨rfl, rfl⟩, .inr ⟨_, rfl, rfl, rfl⟩, .inl ⟨rfl, rfl⟩, .inl ⟨rfl, rfl⟩, trivial⟩⟩, ⟨_, rfl, ⟨.inl ⟨rfl, rfl⟩, .inl ⟨rfl, rfl⟩, .inl ⟨rfl, rfl⟩, .inl ⟨rfl, rfl⟩, trivial⟩⟩, trivial⟩) rfl (by exact ⟨⟨rfl, .inl ⟨rfl, rfl⟩, .inl ⟨rfl, rfl⟩, .inl ⟨rfl, rfl⟩, .inl ⟨rfl, rfl⟩, trivial⟩, FrzB.vec, FrzB.vec, trivial, trivial, FrzB.vec, FrzB.vec, trivial⟩) ?_; refine AOps.frzV (id := 5) (l := [0]) (env2 := [(0, .c (.ptr 0 0 0)), (1, .c (.own 1 0 ([0].length))), (2, .c (.own 2 0 ([1].length))), (6, .agg [row 1 intI [0], row 1 intI [1], row 1 intI [0], int 1]), (8, .agg [.imm (.val (.slice none 0 0)), .own 6 0 ([1].length), .imm (.val (.slice none 0 0)), int 3])]) (σ2 := [.one (.cells 4 [[int 0, .imm (.val (.slice none 0 0)), .imm (.val (.slice none 0 0)), .imm (.val (.slice none 0 0))]]), .one (vec 1 intI [0]), .one (vec 1 intI [1]), .dead, .dead, .dead, .one (vec 1 intI [1])]) rfl rfl (by exact ⟨⟨_, rfl, .inl ⟨rfl, rfl⟩⟩, ⟨_, rfl, .inl ⟨rfl, rfl⟩⟩, ⟨_, rfl, .inl ⟨rfl, rfl⟩⟩, ⟨_, rfl, ⟨.inl ⟨rfl, rfl⟩, .inl ⟨rfl, rfl⟩, .inr ⟨_, rfl, rfl, rfl⟩, .inl ⟨rfl, rfl⟩, trivial⟩⟩, ⟨_, rfl, ⟨.inl ⟨rfl, rfl⟩, .inl ⟨rfl, rfl⟩, .inl ⟨rfl, rfl⟩, .inl ⟨rfl, rfl⟩, trivial⟩⟩, trivial⟩) rfl (by exact ⟨⟨rfl, .inl ⟨rfl, rfl⟩, .inl ⟨rfl, rfl⟩, .inl ⟨rfl, rfl⟩, .inl ⟨rfl, rfl⟩, trivial⟩, FrzB.vec, FrzB.vec, trivial, trivial, trivial, FrzB.vec, trivial⟩) ?_; refine AOps.frzV (id := 6) (l := [1]) (env2 := [(0, .c (.ptr 0 0 0)), (1, .c (.own 1 0 ([0].length))), (2, .c (.own 2 0 ([1].length))), (6, .agg [row 1 intI [0], row 1 intI [1], row 1 intI [0], int 1]), (8, .agg [.imm (.val (.slice none 0 0)), row 1 intI [1], .imm (.val (.slice none 0 0)), int 3])]) (σ2 := [.one (.cells 4 [[int 0, .imm (.val (.slice none 0 0)), .imm (.val (.slice none 0 0)), .imm (.val (.slice none 0 0))]]), .one (vec 1 intI [0]), .one (vec 1 intI [1]), .dead, .dead, .dead, .dead]) rfl rfl (by exact ⟨⟨_, rfl, .inl ⟨rfl, rfl⟩⟩, ⟨_, rfl, .inl ⟨rfl, rfl⟩⟩, ⟨_, rfl, .inl ⟨rfl, rfl⟩⟩, ⟨_, rfl, ⟨.inl ⟨rfl, rfl⟩, .inl ⟨rfl, rfl⟩, .inl ⟨rfl, rfl⟩, .inl ⟨rfl, rfl⟩, trivial⟩⟩, ⟨_, rfl, ⟨.inl ⟨rfl, rfl⟩, .inr ⟨_, rfl, rfl, rfl⟩, .inl ⟨rfl, rfl⟩, .inl ⟨rfl, rfl⟩, trivial⟩⟩, trivial⟩) rfl (by exact ⟨⟨rfl, .inl ⟨rfl, rfl⟩, .inl ⟨rfl, rfl⟩, .inl ⟨rfl, rfl⟩, .inl ⟨rfl, rfl⟩, trivial⟩, FrzB.vec, FrzB.vec, trivial, trivial, trivial, trivial, trivial⟩) ?_; refine S.lit (f := eTOperator) (l := [(⟨[0], [1], [0], 1⟩ : TOperator), (⟨[], [1], [], 3⟩ : TOperator)]) (ess := [[row 1 intI [0], row 1 intI [1], row 1 intI [0], int 1], [.imm (.val (.slice none 0 0)), row 1 intI [1], .imm (.val (.slice none 0 0)), int 3]]) rfl rfl rfl rfl rfl rfl rfl ⟨⟨.inl rfl, .inl rfl, .inl rfl, .inl rfl, trivial⟩, ⟨.inr ⟨rfl, _, rfl⟩, .inl rfl, .inr ⟨rfl, _, rfl⟩, .inl rfl, trivial⟩, trivial⟩ rfl rfl rfl ?_
  refine W.build rfl rfl rfl rfl ?_
  refine W.storeAgg rfl rfl rfl rfl rfl rfl rfl ?_
  refine AOps.nil ?_
  refine thn_normal ?_
  refine AWP.frzV (id := 1) (l := [0]) (env2 := [(0, .c (.ptr 0 0 0))]) (σ2 := [.one (.cells 4 [[int 2, row 1 intI [0], .own 2 0 ([1].length), .own 7 0 (([(⟨[0], [1], [0], 1⟩ : TOperator), (⟨[], [1], [], 3⟩ : TOperator)]).length)]]), .dead, .one (vec 1 intI [1]), .dead, .dead, .dead, .dead, .one (vec 4 eTOperator ([(⟨[0], [1], [0], 1⟩ : TOperator), (⟨[], [1], [], 3⟩ : TOperator)]))]) rfl rfl (by exact ⟨⟨_, rfl, .inl ⟨rfl, rfl⟩⟩, trivial⟩) rfl (by exact ⟨⟨rfl, .inl ⟨rfl, rfl⟩, .inr ⟨_, rfl, rfl, rfl⟩, .inl ⟨rfl, rfl⟩, .inl ⟨rfl, rfl⟩, trivial⟩, trivial, FrzB.vec, trivial, trivial, trivial, trivial, FrzB.vec, trivial⟩) ?_
  refine AWP.frzV (id := 2) (l := [1]) (env2 := [(0, .c (.ptr 0 0 0))]) (σ2 := [.one (.cells 4 [[int 2, row 1 intI [0], row 1 intI [1], .own 7 0 (([(⟨[0], [1], [0], 1⟩ : TOperator), (⟨[], [1], [], 3⟩ : TOperator)]).length)]]), .dead, .dead, .dead, .dead, .dead, .dead, .one (vec 4 eTOperator ([(⟨[0], [1], [0], 1⟩ : TOperator), (⟨[], [1], [], 3⟩ : TOperator)]))]) rfl rfl (by exact ⟨⟨_, rfl, .inl ⟨rfl, rfl⟩⟩, trivial⟩) rfl (by exact ⟨⟨rfl, .inl ⟨rfl, rfl⟩, .inl ⟨rfl, rfl⟩, .inr ⟨_, rfl, rfl, rfl⟩, .inl ⟨rfl, rfl⟩, trivial⟩, trivial, trivial, trivial, trivial, trivial, trivial, FrzB.vec, trivial⟩) ?_
  refine AWP.frzV (id := 7) (l := [(⟨[0], [1], [0], 1⟩ : TOperator), (⟨[], [1], [], 3⟩ : TOperator)]) (env2 := [(0, .c (.ptr 0 0 0))]) (σ2 := [.one (.cells 4 [[int 2, row 1 intI [0], row 1 intI [1], row 4 eTOperator ([(⟨[0], [1], [0], 1⟩ : TOperator), (⟨[], [1], [], 3⟩ : TOperator)])]]), .dead, .dead, .dead, .dead, .dead, .dead, .dead]) rfl rfl (by exact ⟨⟨_, rfl, .inl ⟨rfl, rfl⟩⟩, trivial⟩) rfl (by exact ⟨⟨rfl, .inl ⟨rfl, rfl⟩, .inl ⟨rfl, rfl⟩, .inl ⟨rfl, rfl⟩, .inr ⟨_, rfl, rfl, rfl⟩, trivial⟩, trivial, trivial, trivial, trivial, trivial, trivial, trivial, trivial⟩) ?_
  refine AWP.ret ?_
  have ej := Option.some.inj h
  subst ej
  exact Done.ret rfl rfl

theorem strips_StateFault_ok {t : TTask} {sv : List Int} {r : TFault} (h : strips_StateFault t sv = some r) : PureOk Try.prog 44 [.agg [int t.facts, row 1 intI t.init, row 1 intI t.goal, row 4 eTOperator t.operators], .c (row 1 intI sv)] (.agg [int r.code, int r.index]) := by
  unfold PureOk
  refine FnOk.enter (rs := [.cell 4 29 2]) Try.func44 rfl Try.ntmps44 Try.results44 rfl ⟨rv _ rfl, trivial⟩ (by kernel_rfl) rfl ?_
  unfold strips_StateFault at h
  refine AWP.seq ?_
  refine AWP.region ?_
  refine W.box rfl rfl rfl rfl rfl rfl ?_
  refine W.alloc rfl rfl rfl rfl ?_
  refine AOps.nil ?_
  refine thn_normal ?_
  refine AWP.seq ?_
  refine AWP.seq ?_
  obtain ⟨a7, ha7, h⟩ := bind_some h
  refine AWP.region ?_
  refine W.loadAgg rfl rfl rfl rfl rfl rfl rfl ?_
  refine AOps.callR rfl rfl rfl rfl (strips_Validate_ok ha7) rfl ?_
  refine W.alloc rfl rfl rfl rfl ?_
  refine W.storeAgg rfl rfl rfl rfl rfl rfl rfl ?_
  refine AOps.nil ?_
  refine thn_normal ?_
  refine AWP.seq ?_
  refine AWP.region ?_
  refine W.loadAgg rfl rfl rfl rfl rfl rfl rfl ?_
  refine W.build rfl rfl rfl rfl ?_
  refine AOps.neqP rfl rfl rfl rfl rfl rfl rfl ?_
  refine AOps.nil ?_
  refine thn_normal ?_
  refine AWP.iteB rfl h (fun hc3 h => ?_) (fun hc3 h => ?_)
  · refine AWP.seq ?_
    refine AWP.region ?_
    refine W.loadAgg rfl rfl rfl rfl rfl rfl rfl ?_
    refine W.storeAgg rfl rfl rfl rfl rfl rfl rfl ?_
    refine AOps.nil ?_
    refine thn_normal ?_
    refine AWP.ret ?_
    refine thn_ret ?_
    have ej := Option.some.inj h
    subst ej
    exact Done.ret rfl rfl
  · refine AWP.skip ?_
    refine thn_normal ?_
    refine AWP.seq ?_
    refine AWP.seq ?_
    obtain ⟨a15, ha15, h⟩ := bind_some h
    refine AWP.region ?_
    refine AOps.move rfl rfl ?_
    refine W.fieldAddr rfl rfl rfl rfl ?_
    refine AOps.load rfl rfl rfl rfl rfl rfl ?_
    refine AOps.callR rfl rfl rfl rfl (strips_IsSet_ok ha15) rfl ?_
    refine AOps.not rfl rfl ?_
    refine AOps.nil ?_
    refine thn_normal ?_
    refine AWP.iteB rfl h (fun hc4 h => ?_) (fun hc4 h => ?_)
    · refine AWP.seq ?_
      refine AWP.region ?_
      refine W.build rfl rfl rfl rfl ?_
      refine W.storeAgg rfl rfl rfl rfl rfl rfl rfl ?_
      refine AOps.nil ?_
      refine thn_normal ?_
      refine AWP.ret ?_
      refine thn_ret ?_
      have ej := Option.some.inj h
      subst ej
      exact Done.ret rfl rfl
    · refine AWP.skip ?_
      refine thn_normal ?_
      refine AWP.seq ?_
      refine AWP.region ?_
      refine W.build rfl rfl rfl rfl ?_
      refine W.storeAgg rfl rfl rfl rfl rfl rfl rfl ?_
      refine AOps.nil ?_
      refine thn_normal ?_
      refine AWP.ret ?_
      have ej := Option.some.inj h
      subst ej
      exact Done.ret rfl rfl

theorem monitor_check_ok {t : TTask} {plan : List Int} {sv : List Int} {r : TFault} (h : monitor_check t plan sv = some r) : PureOk Try.prog 30 [.agg [int t.facts, row 1 intI t.init, row 1 intI t.goal, row 4 eTOperator t.operators], .c (row 1 intI plan), .c (row 1 intI sv)] (.agg [int r.code, int r.index]) := by
  unfold PureOk
  refine FnOk.enter (rs := [.cell 6 29 2]) Try.func30 rfl Try.ntmps30 Try.results30 rfl ⟨rv _ rfl, trivial⟩ (by kernel_rfl) rfl ?_
  unfold monitor_check at h
  refine AWP.seq ?_
  refine AWP.region ?_
  refine W.box rfl rfl rfl rfl rfl rfl ?_
  refine W.alloc rfl rfl rfl rfl ?_
  refine AOps.nil ?_
  refine thn_normal ?_
  refine AWP.seq ?_
  refine AWP.seq ?_
  obtain ⟨a10, ha10, h⟩ := bind_some h
  refine AWP.region ?_
  refine W.loadAgg rfl rfl rfl rfl rfl rfl rfl ?_
  refine AOps.move rfl rfl ?_
  refine AOps.callR rfl rfl rfl rfl (strips_StateFault_ok ha10) rfl ?_
  refine W.alloc rfl rfl rfl rfl ?_
  refine W.storeAgg rfl rfl rfl rfl rfl rfl rfl ?_
  refine AOps.nil ?_
  refine thn_normal ?_
  refine AWP.seq ?_
  refine AWP.region ?_
  refine W.loadAgg rfl rfl rfl rfl rfl rfl rfl ?_
  refine W.build rfl rfl rfl rfl ?_
  refine AOps.neqP rfl rfl rfl rfl rfl rfl rfl ?_
  refine AOps.nil ?_
  refine thn_normal ?_
  refine AWP.iteB rfl h (fun hc4 h => ?_) (fun hc4 h => ?_)
  · refine AWP.seq ?_
    refine AWP.region ?_
    refine W.loadAgg rfl rfl rfl rfl rfl rfl rfl ?_
    refine W.storeAgg rfl rfl rfl rfl rfl rfl rfl ?_
    refine AOps.nil ?_
    refine thn_normal ?_
    refine AWP.ret ?_
    refine thn_ret ?_
    have ej := Option.some.inj h
    subst ej
    exact Done.ret rfl rfl
  · refine AWP.skip ?_
    refine thn_normal ?_
    refine AWP.seq ?_
    obtain ⟨a19, ha19, h⟩ := bind_some h
    refine AWP.region ?_
    refine W.fieldAddr rfl rfl rfl rfl ?_
    refine AOps.load rfl rfl rfl rfl rfl rfl ?_
    refine S.len rfl rfl (fun hl17 => ?_)
    refine AOps.move rfl rfl ?_
    refine AOps.callR rfl rfl rfl rfl (strips_Steps_ok ha19) rfl ?_
    refine W.storeAgg rfl rfl rfl rfl rfl rfl rfl ?_
    refine AOps.nil ?_
    refine thn_normal ?_
    refine AWP.ret ?_
    have ej := Option.some.inj h
    subst ej
    exact Done.ret rfl rfl

theorem strips_Contains_ok {sv : List Int} {part : List Int} {r : Bool} (h : strips_Contains sv part = some r) : PureOk Try.prog 31 [.c (row 1 intI sv), .c (row 1 intI part)] (.c (bool r)) := by
  unfold PureOk
  refine FnOk.enter (rs := [.t 4]) Try.func31 rfl Try.ntmps31 Try.results31 rfl ⟨trivial, trivial⟩ (by kernel_rfl) rfl ?_
  unfold strips_Contains at h
  refine AWP.seq ?_
  refine AWP.region ?_
  refine AOps.assign rfl rfl ?_
  refine AOps.nil ?_
  refine thn_normal ?_
  refine AWP.seq ?_
  refine AWP.region ?_
  refine AOps.assign rfl rfl ?_
  refine AOps.nil ?_
  refine thn_normal ?_
  refine AWP.seq ?_
  refine AWP.seq ?_
  refine AWP.region ?_
  refine AOps.move rfl rfl ?_
  refine S.len rfl rfl (fun hl9 => ?_)
  refine AOps.move rfl rfl ?_
  refine AOps.nil ?_
  refine thn_normal ?_
  refine AWP.block ?_
  obtain ⟨oo, ho1, h⟩ := bind_some h
  refine AWP.rngS ho1 (fun t4 iv3 => ⟨[(0, .c (row 1 intI sv)), (5, .c (int iv3)), (8, .c (row 1 intI part)), (9, .c (int (part.length : Int))), (10, .c (int t4))], []⟩) (fun o e st => match o with | .inl iv3 => e = .exit 0 ∧ Sub [] st ⟨[], []⟩ | .inr x => e = .ret ∧ Done [.t 4] (fun t _ => t = .c (bool x)) .ret st) ?_ ?_ ?_ ?_
  · try dsimp only
    exact Sub.env ⟨rfl, rfl, rfl, rfl, rfl, trivial⟩
  · intro t4 iv3 hlot4 hltt4 _
    try dsimp only
    refine AWP.seq ?_
    refine AWP.region ?_
    refine AOps.lss rfl rfl rfl ?_
    refine AOps.nil ?_
    refine thn_normal ?_
    refine AWP.seq ?_
    refine AWP.condNP rfl hltt4 ?_
    refine AWP.exit ?_
    refine thn_exit ?_
    refine thn_exit ⟨rfl, ?_⟩
    exact Sub.env trivial
  · intro t4 iv3 o hlot4 hltt4 h
    unfold strips_Contains_l1 at h
    try dsimp only at h ⊢
    refine AWP.seq ?_
    refine AWP.region ?_
    refine AOps.lss rfl rfl rfl ?_
    refine AOps.nil ?_
    refine thn_normal ?_
    refine AWP.seq ?_
    refine AWP.condP rfl hltt4 ?_
    refine AWP.skip ?_
    refine thn_normal ?_
    refine AWP.seq ?_
    refine AWP.block ?_
    refine AWP.seq ?_
    obtain ⟨a12, ha12, h⟩ := bind_some h
    refine AWP.region ?_
    refine S.idx ha12 rfl rfl rfl rfl ?_
    refine AOps.loadI rfl rfl rfl rfl ?_
    refine AOps.assign rfl rfl ?_
    refine AOps.nil ?_
    refine thn_normal ?_
    refine AWP.seq ?_
    refine AWP.block ?_
    obtain ⟨iv6, ho2, h⟩ := bind_some h
    refine AWP.loopS ho2 (fun iv5 => ⟨[(0, .c (row 1 intI sv)), (5, .c (int iv5)), (7, .c (int a12)), (8, .c (row 1 intI part)), (9, .c (int (part.length : Int))), (10, .c (int t4))], []⟩) (fun iv6 e st => e = .exit 2 ∧ Sub [] st ⟨[(0, .c (row 1 intI sv)), (5, .c (int iv6)), (7, .c (int a12)), (8, .c (row 1 intI part)), (9, .c (int (part.length : Int))), (10, .c (int t4))], []⟩) ?_ ?_ ?_
    · try dsimp only
      exact Sub.env ⟨rfl, rfl, rfl, rfl, rfl, rfl, trivial⟩
    · intro iv5 o h
      unfold strips_Contains_l2 at h
      try dsimp only at h ⊢
      refine AWP.seq ?_
      obtain ⟨t7, hx8, h⟩ := bind_some h
      refine AWP.seqJ (⟨[(0, .c (row 1 intI sv)), (5, .c (int iv5)), (7, .c (int a12)), (8, .c (row 1 intI part)), (9, .c (int (part.length : Int))), (10, .c (int t4)), (25, .c (bool t7))], []⟩) ?_ ?_
      · rcases Bool.eq_false_or_eq_true (decide (iv5 < (sv.length : Int))) with hb9 | hb9
        · replace hx8 := iteDT hb9 hx8
          obtain ⟨a21, ha21, hx8⟩ := bind_some hx8
          refine AWP.region ?_
          refine AOps.move rfl rfl ?_
          refine AOps.move rfl rfl ?_
          refine S.len rfl rfl (fun hl16 => ?_)
          refine AOps.lss rfl rfl rfl ?_
          refine AOps.move rfl rfl ?_
          refine AOps.guardT rfl rfl rfl hb9 ?_; refine AOps.move rfl rfl ?_
          refine AOps.guardT rfl rfl rfl hb9 ?_; refine AOps.move rfl rfl ?_
          refine AOps.guardT rfl rfl rfl hb9 ?_; refine S.idx ha21 rfl rfl rfl rfl ?_
          refine AOps.guardT rfl rfl rfl hb9 ?_; refine AOps.loadI rfl rfl rfl rfl ?_
          refine AOps.guardT rfl rfl rfl hb9 ?_; refine AOps.move rfl rfl ?_
          refine AOps.guardT rfl rfl rfl hb9 ?_; refine AOps.lss rfl rfl rfl ?_
          refine AOps.pickT rfl hb9 rfl rfl ?_
          refine AOps.nil ?_
          have ej := Option.some.inj hx8
          subst ej
          refine thn_normal ?_
          exact Sub.env ⟨rfl, rfl, rfl, rfl, rfl, rfl, rfl, trivial⟩
        · replace hx8 := iteDF hb9 hx8
          refine AWP.region ?_
          refine AOps.move rfl rfl ?_
          refine AOps.move rfl rfl ?_
          refine S.len rfl rfl (fun hl16 => ?_)
          refine AOps.lss rfl rfl rfl ?_
          refine AOps.move rfl rfl ?_
          refine AOps.guardF rfl rfl rfl hb9 ?_
          refine AOps.guardF rfl rfl rfl hb9 ?_
          refine AOps.guardF rfl rfl rfl hb9 ?_
          refine AOps.guardF rfl rfl rfl hb9 ?_
          refine AOps.guardF rfl rfl rfl hb9 ?_
          refine AOps.guardF rfl rfl rfl hb9 ?_
          refine AOps.pickF rfl hb9 rfl rfl ?_
          refine AOps.nil ?_
          have ej := Option.some.inj hx8
          subst ej
          refine thn_normal ?_
          exact Sub.env ⟨rfl, rfl, rfl, rfl, rfl, rfl, rfl, trivial⟩
      · refine AWP.iteB rfl h (fun hc10 h => ?_) (fun hc10 h => ?_)
        · refine AWP.skip ?_
          refine thn_normal ?_
          refine AWP.block ?_
          refine AWP.region ?_
          refine AOps.move rfl rfl ?_
          refine S.add rfl rfl rfl ?_
          refine AOps.assign rfl rfl ?_
          refine AOps.nil ?_
          refine inB_normal ?_
          have ej := Option.some.inj h
          subst ej
          refine thn_normal ⟨_, rfl, ?_⟩
          exact Sub.env ⟨rfl, rfl, rfl, rfl, rfl, rfl, trivial⟩
        · refine AWP.exit ?_
          refine thn_exit ?_
          have ej := Option.some.inj h
          subst ej
          refine thn_exit ⟨_, rfl, rfl, ?_⟩
          exact Sub.env ⟨rfl, rfl, rfl, rfl, rfl, rfl, trivial⟩
    · intro e s hq
      obtain ⟨rfl, hs⟩ := hq
      refine ⟨_, hs, ?_⟩
      refine inB_exit ?_
      refine thn_normal ?_
      obtain ⟨t11, hx12, h⟩ := bind_some h
      refine AWP.seqJ (⟨[(0, .c (row 1 intI sv)), (5, .c (int iv6)), (8, .c (row 1 intI part)), (9, .c (int (part.length : Int))), (10, .c (int t4)), (39, .c (bool t11))], []⟩) ?_ ?_
      · rcases Bool.eq_false_or_eq_true (decide (iv6 = (sv.length : Int))) with hb13 | hb13
        · replace hx12 := iteDT hb13 hx12
          refine AWP.region ?_
          refine AOps.move rfl rfl ?_
          refine AOps.move rfl rfl ?_
          refine S.len rfl rfl (fun hl30 => ?_)
          refine AOps.eql rfl rfl rfl ?_
          refine AOps.move rfl rfl ?_
          refine AOps.guardF rfl rfl rfl hb13 ?_
          refine AOps.guardF rfl rfl rfl hb13 ?_
          refine AOps.guardF rfl rfl rfl hb13 ?_
          refine AOps.guardF rfl rfl rfl hb13 ?_
          refine AOps.guardF rfl rfl rfl hb13 ?_
          refine AOps.guardF rfl rfl rfl hb13 ?_
          refine AOps.pickT rfl hb13 rfl rfl ?_
          refine AOps.nil ?_
          have ej := Option.some.inj hx12
          subst ej
          refine thn_normal ?_
          exact Sub.env ⟨rfl, rfl, rfl, rfl, rfl, rfl, trivial⟩
        · replace hx12 := iteDF hb13 hx12
          obtain ⟨a35, ha35, hx12⟩ := bind_some hx12
          refine AWP.region ?_
          refine AOps.move rfl rfl ?_
          refine AOps.move rfl rfl ?_
          refine S.len rfl rfl (fun hl30 => ?_)
          refine AOps.eql rfl rfl rfl ?_
          refine AOps.move rfl rfl ?_
          refine AOps.guardT rfl rfl rfl hb13 ?_; refine AOps.move rfl rfl ?_
          refine AOps.guardT rfl rfl rfl hb13 ?_; refine AOps.move rfl rfl ?_
          refine AOps.guardT rfl rfl rfl hb13 ?_; refine S.idx ha35 rfl rfl rfl rfl ?_
          refine AOps.guardT rfl rfl rfl hb13 ?_; refine AOps.loadI rfl rfl rfl rfl ?_
          refine AOps.guardT rfl rfl rfl hb13 ?_; refine AOps.move rfl rfl ?_
          refine AOps.guardT rfl rfl rfl hb13 ?_; refine AOps.neq rfl rfl rfl ?_
          refine AOps.pickF rfl hb13 rfl rfl ?_
          refine AOps.nil ?_
          have ej := Option.some.inj hx12
          subst ej
          refine thn_normal ?_
          exact Sub.env ⟨rfl, rfl, rfl, rfl, rfl, rfl, trivial⟩
      · refine AWP.iteB rfl h (fun hc14 h => ?_) (fun hc14 h => ?_)
        · refine AWP.seq ?_
          refine AWP.region ?_
          refine AOps.assign rfl rfl ?_
          refine AOps.nil ?_
          refine thn_normal ?_
          refine AWP.ret ?_
          refine inB_ret ?_
          refine thn_ret ?_
          have ej := Option.some.inj h
          subst ej
          refine thn_ret ⟨_, rfl, rfl, ?_⟩
          exact Done.ret rfl rfl
        · refine AWP.skip ?_
          refine inB_normal ?_
          refine thn_normal ?_
          refine AWP.region ?_
          refine AOps.add rfl rfl rfl (by omega) ?_
          refine AOps.move rfl rfl ?_
          refine AOps.nil ?_
          have ej := Option.some.inj h
          subst ej
          refine thn_normal ⟨_, rfl, ?_⟩
          exact Sub.env ⟨rfl, rfl, rfl, rfl, rfl, trivial⟩
  · intro e s hq
    rcases oo with iv3 | x
    · try dsimp only at h hq
      obtain ⟨rfl, hs⟩ := hq
      refine ⟨_, hs, ?_⟩
      refine inB_exit ?_
      refine thn_normal ?_
      refine AWP.seq ?_
      refine AWP.region ?_
      refine AOps.assign rfl rfl ?_
      refine AOps.nil ?_
      refine thn_normal ?_
      refine AWP.ret ?_
      have ej := Option.some.inj h
      subst ej
      exact Done.ret rfl rfl
    · try dsimp only at h hq
      obtain ⟨rfl, hs⟩ := hq
      refine ⟨_, Sub.refl _ _, ?_⟩
      refine inB_ret ?_
      refine thn_ret ?_
      have ej := Option.some.inj h
      subst ej
      exact hs

theorem monitor_Resume_ok {t : TTask} {plan : List Int} {sv : List Int} {r : Int × Bool × TFault} (h : monitor_Resume t plan sv = some r) : PureOk Try.prog 14 [.agg [int t.facts, row 1 intI t.init, row 1 intI t.goal, row 4 eTOperator t.operators], .c (row 1 intI plan), .c (row 1 intI sv)] (.tup [.c (int r.1), .c (bool r.2.1), .agg [int r.2.2.code, int r.2.2.index]]) := by
  unfold PureOk
  refine FnOk.enter (rs := [.t 6, .t 7, .cell 8 29 2]) Try.func14 rfl Try.ntmps14 Try.results14 rfl ⟨trivial, trivial, rv _ rfl, trivial⟩ (by kernel_rfl) rfl ?_
  unfold monitor_Resume at h
  refine AWP.seq ?_
  refine AWP.region ?_
  refine W.box rfl rfl rfl rfl rfl rfl ?_
  refine AOps.assign rfl rfl ?_
  refine AOps.assign rfl rfl ?_
  refine W.alloc rfl rfl rfl rfl ?_
  refine AOps.nil ?_
  refine thn_normal ?_
  refine AWP.seq ?_
  refine AWP.seq ?_
  obtain ⟨a15, ha15, h⟩ := bind_some h
  refine AWP.region ?_
  refine W.loadAgg rfl rfl rfl rfl rfl rfl rfl ?_
  refine AOps.move rfl rfl ?_
  refine AOps.move rfl rfl ?_
  refine AOps.callR rfl rfl rfl rfl (monitor_check_ok ha15) rfl ?_
  refine W.alloc rfl rfl rfl rfl ?_
  refine W.storeAgg rfl rfl rfl rfl rfl rfl rfl ?_
  refine AOps.nil ?_
  refine thn_normal ?_
  refine AWP.seq ?_
  refine AWP.region ?_
  refine W.loadAgg rfl rfl rfl rfl rfl rfl rfl ?_
  refine W.build rfl rfl rfl rfl ?_
  refine AOps.neqP rfl rfl rfl rfl rfl rfl rfl ?_
  refine AOps.nil ?_
  refine thn_normal ?_
  refine AWP.iteB rfl h (fun hc4 h => ?_) (fun hc4 h => ?_)
  · refine AWP.seq ?_
    refine AWP.drawEI [3] mixed rfl rfl rfl ?_
    apply DrawSeqE.consN; exact rfl; exact rfl; intro E
    refine W.loadAgg rfl rfl rfl rfl rfl rfl rfl ?_
    exact AOps.nil ⟨rfl, rfl⟩
    exact rfl
    apply DrawSeqE.consN; exact rfl; exact rfl; intro E
    refine AOps.assign rfl rfl ?_
    exact AOps.nil ⟨rfl, rfl⟩
    exact rfl
    apply DrawSeqE.consN; exact rfl; exact rfl; intro E
    refine AOps.assign rfl rfl ?_
    exact AOps.nil ⟨rfl, rfl⟩
    exact rfl
    apply DrawSeqE.consE (v := .undef); exact rfl; exact rfl; intro E
    refine W.storeAgg rfl rfl rfl rfl rfl rfl rfl ?_
    exact AOps.nil ⟨rfl, rfl⟩
    exact rfl
    exact rfl
    refine DrawSeqE.done rfl ?_ ?_
    · apply RestI.cons; exact rfl; exact rfl
      first | refine RestK.skip rfl ?_ | (apply RestK.go; exact rfl; exact rfl; intro E; (refine W.loadAgg rfl rfl rfl rfl rfl rfl rfl ?_); exact AOps.nil ⟨rfl, rfl⟩)
      first | refine RestK.skip rfl ?_ | (apply RestK.go; exact rfl; exact rfl; intro E; (refine W.loadAgg rfl rfl rfl rfl rfl rfl rfl ?_); exact AOps.nil ⟨rfl, rfl⟩)
      exact RestK.nil
      apply RestI.cons; exact rfl; exact rfl
      first | refine RestK.skip rfl ?_ | (apply RestK.go; exact rfl; exact rfl; intro E; (refine AOps.assign rfl rfl ?_); exact AOps.nil ⟨rfl, rfl⟩)
      first | refine RestK.skip rfl ?_ | (apply RestK.go; exact rfl; exact rfl; intro E; (refine AOps.assign rfl rfl ?_); exact AOps.nil ⟨rfl, rfl⟩)
      exact RestK.nil
      apply RestI.cons; exact rfl; exact rfl
      first | refine RestK.skip rfl ?_ | (apply RestK.go; exact rfl; exact rfl; intro E; (refine AOps.assign rfl rfl ?_); exact AOps.nil ⟨rfl, rfl⟩)
      first | refine RestK.skip rfl ?_ | (apply RestK.go; exact rfl; exact rfl; intro E; (refine AOps.assign rfl rfl ?_); exact AOps.nil ⟨rfl, rfl⟩)
      exact RestK.nil
      refine RestI.skip rfl ?_
      exact RestI.nil
    dsimp only [envEnd]
    refine thn_normal ?_
    refine AWP.ret ?_
    refine thn_ret ?_
    have ej := Option.some.inj h
    subst ej
    exact Done.ret rfl rfl
  · refine AWP.skip ?_
    refine thn_normal ?_
    refine AWP.seq ?_
    obtain ⟨a22, ha22, h⟩ := bind_some h
    refine AWP.region ?_
    refine W.loadAgg rfl rfl rfl rfl rfl rfl rfl ?_
    refine AOps.move rfl rfl ?_
    refine S.fresh rfl rfl rfl rfl (monitor_needs_ok ha22) rfl rfl ?_
    refine AOps.assign rfl rfl ?_
    refine AOps.nil ?_
    refine thn_normal ?_
    refine AWP.seq ?_
    refine AWP.seq ?_
    refine AWP.region ?_
    refine AOps.move rfl rfl ?_
    refine S.len rfl rfl (fun hl24 => ?_)
    refine AOps.assign rfl rfl ?_
    refine AOps.nil ?_
    refine thn_normal ?_
    refine AWP.block ?_
    obtain ⟨oo, ho1, h⟩ := bind_some h
    refine AWP.loopS ho1 (fun iv5 => ⟨[(2, .c (row 1 intI sv)), (8, .c (.ptr 1 0 0)), (10, .c (.own 3 0 a22.length)), (11, .c (int iv5))], [.dead, .one (.cells 2 [[int 0, int 0]]), .dead, .one (vec 2 eTmonitor_need a22)]⟩) (fun o e st => match o with | .inl _ => e = .exit 0 ∧ Sub [] st ⟨[(8, .c (.ptr 1 0 0))], [.dead, .one (.cells 2 [[int 0, int 0]])]⟩ | .inr x => e = .ret ∧ Done [.t 6, .t 7, .cell 8 29 2] (fun t _ => t = .tup [.c (int x.1), .c (bool x.2.1), .agg [int x.2.2.code, int x.2.2.index]]) .ret st) ?_ ?_ ?_
    · try dsimp only
      exact Sub.cut ⟨rfl, rfl, rfl, rfl, trivial⟩ rfl ⟨.dead, .one rfl, .dead, .vec, trivial⟩ rfl
    · intro iv5 o h
      unfold monitor_Resume_l1 at h
      try dsimp only at h ⊢
      refine AWP.seq ?_
      refine AWP.seq ?_
      refine AWP.region ?_
      refine AOps.move rfl rfl ?_
      refine AOps.geq rfl rfl rfl ?_
      refine AOps.nil ?_
      refine thn_normal ?_
      refine AWP.ite rfl h (fun hc6 h => ?_) (fun hc6 h => ?_)
      · refine AWP.skip ?_
        refine thn_normal ?_
        refine AWP.seq ?_
        refine AWP.block ?_
        obtain ⟨t7, hx8, h⟩ := bind_some h
        refine AWP.seqJ (⟨[(2, .c (row 1 intI sv)), (8, .c (.ptr 1 0 0)), (10, .c (.own 3 0 a22.length)), (11, .c (int iv5)), (43, .c (bool t7))], [.dead, .one (.cells 2 [[int 0, int 0]]), .dead, .one (vec 2 eTmonitor_need a22)]⟩) ?_ ?_
        · obtain ⟨a31, ha31, hx8⟩ := bind_some hx8
          rcases Bool.eq_false_or_eq_true (!a31.never) with hb9 | hb9
          · replace hx8 := iteBT hb9 hx8
            obtain ⟨a39, ha39, hx8⟩ := bind_some hx8
            obtain ⟨a42, ha42, hx8⟩ := bind_some hx8
            refine AWP.region ?_
            refine AOps.move rfl rfl ?_
            refine AOps.move rfl rfl ?_
            refine S.idxO ha31 rfl rfl rfl rfl rfl ?_
            refine W.fieldAddr rfl rfl rfl rfl ?_
            refine S.loadO ha31 rfl rfl rfl rfl rfl ?_
            refine AOps.not rfl rfl ?_
            refine AOps.move rfl rfl ?_
            refine AOps.guardT rfl rfl rfl hb9 ?_; refine AOps.move rfl rfl ?_
            refine AOps.guardT rfl rfl rfl hb9 ?_; refine AOps.move rfl rfl ?_
            refine AOps.guardT rfl rfl rfl hb9 ?_; refine AOps.move rfl rfl ?_
            refine AOps.guardT rfl rfl rfl hb9 ?_; refine S.idxO ha39 rfl rfl rfl rfl rfl ?_
            refine AOps.guardT rfl rfl rfl hb9 ?_; refine W.fieldAddr rfl rfl rfl rfl ?_
            refine AOps.guardT rfl rfl rfl hb9 ?_; refine S.loadO ha39 rfl rfl rfl rfl rfl ?_
            refine AOps.guardT rfl rfl rfl hb9 ?_; refine AOps.callR rfl rfl rfl rfl (strips_Contains_ok ha42) rfl ?_
            refine AOps.pickT rfl hb9 rfl rfl ?_
            refine AOps.nil ?_
            have ej := Option.some.inj hx8
            subst ej
            refine thn_normal ?_
            exact Sub.env ⟨rfl, rfl, rfl, rfl, rfl, trivial⟩
          · replace hx8 := iteBF hb9 hx8
            refine AWP.region ?_
            refine AOps.move rfl rfl ?_
            refine AOps.move rfl rfl ?_
            refine S.idxO ha31 rfl rfl rfl rfl rfl ?_
            refine W.fieldAddr rfl rfl rfl rfl ?_
            refine S.loadO ha31 rfl rfl rfl rfl rfl ?_
            refine AOps.not rfl rfl ?_
            refine AOps.move rfl rfl ?_
            refine AOps.guardF rfl rfl rfl hb9 ?_
            refine AOps.guardF rfl rfl rfl hb9 ?_
            refine AOps.guardF rfl rfl rfl hb9 ?_
            refine AOps.guardF rfl rfl rfl hb9 ?_
            refine AOps.guardF rfl rfl rfl hb9 ?_
            refine AOps.guardF rfl rfl rfl hb9 ?_
            refine AOps.guardF rfl rfl rfl hb9 ?_
            refine AOps.pickF rfl hb9 rfl rfl ?_
            refine AOps.nil ?_
            have ej := Option.some.inj hx8
            subst ej
            refine thn_normal ?_
            exact Sub.env ⟨rfl, rfl, rfl, rfl, rfl, trivial⟩
        · refine AWP.iteB rfl h (fun hc10 h => ?_) (fun hc10 h => ?_)
          · refine AWP.seq ?_
            refine AWP.region ?_
            refine AOps.move rfl rfl ?_
            refine W.build rfl rfl rfl rfl ?_
            refine AOps.assign rfl rfl ?_
            refine AOps.assign rfl rfl ?_
            refine W.storeAgg rfl rfl rfl rfl rfl rfl rfl ?_
            refine AOps.nil ?_
            refine thn_normal ?_
            refine AWP.ret ?_
            refine inB_ret ?_
            refine thn_ret ?_
            have ej := Option.some.inj h
            subst ej
            refine thn_ret ⟨_, rfl, rfl, ?_⟩
            exact Done.ret rfl rfl
          · refine AWP.skip ?_
            refine inB_normal ?_
            refine thn_normal ?_
            refine AWP.region ?_
            refine AOps.move rfl rfl ?_
            refine S.sub rfl rfl rfl ?_
            refine AOps.assign rfl rfl ?_
            refine AOps.nil ?_
            have ej := Option.some.inj h
            subst ej
            refine thn_normal ⟨_, rfl, ?_⟩
            exact Sub.env ⟨rfl, rfl, rfl, rfl, trivial⟩
      · refine AWP.exit ?_
        refine thn_exit ?_
        have ej := Option.some.inj h
        subst ej
        refine thn_exit ⟨_, rfl, rfl, ?_⟩
        exact Sub.cut ⟨rfl, trivial⟩ rfl ⟨.dead, .one rfl, trivial⟩ rfl
    · intro e s hq
      rcases oo with u | x
      · try dsimp only at h hq
        obtain ⟨rfl, hs⟩ := hq
        refine ⟨_, hs, ?_⟩
        refine inB_exit ?_
        refine thn_normal ?_
        refine AWP.seq ?_
        refine AWP.region ?_
        refine W.build rfl rfl rfl rfl ?_
        refine AOps.assign rfl rfl ?_
        refine AOps.assign rfl rfl ?_
        refine W.storeAgg rfl rfl rfl rfl rfl rfl rfl ?_
        refine AOps.nil ?_
        refine thn_normal ?_
        refine AWP.ret ?_
        have ej := Option.some.inj h
        subst ej
        exact Done.ret rfl rfl
      · try dsimp only at h hq
        obtain ⟨rfl, hs⟩ := hq
        refine ⟨_, Sub.refl _ _, ?_⟩
        refine inB_ret ?_
        refine thn_ret ?_
        have ej := Option.some.inj h
        subst ej
        exact hs

theorem equal_Numbers_ok {av : List Int} {bv : List Int} {r : Bool} (h : equal_Numbers av bv = some r) : PureOk Try.prog 20 [.c (row 1 intI av), .c (row 1 intI bv)] (.c (bool r)) := by
  unfold PureOk
  refine FnOk.enter (rs := [.t 4]) Try.func20 rfl Try.ntmps20 Try.results20 rfl ⟨trivial, trivial⟩ (by kernel_rfl) rfl ?_
  unfold equal_Numbers at h
  refine AWP.seq ?_
  refine AWP.region ?_
  refine AOps.assign rfl rfl ?_
  refine AOps.nil ?_
  refine thn_normal ?_
  refine AWP.seq ?_
  refine AWP.seq ?_
  refine AWP.region ?_
  refine AOps.move rfl rfl ?_
  refine S.len rfl rfl (fun hl7 => ?_)
  refine AOps.move rfl rfl ?_
  refine S.len rfl rfl (fun hl9 => ?_)
  refine AOps.neq rfl rfl rfl ?_
  refine AOps.nil ?_
  refine thn_normal ?_
  refine AWP.iteN rfl h (fun hc3 h => ?_) (fun hc3 h => ?_)
  · refine AWP.seq ?_
    refine AWP.region ?_
    refine AOps.assign rfl rfl ?_
    refine AOps.nil ?_
    refine thn_normal ?_
    refine AWP.ret ?_
    refine thn_ret ?_
    have ej := Option.some.inj h
    subst ej
    exact Done.ret rfl rfl
  · refine AWP.skip ?_
    refine thn_normal ?_
    refine AWP.seq ?_
    refine AWP.seq ?_
    refine AWP.region ?_
    refine AOps.assign rfl rfl ?_
    refine AOps.nil ?_
    refine thn_normal ?_
    refine AWP.block ?_
    obtain ⟨oo, ho1, h⟩ := bind_some h
    refine AWP.rngS ho1 (fun iv4 _ => ⟨[(0, .c (row 1 intI av)), (1, .c (row 1 intI bv)), (5, .c (int iv4))], []⟩) (fun o e st => match o with | .inl _ => e = .exit 0 ∧ Sub [] st ⟨[], []⟩ | .inr x => e = .ret ∧ Done [.t 4] (fun t _ => t = .c (bool x)) .ret st) ?_ ?_ ?_ ?_
    · try dsimp only
      exact Sub.env ⟨rfl, rfl, rfl, trivial⟩
    · intro iv4 s hloiv4 hltiv4 _
      try dsimp only
      refine AWP.seq ?_
      refine AWP.seq ?_
      refine AWP.region ?_
      refine AOps.move rfl rfl ?_
      refine AOps.move rfl rfl ?_
      refine S.len rfl rfl (fun hl13 => ?_)
      refine AOps.lss rfl rfl rfl ?_
      refine AOps.nil ?_
      refine thn_normal ?_
      refine AWP.condNP rfl hltiv4 ?_
      refine AWP.exit ?_
      refine thn_exit ?_
      refine thn_exit ⟨rfl, ?_⟩
      exact Sub.env trivial
    · intro iv4 s o hloiv4 hltiv4 h
      unfold equal_Numbers_l1 at h
      try dsimp only at h ⊢
      refine AWP.seq ?_
      refine AWP.seq ?_
      refine AWP.region ?_
      refine AOps.move rfl rfl ?_
      refine AOps.move rfl rfl ?_
      refine S.len rfl rfl (fun hl13 => ?_)
      refine AOps.lss rfl rfl rfl ?_
      refine AOps.nil ?_
      refine thn_normal ?_
      refine AWP.condP rfl hltiv4 ?_
      refine AWP.skip ?_
      refine thn_normal ?_
      refine AWP.seq ?_
      refine AWP.block ?_
      refine AWP.seq ?_
      obtain ⟨a19, ha19, h⟩ := bind_some h
      obtain ⟨a23, ha23, h⟩ := bind_some h
      refine AWP.drawI mixed rfl ?_
      apply DrawSeq.consF; exact rfl; intro E
      refine AOps.move rfl rfl ?_
      exact AOps.nil ⟨rfl, rfl⟩
      exact rfl
      apply DrawSeq.consF; exact rfl; intro E
      refine AOps.move rfl rfl ?_
      exact AOps.nil ⟨rfl, rfl⟩
      exact rfl
      apply DrawSeq.consF; exact rfl; intro E
      refine S.idx ha19 rfl rfl rfl rfl ?_
      exact AOps.nil ⟨rfl, rfl⟩
      exact rfl
      apply DrawSeq.consF; exact rfl; intro E
      refine AOps.loadI rfl rfl rfl rfl ?_
      exact AOps.nil ⟨rfl, rfl⟩
      exact rfl
      apply DrawSeq.consF; exact rfl; intro E
      refine AOps.move rfl rfl ?_
      exact AOps.nil ⟨rfl, rfl⟩
      exact rfl
      apply DrawSeq.consF; exact rfl; intro E
      refine AOps.move rfl rfl ?_
      exact AOps.nil ⟨rfl, rfl⟩
      exact rfl
      apply DrawSeq.consF; exact rfl; intro E
      refine S.idx ha23 rfl rfl rfl rfl ?_
      exact AOps.nil ⟨rfl, rfl⟩
      exact rfl
      apply DrawSeq.consF; exact rfl; intro E
      refine AOps.loadI rfl rfl rfl rfl ?_
      exact AOps.nil ⟨rfl, rfl⟩
      exact rfl
      apply DrawSeq.consF; exact rfl; intro E
      refine AOps.neq rfl rfl rfl ?_
      exact AOps.nil ⟨rfl, rfl⟩
      exact rfl
      refine DrawSeq.done ?_
      dsimp only [envEnd]
      refine thn_normal ?_
      refine AWP.iteN rfl h (fun hc5 h => ?_) (fun hc5 h => ?_)
      · refine AWP.seq ?_
        refine AWP.region ?_
        refine AOps.assign rfl rfl ?_
        refine AOps.nil ?_
        refine thn_normal ?_
        refine AWP.ret ?_
        refine inB_ret ?_
        refine thn_ret ?_
        have ej := Option.some.inj h
        subst ej
        refine thn_ret ⟨_, rfl, rfl, ?_⟩
        exact Done.ret rfl rfl
      · refine AWP.skip ?_
        refine inB_normal ?_
        refine thn_normal ?_
        refine AWP.region ?_
        refine AOps.move rfl rfl ?_
        refine AOps.add rfl rfl rfl (by omega) ?_
        refine AOps.assign rfl rfl ?_
        refine AOps.nil ?_
        have ej := Option.some.inj h
        subst ej
        refine thn_normal ⟨_, rfl, ?_⟩
        exact Sub.env ⟨rfl, rfl, rfl, trivial⟩
    · intro e s hq
      rcases oo with u | x
      · try dsimp only at h hq
        obtain ⟨rfl, hs⟩ := hq
        refine ⟨_, hs, ?_⟩
        refine inB_exit ?_
        refine thn_normal ?_
        refine AWP.seq ?_
        refine AWP.region ?_
        refine AOps.assign rfl rfl ?_
        refine AOps.nil ?_
        refine thn_normal ?_
        refine AWP.ret ?_
        have ej := Option.some.inj h
        subst ej
        exact Done.ret rfl rfl
      · try dsimp only at h hq
        obtain ⟨rfl, hs⟩ := hq
        refine ⟨_, Sub.refl _ _, ?_⟩
        refine inB_ret ?_
        refine thn_ret ?_
        have ej := Option.some.inj h
        subst ej
        exact hs

theorem equal_Sets_ok {av : List (List Int)} {bv : List (List Int)} {r : Bool} (h : equal_Sets av bv = some r) : PureOk Try.prog 28 [.c (row 1 eLi64 av), .c (row 1 eLi64 bv)] (.c (bool r)) := by
  unfold PureOk
  refine FnOk.enter (rs := [.t 4]) Try.func28 rfl Try.ntmps28 Try.results28 rfl ⟨trivial, trivial⟩ (by kernel_rfl) rfl ?_
  unfold equal_Sets at h
  refine AWP.seq ?_
  refine AWP.region ?_
  refine AOps.assign rfl rfl ?_
  refine AOps.nil ?_
  refine thn_normal ?_
  refine AWP.seq ?_
  refine AWP.seq ?_
  refine AWP.region ?_
  refine AOps.move rfl rfl ?_
  refine S.len rfl rfl (fun hl7 => ?_)
  refine AOps.move rfl rfl ?_
  refine S.len rfl rfl (fun hl9 => ?_)
  refine AOps.neq rfl rfl rfl ?_
  refine AOps.nil ?_
  refine thn_normal ?_
  refine AWP.iteN rfl h (fun hc3 h => ?_) (fun hc3 h => ?_)
  · refine AWP.seq ?_
    refine AWP.region ?_
    refine AOps.assign rfl rfl ?_
    refine AOps.nil ?_
    refine thn_normal ?_
    refine AWP.ret ?_
    refine thn_ret ?_
    have ej := Option.some.inj h
    subst ej
    exact Done.ret rfl rfl
  · refine AWP.skip ?_
    refine thn_normal ?_
    refine AWP.seq ?_
    refine AWP.seq ?_
    refine AWP.region ?_
    refine AOps.assign rfl rfl ?_
    refine AOps.nil ?_
    refine thn_normal ?_
    refine AWP.block ?_
    obtain ⟨oo, ho1, h⟩ := bind_some h
    refine AWP.rngS ho1 (fun iv4 _ => ⟨[(0, .c (row 1 eLi64 av)), (1, .c (row 1 eLi64 bv)), (5, .c (int iv4))], []⟩) (fun o e st => match o with | .inl _ => e = .exit 0 ∧ Sub [] st ⟨[], []⟩ | .inr x => e = .ret ∧ Done [.t 4] (fun t _ => t = .c (bool x)) .ret st) ?_ ?_ ?_ ?_
    · try dsimp only
      exact Sub.env ⟨rfl, rfl, rfl, trivial⟩
    · intro iv4 s hloiv4 hltiv4 _
      try dsimp only
      refine AWP.seq ?_
      refine AWP.seq ?_
      refine AWP.region ?_
      refine AOps.move rfl rfl ?_
      refine AOps.move rfl rfl ?_
      refine S.len rfl rfl (fun hl13 => ?_)
      refine AOps.lss rfl rfl rfl ?_
      refine AOps.nil ?_
      refine thn_normal ?_
      refine AWP.condNP rfl hltiv4 ?_
      refine AWP.exit ?_
      refine thn_exit ?_
      refine thn_exit ⟨rfl, ?_⟩
      exact Sub.env trivial
    · intro iv4 s o hloiv4 hltiv4 h
      unfold equal_Sets_l1 at h
      try dsimp only at h ⊢
      refine AWP.seq ?_
      refine AWP.seq ?_
      refine AWP.region ?_
      refine AOps.move rfl rfl ?_
      refine AOps.move rfl rfl ?_
      refine S.len rfl rfl (fun hl13 => ?_)
      refine AOps.lss rfl rfl rfl ?_
      refine AOps.nil ?_
      refine thn_normal ?_
      refine AWP.condP rfl hltiv4 ?_
      refine AWP.skip ?_
      refine thn_normal ?_
      refine AWP.seq ?_
      refine AWP.block ?_
      refine AWP.seq ?_
      obtain ⟨a19, ha19, h⟩ := bind_some h
      obtain ⟨a23, ha23, h⟩ := bind_some h
      obtain ⟨a25, ha25, h⟩ := bind_some h
      refine AWP.drawI mixed rfl ?_
      apply DrawSeq.consF; exact rfl; intro E
      refine AOps.move rfl rfl ?_
      exact AOps.nil ⟨rfl, rfl⟩
      exact rfl
      apply DrawSeq.consF; exact rfl; intro E
      refine AOps.move rfl rfl ?_
      exact AOps.nil ⟨rfl, rfl⟩
      exact rfl
      apply DrawSeq.consF; exact rfl; intro E
      refine S.idx ha19 rfl rfl rfl rfl ?_
      exact AOps.nil ⟨rfl, rfl⟩
      exact rfl
      apply DrawSeq.consF; exact rfl; intro E
      refine AOps.loadI rfl rfl rfl rfl ?_
      exact AOps.nil ⟨rfl, rfl⟩
      exact rfl
      apply DrawSeq.consF; exact rfl; intro E
      refine AOps.move rfl rfl ?_
      exact AOps.nil ⟨rfl, rfl⟩
      exact rfl
      apply DrawSeq.consF; exact rfl; intro E
      refine AOps.move rfl rfl ?_
      exact AOps.nil ⟨rfl, rfl⟩
      exact rfl
      apply DrawSeq.consF; exact rfl; intro E
      refine S.idx ha23 rfl rfl rfl rfl ?_
      exact AOps.nil ⟨rfl, rfl⟩
      exact rfl
      apply DrawSeq.consF; exact rfl; intro E
      refine AOps.loadI rfl rfl rfl rfl ?_
      exact AOps.nil ⟨rfl, rfl⟩
      exact rfl
      apply DrawSeq.consF; exact rfl; intro E
      refine AOps.callR rfl rfl rfl rfl (equal_Numbers_ok ha25) rfl ?_
      exact AOps.nil ⟨rfl, rfl⟩
      exact rfl
      apply DrawSeq.consF; exact rfl; intro E
      refine AOps.not rfl rfl ?_
      exact AOps.nil ⟨rfl, rfl⟩
      exact rfl
      refine DrawSeq.done ?_
      dsimp only [envEnd]
      refine thn_normal ?_
      refine AWP.iteB rfl h (fun hc5 h => ?_) (fun hc5 h => ?_)
      · refine AWP.seq ?_
        refine AWP.region ?_
        refine AOps.assign rfl rfl ?_
        refine AOps.nil ?_
        refine thn_normal ?_
        refine AWP.ret ?_
        refine inB_ret ?_
        refine thn_ret ?_
        have ej := Option.some.inj h
        subst ej
        refine thn_ret ⟨_, rfl, rfl, ?_⟩
        exact Done.ret rfl rfl
      · refine AWP.skip ?_
        refine inB_normal ?_
        refine thn_normal ?_
        refine AWP.region ?_
        refine AOps.move rfl rfl ?_
        refine AOps.add rfl rfl rfl (by omega) ?_
        refine AOps.assign rfl rfl ?_
        refine AOps.nil ?_
        have ej := Option.some.inj h
        subst ej
        refine thn_normal ⟨_, rfl, ?_⟩
        exact Sub.env ⟨rfl, rfl, rfl, trivial⟩
    · intro e s hq
      rcases oo with u | x
      · try dsimp only at h hq
        obtain ⟨rfl, hs⟩ := hq
        refine ⟨_, hs, ?_⟩
        refine inB_exit ?_
        refine thn_normal ?_
        refine AWP.seq ?_
        refine AWP.region ?_
        refine AOps.assign rfl rfl ?_
        refine AOps.nil ?_
        refine thn_normal ?_
        refine AWP.ret ?_
        have ej := Option.some.inj h
        subst ej
        exact Done.ret rfl rfl
      · try dsimp only at h hq
        obtain ⟨rfl, hs⟩ := hq
        refine ⟨_, Sub.refl _ _, ?_⟩
        refine inB_ret ?_
        refine thn_ret ?_
        have ej := Option.some.inj h
        subst ej
        exact hs

theorem equal_Truths_ok {av : List Bool} {bv : List Bool} {r : Bool} (h : equal_Truths av bv = some r) : PureOk Try.prog 29 [.c (row 1 eBool av), .c (row 1 eBool bv)] (.c (bool r)) := by
  unfold PureOk
  refine FnOk.enter (rs := [.t 4]) Try.func29 rfl Try.ntmps29 Try.results29 rfl ⟨trivial, trivial⟩ (by kernel_rfl) rfl ?_
  unfold equal_Truths at h
  refine AWP.seq ?_
  refine AWP.region ?_
  refine AOps.assign rfl rfl ?_
  refine AOps.nil ?_
  refine thn_normal ?_
  refine AWP.seq ?_
  refine AWP.seq ?_
  refine AWP.region ?_
  refine AOps.move rfl rfl ?_
  refine S.len rfl rfl (fun hl7 => ?_)
  refine AOps.move rfl rfl ?_
  refine S.len rfl rfl (fun hl9 => ?_)
  refine AOps.neq rfl rfl rfl ?_
  refine AOps.nil ?_
  refine thn_normal ?_
  refine AWP.iteN rfl h (fun hc3 h => ?_) (fun hc3 h => ?_)
  · refine AWP.seq ?_
    refine AWP.region ?_
    refine AOps.assign rfl rfl ?_
    refine AOps.nil ?_
    refine thn_normal ?_
    refine AWP.ret ?_
    refine thn_ret ?_
    have ej := Option.some.inj h
    subst ej
    exact Done.ret rfl rfl
  · refine AWP.skip ?_
    refine thn_normal ?_
    refine AWP.seq ?_
    refine AWP.seq ?_
    refine AWP.region ?_
    refine AOps.assign rfl rfl ?_
    refine AOps.nil ?_
    refine thn_normal ?_
    refine AWP.block ?_
    obtain ⟨oo, ho1, h⟩ := bind_some h
    refine AWP.rngS ho1 (fun iv4 _ => ⟨[(0, .c (row 1 eBool av)), (1, .c (row 1 eBool bv)), (5, .c (int iv4))], []⟩) (fun o e st => match o with | .inl _ => e = .exit 0 ∧ Sub [] st ⟨[], []⟩ | .inr x => e = .ret ∧ Done [.t 4] (fun t _ => t = .c (bool x)) .ret st) ?_ ?_ ?_ ?_
    · try dsimp only
      exact Sub.env ⟨rfl, rfl, rfl, trivial⟩
    · intro iv4 s hloiv4 hltiv4 _
      try dsimp only
      refine AWP.seq ?_
      refine AWP.seq ?_
      refine AWP.region ?_
      refine AOps.move rfl rfl ?_
      refine AOps.move rfl rfl ?_
      refine S.len rfl rfl (fun hl13 => ?_)
      refine AOps.lss rfl rfl rfl ?_
      refine AOps.nil ?_
      refine thn_normal ?_
      refine AWP.condNP rfl hltiv4 ?_
      refine AWP.exit ?_
      refine thn_exit ?_
      refine thn_exit ⟨rfl, ?_⟩
      exact Sub.env trivial
    · intro iv4 s o hloiv4 hltiv4 h
      unfold equal_Truths_l1 at h
      try dsimp only at h ⊢
      refine AWP.seq ?_
      refine AWP.seq ?_
      refine AWP.region ?_
      refine AOps.move rfl rfl ?_
      refine AOps.move rfl rfl ?_
      refine S.len rfl rfl (fun hl13 => ?_)
      refine AOps.lss rfl rfl rfl ?_
      refine AOps.nil ?_
      refine thn_normal ?_
      refine AWP.condP rfl hltiv4 ?_
      refine AWP.skip ?_
      refine thn_normal ?_
      refine AWP.seq ?_
      refine AWP.block ?_
      refine AWP.seq ?_
      obtain ⟨a19, ha19, h⟩ := bind_some h
      obtain ⟨a23, ha23, h⟩ := bind_some h
      refine AWP.drawI mixed rfl ?_
      apply DrawSeq.consF; exact rfl; intro E
      refine AOps.move rfl rfl ?_
      exact AOps.nil ⟨rfl, rfl⟩
      exact rfl
      apply DrawSeq.consF; exact rfl; intro E
      refine AOps.move rfl rfl ?_
      exact AOps.nil ⟨rfl, rfl⟩
      exact rfl
      apply DrawSeq.consF; exact rfl; intro E
      refine S.idx ha19 rfl rfl rfl rfl ?_
      exact AOps.nil ⟨rfl, rfl⟩
      exact rfl
      apply DrawSeq.consF; exact rfl; intro E
      refine AOps.loadI rfl rfl rfl rfl ?_
      exact AOps.nil ⟨rfl, rfl⟩
      exact rfl
      apply DrawSeq.consF; exact rfl; intro E
      refine AOps.move rfl rfl ?_
      exact AOps.nil ⟨rfl, rfl⟩
      exact rfl
      apply DrawSeq.consF; exact rfl; intro E
      refine AOps.move rfl rfl ?_
      exact AOps.nil ⟨rfl, rfl⟩
      exact rfl
      apply DrawSeq.consF; exact rfl; intro E
      refine S.idx ha23 rfl rfl rfl rfl ?_
      exact AOps.nil ⟨rfl, rfl⟩
      exact rfl
      apply DrawSeq.consF; exact rfl; intro E
      refine AOps.loadI rfl rfl rfl rfl ?_
      exact AOps.nil ⟨rfl, rfl⟩
      exact rfl
      apply DrawSeq.consF; exact rfl; intro E
      refine AOps.neqB rfl rfl rfl ?_
      exact AOps.nil ⟨rfl, rfl⟩
      exact rfl
      refine DrawSeq.done ?_
      dsimp only [envEnd]
      refine thn_normal ?_
      refine AWP.iteN rfl h (fun hc5 h => ?_) (fun hc5 h => ?_)
      · refine AWP.seq ?_
        refine AWP.region ?_
        refine AOps.assign rfl rfl ?_
        refine AOps.nil ?_
        refine thn_normal ?_
        refine AWP.ret ?_
        refine inB_ret ?_
        refine thn_ret ?_
        have ej := Option.some.inj h
        subst ej
        refine thn_ret ⟨_, rfl, rfl, ?_⟩
        exact Done.ret rfl rfl
      · refine AWP.skip ?_
        refine inB_normal ?_
        refine thn_normal ?_
        refine AWP.region ?_
        refine AOps.move rfl rfl ?_
        refine AOps.add rfl rfl rfl (by omega) ?_
        refine AOps.assign rfl rfl ?_
        refine AOps.nil ?_
        have ej := Option.some.inj h
        subst ej
        refine thn_normal ⟨_, rfl, ?_⟩
        exact Sub.env ⟨rfl, rfl, rfl, trivial⟩
    · intro e s hq
      rcases oo with u | x
      · try dsimp only at h hq
        obtain ⟨rfl, hs⟩ := hq
        refine ⟨_, hs, ?_⟩
        refine inB_exit ?_
        refine thn_normal ?_
        refine AWP.seq ?_
        refine AWP.region ?_
        refine AOps.assign rfl rfl ?_
        refine AOps.nil ?_
        refine thn_normal ?_
        refine AWP.ret ?_
        have ej := Option.some.inj h
        subst ej
        exact Done.ret rfl rfl
      · try dsimp only at h hq
        obtain ⟨rfl, hs⟩ := hq
        refine ⟨_, Sub.refl _ _, ?_⟩
        refine inB_ret ?_
        refine thn_ret ?_
        have ej := Option.some.inj h
        subst ej
        exact hs

theorem law8_watched_ok {r : Bool} (h : law8_watched = some r) : PureOk Try.prog 11 [] (.c (bool r)) := by
  unfold PureOk
  refine FnOk.enter (rs := [.t 0]) Try.func11 rfl Try.ntmps11 Try.results11 rfl ⟨trivial, trivial⟩ (by kernel_rfl) rfl ?_
  unfold law8_watched at h
  refine AWP.seq ?_
  refine AWP.region ?_
  refine AOps.assign rfl rfl ?_
  refine AOps.nil ?_
  refine thn_normal ?_
  refine AWP.seq ?_
  obtain ⟨a8, ha8, h⟩ := bind_some h
  obtain ⟨a10, ha10, h⟩ := bind_some h
  refine AWP.region ?_
  refine AOps.callR rfl rfl rfl rfl (law8_step_ok ha8) rfl ?_
  refine S.lit (f := intI) (l := [0]) (ess := [[int 0]]) rfl rfl rfl rfl rfl rfl rfl ⟨⟨.inl rfl, trivial⟩, trivial⟩ rfl rfl rfl ?_
  refine AOps.frzV (id := 0) (l := [0]) (env2 := [(8, .agg [int a8.facts, row 1 intI a8.init, row 1 intI a8.goal, row 4 eTOperator a8.operators]), (9, .c (row 1 intI [0]))]) (σ2 := [.dead]) rfl rfl (by exact ⟨⟨_, rfl, ⟨.inl ⟨rfl, rfl⟩, .inl ⟨rfl, rfl⟩, .inl ⟨rfl, rfl⟩, .inl ⟨rfl, rfl⟩, trivial⟩⟩, ⟨_, rfl, .inr ⟨_, rfl, rfl, rfl⟩⟩, trivial⟩) rfl (by exact ⟨trivial, trivial⟩) ?_; refine AOps.callR rfl rfl rfl rfl (monitor_Conditions_ok ha10) rfl ?_
  refine AOps.move rfl rfl ?_
  refine AOps.extract rfl rfl rfl ?_
  refine AOps.extract rfl rfl rfl ?_
  refine AOps.extract rfl rfl rfl ?_
  refine W.alloc rfl rfl rfl rfl ?_
  refine AOps.assign rfl rfl ?_
  refine AOps.assign rfl rfl ?_
  refine W.storeAgg rfl rfl rfl rfl rfl rfl rfl ?_
  refine AOps.nil ?_
  refine thn_normal ?_
  refine AWP.seq ?_
  obtain ⟨a15, ha15, h⟩ := bind_some h
  obtain ⟨a18, ha18, h⟩ := bind_some h
  refine AWP.region ?_
  refine AOps.callR rfl rfl rfl rfl (law8_step_ok ha15) rfl ?_
  refine S.lit (f := intI) (l := [0]) (ess := [[int 0]]) rfl rfl rfl rfl rfl rfl rfl ⟨⟨.inl rfl, trivial⟩, trivial⟩ rfl rfl rfl ?_
  refine S.lit (f := intI) (l := [0]) (ess := [[int 0]]) rfl rfl rfl rfl rfl rfl rfl ⟨⟨.inl rfl, trivial⟩, trivial⟩ rfl rfl rfl ?_
  refine AOps.callL rfl rfl (.cons (.agg (.cons .imm (.cons .imm (.cons .imm (.cons .imm .nil))))) (.cons (.c (.own rfl rfl)) (.cons (.c (.own rfl rfl)) .nil))) rfl (monitor_Resume_ok ha18) rfl ?_
  refine AOps.move rfl rfl ?_
  refine AOps.extract rfl rfl rfl ?_
  refine AOps.extract rfl rfl rfl ?_
  refine AOps.extract rfl rfl rfl ?_
  refine W.alloc rfl rfl rfl rfl ?_
  refine AOps.assign rfl rfl ?_
  refine AOps.assign rfl rfl ?_
  refine W.storeAgg rfl rfl rfl rfl rfl rfl rfl ?_
  refine AOps.nil ?_
  refine thn_normal ?_
  obtain ⟨t1, hx2, h⟩ := bind_some h
  refine AWP.seqJ (⟨[(0, .c (bool t1))], []⟩) ?_ ?_
  · rcases Bool.eq_false_or_eq_true (decide (a10.2.2.code = 0)) with hb3 | hb3
    · replace hx2 := iteDT hb3 hx2
      rcases Bool.eq_false_or_eq_true (decide (a18.2.2.code = 0)) with hb4 | hb4
      · replace hx2 := iteDT hb4 hx2
        rcases Bool.eq_false_or_eq_true (a18.2.1) with hb5 | hb5
        · replace hx2 := iteBT hb5 hx2
          rcases Bool.eq_false_or_eq_true (decide (a18.1 = 0)) with hb6 | hb6
          · replace hx2 := iteDT hb6 hx2
            obtain ⟨a42, ha42, hx2⟩ := bind_some hx2
            rcases Bool.eq_false_or_eq_true (a42) with hb7 | hb7
            · replace hx2 := iteBT hb7 hx2
              obtain ⟨a47, ha47, hx2⟩ := bind_some hx2
              refine AWP.region ?_
              refine W.fieldAddr rfl rfl rfl rfl ?_
              refine AOps.load rfl rfl rfl rfl rfl rfl ?_
              refine AOps.eql rfl rfl rfl ?_
              refine AOps.move rfl rfl ?_
              refine AOps.guardT rfl rfl rfl hb3 ?_; refine W.fieldAddr rfl rfl rfl rfl ?_
              refine AOps.guardT rfl rfl rfl hb3 ?_; refine AOps.load rfl rfl rfl rfl rfl rfl ?_
              refine AOps.guardT rfl rfl rfl hb3 ?_; refine AOps.eql rfl rfl rfl ?_
              refine AOps.pickT rfl hb3 rfl rfl ?_
              refine AOps.move rfl rfl ?_
              refine AOps.guardT rfl rfl rfl hb4 ?_; refine AOps.move rfl rfl ?_
              refine AOps.pickT rfl hb4 rfl rfl ?_
              refine AOps.move rfl rfl ?_
              refine AOps.guardT rfl rfl rfl hb5 ?_; refine AOps.move rfl rfl ?_
              refine AOps.guardT rfl rfl rfl hb5 ?_; refine AOps.eql rfl rfl rfl ?_
              refine AOps.pickT rfl hb5 rfl rfl ?_
              refine AOps.move rfl rfl ?_
              refine AOps.guardT rfl rfl rfl hb6 ?_; refine AOps.move rfl rfl ?_
              refine AOps.guardT rfl rfl rfl hb6 ?_; refine S.lit (f := intI) (l := [0]) (ess := [[int 0]]) rfl rfl rfl rfl rfl rfl rfl ⟨⟨.inl rfl, trivial⟩, trivial⟩ rfl rfl rfl ?_
              refine AOps.guardT rfl rfl rfl hb6 ?_; refine S.lit (f := intI) (l := [1]) (ess := [[int 1]]) rfl rfl rfl rfl rfl rfl rfl ⟨⟨.inl rfl, trivial⟩, trivial⟩ rfl rfl rfl ?_
              refine AOps.guardT rfl rfl rfl hb6 ?_; refine AOps.frzV (id := 5) (l := [0]) (env2 := [(2, .c (row 1 eBool a10.2.1)), (37, .c (bool (decide (a18.1 = 0)))), (38, .c (row 1 eLi64 a10.1)), (39, .c (row 1 intI [0])), (40, .c (.own 6 0 ([1].length)))]) (σ2 := [.dead, .one (.cells 2 [[int a10.2.2.code, int a10.2.2.index]]), .one (vec 1 intI [0]), .one (vec 1 intI [0]), .one (.cells 2 [[int a18.2.2.code, int a18.2.2.index]]), .dead, .one (vec 1 intI [1])]) rfl rfl (by exact ⟨⟨_, rfl, .inl ⟨rfl, rfl⟩⟩, ⟨_, rfl, .inl ⟨rfl, rfl⟩⟩, ⟨_, rfl, .inl ⟨rfl, rfl⟩⟩, ⟨_, rfl, .inr ⟨_, rfl, rfl, rfl⟩⟩, ⟨_, rfl, .inl ⟨rfl, rfl⟩⟩, trivial⟩) rfl (by exact ⟨trivial, ⟨rfl, .inl ⟨rfl, rfl⟩, .inl ⟨rfl, rfl⟩, trivial⟩, FrzB.vec, FrzB.vec, ⟨rfl, .inl ⟨rfl, rfl⟩, .inl ⟨rfl, rfl⟩, trivial⟩, trivial, FrzB.vec, trivial⟩) ?_; refine AOps.frzV (id := 6) (l := [1]) (env2 := [(2, .c (row 1 eBool a10.2.1)), (37, .c (bool (decide (a18.1 = 0)))), (38, .c (row 1 eLi64 a10.1)), (39, .c (row 1 intI [0])), (40, .c (row 1 intI [1]))]) (σ2 := [.dead, .one (.cells 2 [[int a10.2.2.code, int a10.2.2.index]]), .one (vec 1 intI [0]), .one (vec 1 intI [0]), .one (.cells 2 [[int a18.2.2.code, int a18.2.2.index]]), .dead, .dead]) rfl rfl (by exact ⟨⟨_, rfl, .inl ⟨rfl, rfl⟩⟩, ⟨_, rfl, .inl ⟨rfl, rfl⟩⟩, ⟨_, rfl, .inl ⟨rfl, rfl⟩⟩, ⟨_, rfl, .inl ⟨rfl, rfl⟩⟩, ⟨_, rfl, .inr ⟨_, rfl, rfl, rfl⟩⟩, trivial⟩) rfl (by exact ⟨trivial, ⟨rfl, .inl ⟨rfl, rfl⟩, .inl ⟨rfl, rfl⟩, trivial⟩, FrzB.vec, FrzB.vec, ⟨rfl, .inl ⟨rfl, rfl⟩, .inl ⟨rfl, rfl⟩, trivial⟩, trivial, trivial, trivial⟩) ?_; refine S.lit (f := eLi64) (l := [[0], [1]]) (ess := [[row 1 intI [0]], [row 1 intI [1]]]) rfl rfl rfl rfl rfl rfl rfl ⟨⟨.inl rfl, trivial⟩, ⟨.inl rfl, trivial⟩, trivial⟩ rfl rfl rfl ?_
              refine AOps.guardT rfl rfl rfl hb6 ?_; refine AOps.callL rfl rfl (.cons (.c .imm) (.cons (.c (.own rfl rfl)) .nil)) rfl (equal_Sets_ok ha42) rfl ?_
              refine AOps.pickT rfl hb6 rfl rfl ?_
              refine AOps.move rfl rfl ?_
              refine AOps.guardT rfl rfl rfl hb7 ?_; refine AOps.move rfl rfl ?_
              refine AOps.guardT rfl rfl rfl hb7 ?_; refine S.lit (f := eBool) (l := [true, true]) (ess := [[bool true], [bool true]]) rfl rfl rfl rfl rfl rfl rfl ⟨⟨.inl rfl, trivial⟩, ⟨.inl rfl, trivial⟩, trivial⟩ rfl rfl rfl ?_
              refine AOps.guardT rfl rfl rfl hb7 ?_; refine AOps.callL rfl rfl (.cons (.c .imm) (.cons (.c (.own rfl rfl)) .nil)) rfl (equal_Truths_ok ha47) rfl ?_
              refine AOps.pickT rfl hb7 rfl rfl ?_
              refine AOps.assign rfl rfl ?_
              refine AOps.nil ?_
              have ej := Option.some.inj hx2
              subst ej
              refine thn_normal ?_
              exact Sub.cut ⟨rfl, trivial⟩ rfl trivial rfl
            · replace hx2 := iteBF hb7 hx2
              refine AWP.region ?_
              refine W.fieldAddr rfl rfl rfl rfl ?_
              refine AOps.load rfl rfl rfl rfl rfl rfl ?_
              refine AOps.eql rfl rfl rfl ?_
              refine AOps.move rfl rfl ?_
              refine AOps.guardT rfl rfl rfl hb3 ?_; refine W.fieldAddr rfl rfl rfl rfl ?_
              refine AOps.guardT rfl rfl rfl hb3 ?_; refine AOps.load rfl rfl rfl rfl rfl rfl ?_
              refine AOps.guardT rfl rfl rfl hb3 ?_; refine AOps.eql rfl rfl rfl ?_
              refine AOps.pickT rfl hb3 rfl rfl ?_
              refine AOps.move rfl rfl ?_
              refine AOps.guardT rfl rfl rfl hb4 ?_; refine AOps.move rfl rfl ?_
              refine AOps.pickT rfl hb4 rfl rfl ?_
              refine AOps.move rfl rfl ?_
              refine AOps.guardT rfl rfl rfl hb5 ?_; refine AOps.move rfl rfl ?_
              refine AOps.guardT rfl rfl rfl hb5 ?_; refine AOps.eql rfl rfl rfl ?_
              refine AOps.pickT rfl hb5 rfl rfl ?_
              refine AOps.move rfl rfl ?_
              refine AOps.guardT rfl rfl rfl hb6 ?_; refine AOps.move rfl rfl ?_
              refine AOps.guardT rfl rfl rfl hb6 ?_; refine S.lit (f := intI) (l := [0]) (ess := [[int 0]]) rfl rfl rfl rfl rfl rfl rfl ⟨⟨.inl rfl, trivial⟩, trivial⟩ rfl rfl rfl ?_
              refine AOps.guardT rfl rfl rfl hb6 ?_; refine S.lit (f := intI) (l := [1]) (ess := [[int 1]]) rfl rfl rfl rfl rfl rfl rfl ⟨⟨.inl rfl, trivial⟩, trivial⟩ rfl rfl rfl ?_
              refine AOps.guardT rfl rfl rfl hb6 ?_; refine AOps.frzV (id := 5) (l := [0]) (env2 := [(2, .c (row 1 eBool a10.2.1)), (37, .c (bool (decide (a18.1 = 0)))), (38, .c (row 1 eLi64 a10.1)), (39, .c (row 1 intI [0])), (40, .c (.own 6 0 ([1].length)))]) (σ2 := [.dead, .one (.cells 2 [[int a10.2.2.code, int a10.2.2.index]]), .one (vec 1 intI [0]), .one (vec 1 intI [0]), .one (.cells 2 [[int a18.2.2.code, int a18.2.2.index]]), .dead, .one (vec 1 intI [1])]) rfl rfl (by exact ⟨⟨_, rfl, .inl ⟨rfl, rfl⟩⟩, ⟨_, rfl, .inl ⟨rfl, rfl⟩⟩, ⟨_, rfl, .inl ⟨rfl, rfl⟩⟩, ⟨_, rfl, .inr ⟨_, rfl, rfl, rfl⟩⟩, ⟨_, rfl, .inl ⟨rfl, rfl⟩⟩, trivial⟩) rfl (by exact ⟨trivial, ⟨rfl, .inl ⟨rfl, rfl⟩, .inl ⟨rfl, rfl⟩, trivial⟩, FrzB.vec, FrzB.vec, ⟨rfl, .inl ⟨rfl, rfl⟩, .inl ⟨rfl, rfl⟩, trivial⟩, trivial, FrzB.vec, trivial⟩) ?_; refine AOps.frzV (id := 6) (l := [1]) (env2 := [(2, .c (row 1 eBool a10.2.1)), (37, .c (bool (decide (a18.1 = 0)))), (38, .c (row 1 eLi64 a10.1)), (39, .c (row 1 intI [0])), (40, .c (row 1 intI [1]))]) (σ2 := [.dead, .one (.cells 2 [[int a10.2.2.code, int a10.2.2.index]]), .one (vec 1 intI [0]), .one (vec 1 intI [0]), .one (.cells 2 [[int a18.2.2.code, int a18.2.2.index]]), .dead, .dead]) rfl rfl (by exact ⟨⟨_, rfl, .inl ⟨rfl, rfl⟩⟩, ⟨_, rfl, .inl ⟨rfl, rfl⟩⟩, ⟨_, rfl, .inl ⟨rfl, rfl⟩⟩, ⟨_, rfl, .inl ⟨rfl, rfl⟩⟩, ⟨_, rfl, .inr ⟨_, rfl, rfl, rfl⟩⟩, trivial⟩) rfl (by exact ⟨trivial, ⟨rfl, .inl ⟨rfl, rfl⟩, .inl ⟨rfl, rfl⟩, trivial⟩, FrzB.vec, FrzB.vec, ⟨rfl, .inl ⟨rfl, rfl⟩, .inl ⟨rfl, rfl⟩, trivial⟩, trivial, trivial, trivial⟩) ?_; refine S.lit (f := eLi64) (l := [[0], [1]]) (ess := [[row 1 intI [0]], [row 1 intI [1]]]) rfl rfl rfl rfl rfl rfl rfl ⟨⟨.inl rfl, trivial⟩, ⟨.inl rfl, trivial⟩, trivial⟩ rfl rfl rfl ?_
              refine AOps.guardT rfl rfl rfl hb6 ?_; refine AOps.callL rfl rfl (.cons (.c .imm) (.cons (.c (.own rfl rfl)) .nil)) rfl (equal_Sets_ok ha42) rfl ?_
              refine AOps.pickT rfl hb6 rfl rfl ?_
              refine AOps.move rfl rfl ?_
              refine AOps.guardF rfl rfl rfl hb7 ?_
              refine AOps.guardF rfl rfl rfl hb7 ?_
              refine AOps.guardF rfl rfl rfl hb7 ?_
              refine AOps.pickF rfl hb7 rfl rfl ?_
              refine AOps.assign rfl rfl ?_
              refine AOps.nil ?_
              have ej := Option.some.inj hx2
              subst ej
              refine thn_normal ?_
              exact Sub.cut ⟨rfl, trivial⟩ rfl trivial rfl
          · replace hx2 := iteDF hb6 hx2
            refine AWP.region ?_
            refine W.fieldAddr rfl rfl rfl rfl ?_
            refine AOps.load rfl rfl rfl rfl rfl rfl ?_
            refine AOps.eql rfl rfl rfl ?_
            refine AOps.move rfl rfl ?_
            refine AOps.guardT rfl rfl rfl hb3 ?_; refine W.fieldAddr rfl rfl rfl rfl ?_
            refine AOps.guardT rfl rfl rfl hb3 ?_; refine AOps.load rfl rfl rfl rfl rfl rfl ?_
            refine AOps.guardT rfl rfl rfl hb3 ?_; refine AOps.eql rfl rfl rfl ?_
            refine AOps.pickT rfl hb3 rfl rfl ?_
            refine AOps.move rfl rfl ?_
            refine AOps.guardT rfl rfl rfl hb4 ?_; refine AOps.move rfl rfl ?_
            refine AOps.pickT rfl hb4 rfl rfl ?_
            refine AOps.move rfl rfl ?_
            refine AOps.guardT rfl rfl rfl hb5 ?_; refine AOps.move rfl rfl ?_
            refine AOps.guardT rfl rfl rfl hb5 ?_; refine AOps.eql rfl rfl rfl ?_
            refine AOps.pickT rfl hb5 rfl rfl ?_
            refine AOps.move rfl rfl ?_
            refine AOps.guardF rfl rfl rfl hb6 ?_
            refine AOps.guardF rfl rfl rfl hb6 ?_
            refine AOps.guardF rfl rfl rfl hb6 ?_
            refine AOps.guardF rfl rfl rfl hb6 ?_
            refine AOps.guardF rfl rfl rfl hb6 ?_
            refine AOps.pickF rfl hb6 rfl rfl ?_
            refine AOps.move rfl rfl ?_
            refine AOps.guardF rfl rfl rfl rfl ?_
            refine AOps.guardF rfl rfl rfl rfl ?_
            refine AOps.guardF rfl rfl rfl rfl ?_
            refine AOps.pickF rfl rfl rfl rfl ?_
            refine AOps.assign rfl rfl ?_
            refine AOps.nil ?_
            have ej := Option.some.inj hx2
            subst ej
            refine thn_normal ?_
            exact Sub.cut ⟨rfl, trivial⟩ rfl trivial rfl
        · replace hx2 := iteBF hb5 hx2
          refine AWP.region ?_
          refine W.fieldAddr rfl rfl rfl rfl ?_
          refine AOps.load rfl rfl rfl rfl rfl rfl ?_
          refine AOps.eql rfl rfl rfl ?_
          refine AOps.move rfl rfl ?_
          refine AOps.guardT rfl rfl rfl hb3 ?_; refine W.fieldAddr rfl rfl rfl rfl ?_
          refine AOps.guardT rfl rfl rfl hb3 ?_; refine AOps.load rfl rfl rfl rfl rfl rfl ?_
          refine AOps.guardT rfl rfl rfl hb3 ?_; refine AOps.eql rfl rfl rfl ?_
          refine AOps.pickT rfl hb3 rfl rfl ?_
          refine AOps.move rfl rfl ?_
          refine AOps.guardT rfl rfl rfl hb4 ?_; refine AOps.move rfl rfl ?_
          refine AOps.pickT rfl hb4 rfl rfl ?_
          refine AOps.move rfl rfl ?_
          refine AOps.guardF rfl rfl rfl hb5 ?_
          refine AOps.guardF rfl rfl rfl hb5 ?_
          refine AOps.pickF rfl hb5 rfl rfl ?_
          refine AOps.move rfl rfl ?_
          refine AOps.guardF rfl rfl rfl rfl ?_
          refine AOps.guardF rfl rfl rfl rfl ?_
          refine AOps.guardF rfl rfl rfl rfl ?_
          refine AOps.guardF rfl rfl rfl rfl ?_
          refine AOps.guardF rfl rfl rfl rfl ?_
          refine AOps.pickF rfl rfl rfl rfl ?_
          refine AOps.move rfl rfl ?_
          refine AOps.guardF rfl rfl rfl rfl ?_
          refine AOps.guardF rfl rfl rfl rfl ?_
          refine AOps.guardF rfl rfl rfl rfl ?_
          refine AOps.pickF rfl rfl rfl rfl ?_
          refine AOps.assign rfl rfl ?_
          refine AOps.nil ?_
          have ej := Option.some.inj hx2
          subst ej
          refine thn_normal ?_
          exact Sub.cut ⟨rfl, trivial⟩ rfl trivial rfl
      · replace hx2 := iteDF hb4 hx2
        refine AWP.region ?_
        refine W.fieldAddr rfl rfl rfl rfl ?_
        refine AOps.load rfl rfl rfl rfl rfl rfl ?_
        refine AOps.eql rfl rfl rfl ?_
        refine AOps.move rfl rfl ?_
        refine AOps.guardT rfl rfl rfl hb3 ?_; refine W.fieldAddr rfl rfl rfl rfl ?_
        refine AOps.guardT rfl rfl rfl hb3 ?_; refine AOps.load rfl rfl rfl rfl rfl rfl ?_
        refine AOps.guardT rfl rfl rfl hb3 ?_; refine AOps.eql rfl rfl rfl ?_
        refine AOps.pickT rfl hb3 rfl rfl ?_
        refine AOps.move rfl rfl ?_
        refine AOps.guardF rfl rfl rfl hb4 ?_
        refine AOps.pickF rfl hb4 rfl rfl ?_
        refine AOps.move rfl rfl ?_
        refine AOps.guardF rfl rfl rfl rfl ?_
        refine AOps.guardF rfl rfl rfl rfl ?_
        refine AOps.pickF rfl rfl rfl rfl ?_
        refine AOps.move rfl rfl ?_
        refine AOps.guardF rfl rfl rfl rfl ?_
        refine AOps.guardF rfl rfl rfl rfl ?_
        refine AOps.guardF rfl rfl rfl rfl ?_
        refine AOps.guardF rfl rfl rfl rfl ?_
        refine AOps.guardF rfl rfl rfl rfl ?_
        refine AOps.pickF rfl rfl rfl rfl ?_
        refine AOps.move rfl rfl ?_
        refine AOps.guardF rfl rfl rfl rfl ?_
        refine AOps.guardF rfl rfl rfl rfl ?_
        refine AOps.guardF rfl rfl rfl rfl ?_
        refine AOps.pickF rfl rfl rfl rfl ?_
        refine AOps.assign rfl rfl ?_
        refine AOps.nil ?_
        have ej := Option.some.inj hx2
        subst ej
        refine thn_normal ?_
        exact Sub.cut ⟨rfl, trivial⟩ rfl trivial rfl
    · replace hx2 := iteDF hb3 hx2
      refine AWP.region ?_
      refine W.fieldAddr rfl rfl rfl rfl ?_
      refine AOps.load rfl rfl rfl rfl rfl rfl ?_
      refine AOps.eql rfl rfl rfl ?_
      refine AOps.move rfl rfl ?_
      refine AOps.guardF rfl rfl rfl hb3 ?_
      refine AOps.guardF rfl rfl rfl hb3 ?_
      refine AOps.guardF rfl rfl rfl hb3 ?_
      refine AOps.pickF rfl hb3 rfl rfl ?_
      refine AOps.move rfl rfl ?_
      refine AOps.guardF rfl rfl rfl rfl ?_
      refine AOps.pickF rfl rfl rfl rfl ?_
      refine AOps.move rfl rfl ?_
      refine AOps.guardF rfl rfl rfl rfl ?_
      refine AOps.guardF rfl rfl rfl rfl ?_
      refine AOps.pickF rfl rfl rfl rfl ?_
      refine AOps.move rfl rfl ?_
      refine AOps.guardF rfl rfl rfl rfl ?_
      refine AOps.guardF rfl rfl rfl rfl ?_
      refine AOps.guardF rfl rfl rfl rfl ?_
      refine AOps.guardF rfl rfl rfl rfl ?_
      refine AOps.guardF rfl rfl rfl rfl ?_
      refine AOps.pickF rfl rfl rfl rfl ?_
      refine AOps.move rfl rfl ?_
      refine AOps.guardF rfl rfl rfl rfl ?_
      refine AOps.guardF rfl rfl rfl rfl ?_
      refine AOps.guardF rfl rfl rfl rfl ?_
      refine AOps.pickF rfl rfl rfl rfl ?_
      refine AOps.assign rfl rfl ?_
      refine AOps.nil ?_
      have ej := Option.some.inj hx2
      subst ej
      refine thn_normal ?_
      exact Sub.cut ⟨rfl, trivial⟩ rfl trivial rfl
  · refine AWP.ret ?_
    have ej := Option.some.inj h
    subst ej
    exact Done.ret rfl rfl

theorem ref1_Has_ok {l : List Int} {nv : Int} {r : Bool} (h : ref1_Has l nv = some r) : PureOk Try.prog 21 [.c (row 1 intI l), .c (int nv)] (.c (bool r)) := by
  unfold PureOk
  refine FnOk.enter (rs := [.t 4]) Try.func21 rfl Try.ntmps21 Try.results21 rfl ⟨trivial, trivial⟩ (by kernel_rfl) rfl ?_
  unfold ref1_Has at h
  refine AWP.seq ?_
  refine AWP.region ?_
  refine AOps.assign rfl rfl ?_
  refine AOps.nil ?_
  refine thn_normal ?_
  refine AWP.seq ?_
  refine AWP.seq ?_
  refine AWP.region ?_
  refine AOps.assign rfl rfl ?_
  refine AOps.nil ?_
  refine thn_normal ?_
  refine AWP.block ?_
  obtain ⟨oo, ho1, h⟩ := bind_some h
  refine AWP.rngS ho1 (fun iv3 _ => ⟨[(0, .c (row 1 intI l)), (1, .c (int nv)), (5, .c (int iv3))], []⟩) (fun o e st => match o with | .inl _ => e = .exit 0 ∧ Sub [] st ⟨[], []⟩ | .inr x => e = .ret ∧ Done [.t 4] (fun t _ => t = .c (bool x)) .ret st) ?_ ?_ ?_ ?_
  · try dsimp only
    exact Sub.env ⟨rfl, rfl, rfl, trivial⟩
  · intro iv3 s hloiv3 hltiv3 _
    try dsimp only
    refine AWP.seq ?_
    refine AWP.seq ?_
    refine AWP.region ?_
    refine AOps.move rfl rfl ?_
    refine AOps.move rfl rfl ?_
    refine S.len rfl rfl (fun hl8 => ?_)
    refine AOps.lss rfl rfl rfl ?_
    refine AOps.nil ?_
    refine thn_normal ?_
    refine AWP.condNP rfl hltiv3 ?_
    refine AWP.exit ?_
    refine thn_exit ?_
    refine thn_exit ⟨rfl, ?_⟩
    exact Sub.env trivial
  · intro iv3 s o hloiv3 hltiv3 h
    unfold ref1_Has_l1 at h
    try dsimp only at h ⊢
    refine AWP.seq ?_
    refine AWP.seq ?_
    refine AWP.region ?_
    refine AOps.move rfl rfl ?_
    refine AOps.move rfl rfl ?_
    refine S.len rfl rfl (fun hl8 => ?_)
    refine AOps.lss rfl rfl rfl ?_
    refine AOps.nil ?_
    refine thn_normal ?_
    refine AWP.condP rfl hltiv3 ?_
    refine AWP.skip ?_
    refine thn_normal ?_
    refine AWP.seq ?_
    refine AWP.block ?_
    refine AWP.seq ?_
    obtain ⟨a14, ha14, h⟩ := bind_some h
    refine AWP.region ?_
    refine AOps.move rfl rfl ?_
    refine AOps.move rfl rfl ?_
    refine S.idx ha14 rfl rfl rfl rfl ?_
    refine AOps.loadI rfl rfl rfl rfl ?_
    refine AOps.move rfl rfl ?_
    refine AOps.eql rfl rfl rfl ?_
    refine AOps.nil ?_
    refine thn_normal ?_
    refine AWP.ite rfl h (fun hc4 h => ?_) (fun hc4 h => ?_)
    · refine AWP.seq ?_
      refine AWP.region ?_
      refine AOps.assign rfl rfl ?_
      refine AOps.nil ?_
      refine thn_normal ?_
      refine AWP.ret ?_
      refine inB_ret ?_
      refine thn_ret ?_
      have ej := Option.some.inj h
      subst ej
      refine thn_ret ⟨_, rfl, rfl, ?_⟩
      exact Done.ret rfl rfl
    · refine AWP.skip ?_
      refine inB_normal ?_
      refine thn_normal ?_
      refine AWP.region ?_
      refine AOps.move rfl rfl ?_
      refine AOps.add rfl rfl rfl (by omega) ?_
      refine AOps.assign rfl rfl ?_
      refine AOps.nil ?_
      have ej := Option.some.inj h
      subst ej
      refine thn_normal ⟨_, rfl, ?_⟩
      exact Sub.env ⟨rfl, rfl, rfl, trivial⟩
  · intro e s hq
    rcases oo with u | x
    · try dsimp only at h hq
      obtain ⟨rfl, hs⟩ := hq
      refine ⟨_, hs, ?_⟩
      refine inB_exit ?_
      refine thn_normal ?_
      refine AWP.seq ?_
      refine AWP.region ?_
      refine AOps.assign rfl rfl ?_
      refine AOps.nil ?_
      refine thn_normal ?_
      refine AWP.ret ?_
      have ej := Option.some.inj h
      subst ej
      exact Done.ret rfl rfl
    · try dsimp only at h hq
      obtain ⟨rfl, hs⟩ := hq
      refine ⟨_, Sub.refl _ _, ?_⟩
      refine inB_ret ?_
      refine thn_ret ?_
      have ej := Option.some.inj h
      subst ej
      exact hs

theorem ref1_Subset_ok {part : List Int} {l : List Int} {r : Bool} (h : ref1_Subset part l = some r) : PureOk Try.prog 13 [.c (row 1 intI part), .c (row 1 intI l)] (.c (bool r)) := by
  unfold PureOk
  refine FnOk.enter (rs := [.t 4]) Try.func13 rfl Try.ntmps13 Try.results13 rfl ⟨trivial, trivial⟩ (by kernel_rfl) rfl ?_
  unfold ref1_Subset at h
  refine AWP.seq ?_
  refine AWP.region ?_
  refine AOps.assign rfl rfl ?_
  refine AOps.nil ?_
  refine thn_normal ?_
  refine AWP.seq ?_
  refine AWP.seq ?_
  refine AWP.region ?_
  refine AOps.assign rfl rfl ?_
  refine AOps.nil ?_
  refine thn_normal ?_
  refine AWP.block ?_
  obtain ⟨oo, ho1, h⟩ := bind_some h
  refine AWP.rngS ho1 (fun iv3 _ => ⟨[(0, .c (row 1 intI part)), (1, .c (row 1 intI l)), (5, .c (int iv3))], []⟩) (fun o e st => match o with | .inl _ => e = .exit 0 ∧ Sub [] st ⟨[], []⟩ | .inr x => e = .ret ∧ Done [.t 4] (fun t _ => t = .c (bool x)) .ret st) ?_ ?_ ?_ ?_
  · try dsimp only
    exact Sub.env ⟨rfl, rfl, rfl, trivial⟩
  · intro iv3 s hloiv3 hltiv3 _
    try dsimp only
    refine AWP.seq ?_
    refine AWP.seq ?_
    refine AWP.region ?_
    refine AOps.move rfl rfl ?_
    refine AOps.move rfl rfl ?_
    refine S.len rfl rfl (fun hl8 => ?_)
    refine AOps.lss rfl rfl rfl ?_
    refine AOps.nil ?_
    refine thn_normal ?_
    refine AWP.condNP rfl hltiv3 ?_
    refine AWP.exit ?_
    refine thn_exit ?_
    refine thn_exit ⟨rfl, ?_⟩
    exact Sub.env trivial
  · intro iv3 s o hloiv3 hltiv3 h
    unfold ref1_Subset_l1 at h
    try dsimp only at h ⊢
    refine AWP.seq ?_
    refine AWP.seq ?_
    refine AWP.region ?_
    refine AOps.move rfl rfl ?_
    refine AOps.move rfl rfl ?_
    refine S.len rfl rfl (fun hl8 => ?_)
    refine AOps.lss rfl rfl rfl ?_
    refine AOps.nil ?_
    refine thn_normal ?_
    refine AWP.condP rfl hltiv3 ?_
    refine AWP.skip ?_
    refine thn_normal ?_
    refine AWP.seq ?_
    refine AWP.block ?_
    refine AWP.seq ?_
    obtain ⟨a15, ha15, h⟩ := bind_some h
    obtain ⟨a17, ha17, h⟩ := bind_some h
    refine AWP.region ?_
    refine AOps.move rfl rfl ?_
    refine AOps.move rfl rfl ?_
    refine AOps.move rfl rfl ?_
    refine S.idx ha15 rfl rfl rfl rfl ?_
    refine AOps.loadI rfl rfl rfl rfl ?_
    refine AOps.callR rfl rfl rfl rfl (ref1_Has_ok ha17) rfl ?_
    refine AOps.not rfl rfl ?_
    refine AOps.nil ?_
    refine thn_normal ?_
    refine AWP.iteB rfl h (fun hc4 h => ?_) (fun hc4 h => ?_)
    · refine AWP.seq ?_
      refine AWP.region ?_
      refine AOps.assign rfl rfl ?_
      refine AOps.nil ?_
      refine thn_normal ?_
      refine AWP.ret ?_
      refine inB_ret ?_
      refine thn_ret ?_
      have ej := Option.some.inj h
      subst ej
      refine thn_ret ⟨_, rfl, rfl, ?_⟩
      exact Done.ret rfl rfl
    · refine AWP.skip ?_
      refine inB_normal ?_
      refine thn_normal ?_
      refine AWP.region ?_
      refine AOps.move rfl rfl ?_
      refine AOps.add rfl rfl rfl (by omega) ?_
      refine AOps.assign rfl rfl ?_
      refine AOps.nil ?_
      have ej := Option.some.inj h
      subst ej
      refine thn_normal ⟨_, rfl, ?_⟩
      exact Sub.env ⟨rfl, rfl, rfl, trivial⟩
  · intro e s hq
    rcases oo with u | x
    · try dsimp only at h hq
      obtain ⟨rfl, hs⟩ := hq
      refine ⟨_, hs, ?_⟩
      refine inB_exit ?_
      refine thn_normal ?_
      refine AWP.seq ?_
      refine AWP.region ?_
      refine AOps.assign rfl rfl ?_
      refine AOps.nil ?_
      refine thn_normal ?_
      refine AWP.ret ?_
      have ej := Option.some.inj h
      subst ej
      exact Done.ret rfl rfl
    · try dsimp only at h hq
      obtain ⟨rfl, hs⟩ := hq
      refine ⟨_, Sub.refl _ _, ?_⟩
      refine inB_ret ?_
      refine thn_ret ?_
      have ej := Option.some.inj h
      subst ej
      exact hs

theorem ref1_Applies_ok {t : TTask} {sv : List Int} {op : Int} {r : Bool} (h : ref1_Applies t sv op = some r) : PureOk Try.prog 38 [.agg [int t.facts, row 1 intI t.init, row 1 intI t.goal, row 4 eTOperator t.operators], .c (row 1 intI sv), .c (int op)] (.c (bool r)) := by
  unfold PureOk
  refine FnOk.enter (rs := [.t 6]) Try.func38 rfl Try.ntmps38 Try.results38 rfl ⟨trivial, trivial⟩ (by kernel_rfl) rfl ?_
  unfold ref1_Applies at h
  refine AWP.seq ?_
  refine AWP.region ?_
  refine W.box rfl rfl rfl rfl rfl rfl ?_
  refine AOps.assign rfl rfl ?_
  refine AOps.nil ?_
  refine thn_normal ?_
  refine AWP.seq ?_
  obtain ⟨a10, ha10, h⟩ := bind_some h
  obtain ⟨a14, ha14, h⟩ := bind_some h
  refine AWP.region ?_
  refine W.fieldAddr rfl rfl rfl rfl ?_
  refine AOps.load rfl rfl rfl rfl rfl rfl ?_
  refine AOps.move rfl rfl ?_
  refine S.idx ha10 rfl rfl rfl rfl ?_
  refine W.fieldAddrI rfl rfl rfl rfl ?_
  refine AOps.loadI rfl rfl rfl rfl ?_
  refine AOps.move rfl rfl ?_
  refine AOps.callR rfl rfl rfl rfl (ref1_Subset_ok ha14) rfl ?_
  refine AOps.assign rfl rfl ?_
  refine AOps.nil ?_
  refine thn_normal ?_
  refine AWP.ret ?_
  have ej := Option.some.inj h
  subst ej
  exact Done.ret rfl rfl

theorem ref1_After_ok {t : TTask} {sv : List Int} {op : Int} {r : (List Int)} (h : ref1_After t sv op = some r) : FreshOk Try.prog 39 [.agg [int t.facts, row 1 intI t.init, row 1 intI t.goal, row 4 eTOperator t.operators], .c (row 1 intI sv), .c (int op)] 1 (List.map intI r) := by
  unfold FreshOk
  refine FnOk.enter (rs := [.t 6]) Try.func39 rfl Try.ntmps39 Try.results39 rfl ⟨trivial, trivial⟩ (by kernel_rfl) rfl ?_
  unfold ref1_After at h
  refine AWP.seq ?_
  refine AWP.region ?_
  refine W.box rfl rfl rfl rfl rfl rfl ?_
  refine AOps.assign rfl rfl ?_
  refine AOps.nil ?_
  refine thn_normal ?_
  refine AWP.seq ?_
  refine AWP.region ?_
  refine AOps.assign rfl rfl ?_
  refine AOps.nil ?_
  refine thn_normal ?_
  refine AWP.seq ?_
  refine AWP.seq ?_
  refine AWP.region ?_
  refine AOps.assign rfl rfl ?_
  refine AOps.nil ?_
  refine thn_normal ?_
  refine AWP.block ?_
  refine AWP.virtV 1 intI 7 rfl rfl rfl ?_
  obtain ⟨hnp5, h⟩ := ite_none h
  obtain ⟨c4, ho1, h⟩ := bind_some h
  refine AWP.forS ho1 (fun p5 c4 => ⟨[(1, .c (row 1 intI sv)), (2, .c (int op)), (3, .c (.ptr 0 0 0)), (7, .c (.own 1 0 c4.length)), (8, .c (int p5))], [.one (.cells 4 [[int t.facts, row 1 intI t.init, row 1 intI t.goal, row 4 eTOperator t.operators]]), .one (vec 1 intI c4)]⟩) (fun c4 e st => e = .exit 0 ∧ Sub [] st ⟨[(7, .c (.own 1 0 c4.length))], [.one (.cells 4 [[int t.facts, row 1 intI t.init, row 1 intI t.goal, row 4 eTOperator t.operators]]), .one (vec 1 intI c4)]⟩) ?_ ?_ ?_ ?_
  · try dsimp only
    exact Sub.env ⟨rfl, rfl, rfl, (own_len (by first | rfl | simp only [List.length_set])), rfl, trivial⟩
  · intro p5 c4 hlop5 hltp5 _
    try dsimp only
    refine AWP.seq ?_
    refine AWP.seq ?_
    refine AWP.region ?_
    refine AOps.move rfl rfl ?_
    refine W.fieldAddr rfl rfl rfl rfl ?_
    refine AOps.load rfl rfl rfl rfl rfl rfl ?_
    refine AOps.lss rfl rfl rfl ?_
    refine AOps.nil ?_
    refine thn_normal ?_
    refine AWP.condNP rfl hltp5 ?_
    refine AWP.exit ?_
    refine thn_exit ?_
    refine thn_exit ⟨rfl, ?_⟩
    exact Sub.env ⟨rfl, trivial⟩
  · intro p5 c4 o hlop5 hltp5 h
    unfold ref1_After_l1 at h
    try dsimp only at h ⊢
    refine AWP.seq ?_
    refine AWP.seq ?_
    refine AWP.region ?_
    refine AOps.move rfl rfl ?_
    refine W.fieldAddr rfl rfl rfl rfl ?_
    refine AOps.load rfl rfl rfl rfl rfl rfl ?_
    refine AOps.lss rfl rfl rfl ?_
    refine AOps.nil ?_
    refine thn_normal ?_
    refine AWP.condP rfl hltp5 ?_
    refine AWP.skip ?_
    refine thn_normal ?_
    obtain ⟨c6, hx7, h⟩ := bind_some h
    refine AWP.seqJ (⟨[(1, .c (row 1 intI sv)), (2, .c (int op)), (3, .c (.ptr 0 0 0)), (7, .c (.own 3 0 c6.length)), (8, .c (int p5))], [.one (.cells 4 [[int t.facts, row 1 intI t.init, row 1 intI t.goal, row 4 eTOperator t.operators]]), .dead, .dead, .one (vec 1 intI c6)]⟩) ?_ ?_
    · refine AWP.block ?_
      obtain ⟨t8, hx9, hx7⟩ := bind_some hx7
      refine AWP.seqJ (⟨[(1, .c (row 1 intI sv)), (2, .c (int op)), (3, .c (.ptr 0 0 0)), (7, .c (.own 1 0 c4.length)), (8, .c (int p5)), (38, .c (bool t8))], [.one (.cells 4 [[int t.facts, row 1 intI t.init, row 1 intI t.goal, row 4 eTOperator t.operators]]), .one (vec 1 intI c4)]⟩) ?_ ?_
      · obtain ⟨a18, ha18, hx9⟩ := bind_some hx9
        obtain ⟨a22, ha22, hx9⟩ := bind_some hx9
        rcases Bool.eq_false_or_eq_true (a22) with hb10 | hb10
        · replace hx9 := iteBT hb10 hx9
          refine AWP.region ?_
          refine W.fieldAddr rfl rfl rfl rfl ?_
          refine AOps.load rfl rfl rfl rfl rfl rfl ?_
          refine AOps.move rfl rfl ?_
          refine S.idx ha18 rfl rfl rfl rfl ?_
          refine W.fieldAddrI rfl rfl rfl rfl ?_
          refine AOps.loadI rfl rfl rfl rfl ?_
          refine AOps.move rfl rfl ?_
          refine AOps.callR rfl rfl rfl rfl (ref1_Has_ok ha22) rfl ?_
          refine AOps.move rfl rfl ?_
          refine AOps.guardF rfl rfl rfl hb10 ?_
          refine AOps.guardF rfl rfl rfl hb10 ?_
          refine AOps.guardF rfl rfl rfl hb10 ?_
          refine AOps.guardF rfl rfl rfl hb10 ?_
          refine AOps.guardSkip rfl rfl rfl ?_
          refine AOps.guardSkip rfl rfl rfl ?_
          refine AOps.guardSkip rfl rfl rfl ?_
          refine AOps.guardSkip rfl rfl rfl ?_
          refine AOps.guardSkip rfl rfl rfl ?_
          refine AOps.guardSkip rfl rfl rfl ?_
          refine AOps.guardSkip rfl rfl rfl ?_
          refine AOps.guardSkip rfl rfl rfl ?_
          refine AOps.guardSkip rfl rfl rfl ?_
          refine AOps.guardF rfl rfl rfl hb10 ?_
          refine AOps.pickT rfl hb10 rfl rfl ?_
          refine AOps.nil ?_
          have ej := Option.some.inj hx9
          subst ej
          refine thn_normal ?_
          exact Sub.env ⟨rfl, rfl, rfl, rfl, rfl, rfl, trivial⟩
        · replace hx9 := iteBF hb10 hx9
          obtain ⟨a26, ha26, hx9⟩ := bind_some hx9
          rcases Bool.eq_false_or_eq_true (a26) with hb11 | hb11
          · replace hx9 := iteBT hb11 hx9
            obtain ⟨a31, ha31, hx9⟩ := bind_some hx9
            obtain ⟨a35, ha35, hx9⟩ := bind_some hx9
            refine AWP.region ?_
            refine W.fieldAddr rfl rfl rfl rfl ?_
            refine AOps.load rfl rfl rfl rfl rfl rfl ?_
            refine AOps.move rfl rfl ?_
            refine S.idx ha18 rfl rfl rfl rfl ?_
            refine W.fieldAddrI rfl rfl rfl rfl ?_
            refine AOps.loadI rfl rfl rfl rfl ?_
            refine AOps.move rfl rfl ?_
            refine AOps.callR rfl rfl rfl rfl (ref1_Has_ok ha22) rfl ?_
            refine AOps.move rfl rfl ?_
            refine AOps.guardT rfl rfl rfl hb10 ?_; refine AOps.move rfl rfl ?_
            refine AOps.guardT rfl rfl rfl hb10 ?_; refine AOps.move rfl rfl ?_
            refine AOps.guardT rfl rfl rfl hb10 ?_; refine AOps.callR rfl rfl rfl rfl (ref1_Has_ok ha26) rfl ?_
            refine AOps.guardT rfl rfl rfl hb10 ?_; refine AOps.move rfl rfl ?_
            refine AOps.guardT rfl rfl rfl hb11 ?_; refine W.fieldAddr rfl rfl rfl rfl ?_
            refine AOps.guardT rfl rfl rfl hb11 ?_; refine AOps.load rfl rfl rfl rfl rfl rfl ?_
            refine AOps.guardT rfl rfl rfl hb11 ?_; refine AOps.move rfl rfl ?_
            refine AOps.guardT rfl rfl rfl hb11 ?_; refine S.idx ha31 rfl rfl rfl rfl ?_
            refine AOps.guardT rfl rfl rfl hb11 ?_; refine W.fieldAddrI rfl rfl rfl rfl ?_
            refine AOps.guardT rfl rfl rfl hb11 ?_; refine AOps.loadI rfl rfl rfl rfl ?_
            refine AOps.guardT rfl rfl rfl hb11 ?_; refine AOps.move rfl rfl ?_
            refine AOps.guardT rfl rfl rfl hb11 ?_; refine AOps.callR rfl rfl rfl rfl (ref1_Has_ok ha35) rfl ?_
            refine AOps.guardT rfl rfl rfl hb11 ?_; refine AOps.not rfl rfl ?_
            refine AOps.guardT rfl rfl rfl hb10 ?_; refine AOps.pickT rfl hb11 rfl rfl ?_
            refine AOps.pickF rfl hb10 rfl rfl ?_
            refine AOps.nil ?_
            have ej := Option.some.inj hx9
            subst ej
            refine thn_normal ?_
            exact Sub.env ⟨rfl, rfl, rfl, rfl, rfl, rfl, trivial⟩
          · replace hx9 := iteBF hb11 hx9
            refine AWP.region ?_
            refine W.fieldAddr rfl rfl rfl rfl ?_
            refine AOps.load rfl rfl rfl rfl rfl rfl ?_
            refine AOps.move rfl rfl ?_
            refine S.idx ha18 rfl rfl rfl rfl ?_
            refine W.fieldAddrI rfl rfl rfl rfl ?_
            refine AOps.loadI rfl rfl rfl rfl ?_
            refine AOps.move rfl rfl ?_
            refine AOps.callR rfl rfl rfl rfl (ref1_Has_ok ha22) rfl ?_
            refine AOps.move rfl rfl ?_
            refine AOps.guardT rfl rfl rfl hb10 ?_; refine AOps.move rfl rfl ?_
            refine AOps.guardT rfl rfl rfl hb10 ?_; refine AOps.move rfl rfl ?_
            refine AOps.guardT rfl rfl rfl hb10 ?_; refine AOps.callR rfl rfl rfl rfl (ref1_Has_ok ha26) rfl ?_
            refine AOps.guardT rfl rfl rfl hb10 ?_; refine AOps.move rfl rfl ?_
            refine AOps.guardF rfl rfl rfl hb11 ?_
            refine AOps.guardF rfl rfl rfl hb11 ?_
            refine AOps.guardF rfl rfl rfl hb11 ?_
            refine AOps.guardF rfl rfl rfl hb11 ?_
            refine AOps.guardF rfl rfl rfl hb11 ?_
            refine AOps.guardF rfl rfl rfl hb11 ?_
            refine AOps.guardF rfl rfl rfl hb11 ?_
            refine AOps.guardF rfl rfl rfl hb11 ?_
            refine AOps.guardF rfl rfl rfl hb11 ?_
            refine AOps.guardT rfl rfl rfl hb10 ?_; refine AOps.pickF rfl hb11 rfl rfl ?_
            refine AOps.pickF rfl hb10 rfl rfl ?_
            refine AOps.nil ?_
            have ej := Option.some.inj hx9
            subst ej
            refine thn_normal ?_
            exact Sub.env ⟨rfl, rfl, rfl, rfl, rfl, rfl, trivial⟩
      · refine AWP.iteB rfl hx7 (fun hc12 hx7 => ?_) (fun hc12 hx7 => ?_)
        · obtain ⟨a42, ha42, hx7⟩ := bind_some hx7
          refine AWP.region ?_
          refine AOps.move rfl rfl ?_
          refine AOps.move rfl rfl ?_
          refine S.lit (f := intI) (l := [p5]) (ess := [[int p5]]) rfl rfl rfl rfl rfl rfl rfl ⟨⟨.inl rfl, trivial⟩, trivial⟩ rfl rfl rfl ?_
          refine S.append (f := intI) ha42 rfl rfl rfl rfl rfl rfl (.own rfl rfl) rfl rfl rfl rfl ?_
          refine AOps.assign rfl rfl ?_
          refine AOps.nil ?_
          refine inB_normal ?_
          have ej := Option.some.inj hx7
          subst ej
          refine thn_normal ?_
          exact Sub.cut ⟨rfl, rfl, rfl, rfl, rfl, trivial⟩ rfl ⟨.one rfl, .dead, .dead, .vec, trivial⟩ rfl
        · refine AWP.skip ?_
          refine inB_normal ?_
          have ej := Option.some.inj hx7
          subst ej
          refine thn_normal ?_
          exact (Sub.move (env' := [(1, .c (row 1 intI sv)), (2, .c (int op)), (3, .c (.ptr 0 0 0)), (7, .c (.own 3 0 c4.length)), (8, .c (int p5))]) (σ' := [.one (.cells 4 [[int t.facts, row 1 intI t.init, row 1 intI t.goal, row 4 eTOperator t.operators]]), .dead, .dead, .one (vec 1 intI c4)]) 3 1 rfl rfl rfl ⟨rfl, rfl, rfl, rfl, rfl, trivial⟩ rfl ⟨⟨rfl, rfl⟩, trivial, trivial, ⟨Blk.im_ok _ _ _, vec_mv rfl⟩, trivial⟩).trans (Sub.env ⟨rfl, rfl, rfl, rfl, rfl, trivial⟩)
    · refine AWP.region ?_
      refine AOps.move rfl rfl ?_
      refine AOps.add rfl rfl rfl (by omega) ?_
      refine AOps.assign rfl rfl ?_
      refine AOps.nil ?_
      have ej := Option.some.inj h
      subst ej
      refine thn_normal ?_
      exact (Sub.move (env' := [(1, .c (row 1 intI sv)), (2, .c (int op)), (3, .c (.ptr 0 0 0)), (7, .c (.own 1 0 c6.length)), (8, .c (int (p5 + 1)))]) (σ' := [.one (.cells 4 [[int t.facts, row 1 intI t.init, row 1 intI t.goal, row 4 eTOperator t.operators]]), .one (vec 1 intI c6), .dead]) 1 3 rfl rfl rfl ⟨rfl, rfl, rfl, rfl, rfl, trivial⟩ rfl ⟨⟨rfl, rfl⟩, ⟨Blk.im_ok _ _ _, vec_mv rfl⟩, trivial, trivial⟩).trans (Sub.cut ⟨rfl, rfl, rfl, rfl, rfl, trivial⟩ rfl ⟨.one rfl, .vec, trivial⟩ rfl)
  · intro e s hq
    obtain ⟨rfl, hs⟩ := hq
    refine ⟨_, hs, ?_⟩
    refine inB_exit ?_
    refine thn_normal ?_
    refine AWP.seq ?_
    refine AWP.region ?_
    refine AOps.move rfl rfl ?_
    refine AOps.assign rfl rfl ?_
    refine AOps.nil ?_
    refine thn_normal ?_
    refine AWP.ret ?_
    have ej := Option.some.inj h
    subst ej
    exact Done.ret rfl (Fresh.mk rfl rfl)

theorem ref1_Ends_ok {t : TTask} {sv : List Int} {plan : List Int} {r : (List Int) × Bool} (h : ref1_Ends t sv plan = some r) : PureOk Try.prog 23 [.agg [int t.facts, row 1 intI t.init, row 1 intI t.goal, row 4 eTOperator t.operators], .c (row 1 intI sv), .c (row 1 intI plan)] (.tup [.c (row 1 intI r.1), .c (bool r.2)]) := by
  unfold PureOk
  refine FnOk.enter (rs := [.t 6, .t 7]) Try.func23 rfl Try.ntmps23 Try.results23 rfl ⟨trivial, trivial, trivial⟩ (by kernel_rfl) rfl ?_
  unfold ref1_Ends at h
  refine AWP.seq ?_
  refine AWP.region ?_
  refine W.box rfl rfl rfl rfl rfl rfl ?_
  refine AOps.assign rfl rfl ?_
  refine AOps.assign rfl rfl ?_
  refine AOps.nil ?_
  refine thn_normal ?_
  refine AWP.seq ?_
  refine AWP.seq ?_
  refine AWP.region ?_
  refine AOps.assign rfl rfl ?_
  refine AOps.nil ?_
  refine thn_normal ?_
  refine AWP.block ?_
  obtain ⟨oo, ho1, h⟩ := bind_some h
  refine AWP.rngS ho1 (fun iv5 sv4 => ⟨[(1, .c (row 1 intI sv4)), (2, .c (row 1 intI plan)), (3, .c (.ptr 0 0 0)), (8, .c (int iv5))], [.one (.cells 4 [[int t.facts, row 1 intI t.init, row 1 intI t.goal, row 4 eTOperator t.operators]])]⟩) (fun o e st => match o with | .inl sv4 => e = .exit 0 ∧ Sub [] st ⟨[(1, .c (row 1 intI sv4))], [.one (.cells 4 [[int t.facts, row 1 intI t.init, row 1 intI t.goal, row 4 eTOperator t.operators]])]⟩ | .inr x => e = .ret ∧ Done [.t 6, .t 7] (fun t _ => t = .tup [.c (row 1 intI x.1), .c (bool x.2)]) .ret st) ?_ ?_ ?_ ?_
  · try dsimp only
    exact Sub.env ⟨rfl, rfl, rfl, rfl, trivial⟩
  · intro iv5 sv4 hloiv5 hltiv5 _
    try dsimp only
    refine AWP.seq ?_
    refine AWP.seq ?_
    refine AWP.region ?_
    refine AOps.move rfl rfl ?_
    refine AOps.move rfl rfl ?_
    refine S.len rfl rfl (fun hl11 => ?_)
    refine AOps.lss rfl rfl rfl ?_
    refine AOps.nil ?_
    refine thn_normal ?_
    refine AWP.condNP rfl hltiv5 ?_
    refine AWP.exit ?_
    refine thn_exit ?_
    refine thn_exit ⟨rfl, ?_⟩
    exact Sub.env ⟨rfl, trivial⟩
  · intro iv5 sv4 o hloiv5 hltiv5 h
    unfold ref1_Ends_l1 at h
    try dsimp only at h ⊢
    refine AWP.seq ?_
    refine AWP.seq ?_
    refine AWP.region ?_
    refine AOps.move rfl rfl ?_
    refine AOps.move rfl rfl ?_
    refine S.len rfl rfl (fun hl11 => ?_)
    refine AOps.lss rfl rfl rfl ?_
    refine AOps.nil ?_
    refine thn_normal ?_
    refine AWP.condP rfl hltiv5 ?_
    refine AWP.skip ?_
    refine thn_normal ?_
    refine AWP.seq ?_
    refine AWP.block ?_
    refine AWP.seq ?_
    refine AWP.seq ?_
    obtain ⟨a19, ha19, h⟩ := bind_some h
    obtain ⟨a21, ha21, h⟩ := bind_some h
    refine AWP.drawI mixed rfl ?_
    apply DrawSeq.consF; exact rfl; intro E
    refine W.loadAgg rfl rfl rfl rfl rfl rfl rfl ?_
    exact AOps.nil ⟨rfl, rfl⟩
    exact rfl
    apply DrawSeq.consF; exact rfl; intro E
    refine AOps.move rfl rfl ?_
    exact AOps.nil ⟨rfl, rfl⟩
    exact rfl
    apply DrawSeq.consF; exact rfl; intro E
    refine AOps.move rfl rfl ?_
    exact AOps.nil ⟨rfl, rfl⟩
    exact rfl
    apply DrawSeq.consF; exact rfl; intro E
    refine AOps.move rfl rfl ?_
    exact AOps.nil ⟨rfl, rfl⟩
    exact rfl
    apply DrawSeq.consF; exact rfl; intro E
    refine S.idx ha19 rfl rfl rfl rfl ?_
    exact AOps.nil ⟨rfl, rfl⟩
    exact rfl
    apply DrawSeq.consF; exact rfl; intro E
    refine AOps.loadI rfl rfl rfl rfl ?_
    exact AOps.nil ⟨rfl, rfl⟩
    exact rfl
    apply DrawSeq.consF; exact rfl; intro E
    refine AOps.callR rfl rfl rfl rfl (ref1_Applies_ok ha21) rfl ?_
    exact AOps.nil ⟨rfl, rfl⟩
    exact rfl
    apply DrawSeq.consF; exact rfl; intro E
    refine AOps.not rfl rfl ?_
    exact AOps.nil ⟨rfl, rfl⟩
    exact rfl
    refine DrawSeq.done ?_
    dsimp only [envEnd]
    refine thn_normal ?_
    refine AWP.iteB rfl h (fun hc6 h => ?_) (fun hc6 h => ?_)
    · refine AWP.seq ?_
      refine AWP.region ?_
      refine AOps.assign rfl rfl ?_
      refine AOps.assign rfl rfl ?_
      refine AOps.nil ?_
      refine thn_normal ?_
      refine AWP.nilrow 1 6 rfl ?_
      refine AWP.ret ?_
      refine thn_ret ?_
      refine inB_ret ?_
      refine thn_ret ?_
      have ej := Option.some.inj h
      subst ej
      refine thn_ret ⟨_, rfl, rfl, ?_⟩
      exact Done.ret rfl rfl
    · refine AWP.skip ?_
      refine thn_normal ?_
      obtain ⟨a27, ha27, h⟩ := bind_some h
      obtain ⟨a29, ha29, h⟩ := bind_some h
      refine AWP.drawEI [6] mixed rfl rfl rfl ?_
      apply DrawSeqE.consN; exact rfl; exact rfl; intro E
      refine W.loadAgg rfl rfl rfl rfl rfl rfl rfl ?_
      exact AOps.nil ⟨rfl, rfl⟩
      exact rfl
      apply DrawSeqE.consN; exact rfl; exact rfl; intro E
      refine AOps.move rfl rfl ?_
      exact AOps.nil ⟨rfl, rfl⟩
      exact rfl
      apply DrawSeqE.consN; exact rfl; exact rfl; intro E
      refine AOps.move rfl rfl ?_
      exact AOps.nil ⟨rfl, rfl⟩
      exact rfl
      apply DrawSeqE.consN; exact rfl; exact rfl; intro E
      refine AOps.move rfl rfl ?_
      exact AOps.nil ⟨rfl, rfl⟩
      exact rfl
      apply DrawSeqE.consN; exact rfl; exact rfl; intro E
      refine S.idx ha27 rfl rfl rfl rfl ?_
      exact AOps.nil ⟨rfl, rfl⟩
      exact rfl
      apply DrawSeqE.consN; exact rfl; exact rfl; intro E
      refine AOps.loadI rfl rfl rfl rfl ?_
      exact AOps.nil ⟨rfl, rfl⟩
      exact rfl
      apply DrawSeqE.consE; exact rfl; exact rfl; intro E
      refine S.fresh rfl rfl rfl rfl (ref1_After_ok ha29) rfl rfl ?_
      exact AOps.nil ⟨rfl, rfl⟩
      exact rfl
      exact rfl
      apply DrawSeqE.consN; exact rfl; exact rfl; intro E
      refine AOps.assign rfl rfl ?_
      exact AOps.nil ⟨rfl, rfl⟩
      exact rfl
      refine DrawSeqE.done rfl ?_ ?_
      · apply RestI.cons; exact rfl; exact rfl
        first | refine RestK.skip rfl ?_ | (apply RestK.go; exact rfl; exact rfl; intro E; (refine W.loadAgg rfl rfl rfl rfl rfl rfl rfl ?_); exact AOps.nil ⟨rfl, rfl⟩)
        first | refine RestK.skip rfl ?_ | (apply RestK.go; exact rfl; exact rfl; intro E; (refine W.loadAgg rfl rfl rfl rfl rfl rfl rfl ?_); exact AOps.nil ⟨rfl, rfl⟩)
        exact RestK.nil
        apply RestI.cons; exact rfl; exact rfl
        first | refine RestK.skip rfl ?_ | (apply RestK.go; exact rfl; exact rfl; intro E; (refine AOps.move rfl rfl ?_); exact AOps.nil ⟨rfl, rfl⟩)
        first | refine RestK.skip rfl ?_ | (apply RestK.go; exact rfl; exact rfl; intro E; (refine AOps.move rfl rfl ?_); exact AOps.nil ⟨rfl, rfl⟩)
        exact RestK.nil
        apply RestI.cons; exact rfl; exact rfl
        first | refine RestK.skip rfl ?_ | (apply RestK.go; exact rfl; exact rfl; intro E; (refine AOps.move rfl rfl ?_); exact AOps.nil ⟨rfl, rfl⟩)
        first | refine RestK.skip rfl ?_ | (apply RestK.go; exact rfl; exact rfl; intro E; (refine AOps.move rfl rfl ?_); exact AOps.nil ⟨rfl, rfl⟩)
        exact RestK.nil
        apply RestI.cons; exact rfl; exact rfl
        first | refine RestK.skip rfl ?_ | (apply RestK.go; exact rfl; exact rfl; intro E; (refine AOps.move rfl rfl ?_); exact AOps.nil ⟨rfl, rfl⟩)
        first | refine RestK.skip rfl ?_ | (apply RestK.go; exact rfl; exact rfl; intro E; (refine AOps.move rfl rfl ?_); exact AOps.nil ⟨rfl, rfl⟩)
        exact RestK.nil
        apply RestI.cons; exact rfl; exact rfl
        first | refine RestK.skip rfl ?_ | (apply RestK.go; exact rfl; exact rfl; intro E; (refine S.idx ha27 rfl rfl rfl rfl ?_); exact AOps.nil ⟨rfl, rfl⟩)
        first | refine RestK.skip rfl ?_ | (apply RestK.go; exact rfl; exact rfl; intro E; (refine S.idx ha27 rfl rfl rfl rfl ?_); exact AOps.nil ⟨rfl, rfl⟩)
        exact RestK.nil
        apply RestI.cons; exact rfl; exact rfl
        first | refine RestK.skip rfl ?_ | (apply RestK.go; exact rfl; exact rfl; intro E; (refine AOps.loadI rfl rfl rfl rfl ?_); exact AOps.nil ⟨rfl, rfl⟩)
        first | refine RestK.skip rfl ?_ | (apply RestK.go; exact rfl; exact rfl; intro E; (refine AOps.loadI rfl rfl rfl rfl ?_); exact AOps.nil ⟨rfl, rfl⟩)
        exact RestK.nil
        refine RestI.skip rfl ?_
        apply RestI.cons; exact rfl; exact rfl
        first | refine RestK.skip rfl ?_ | (apply RestK.go; exact rfl; exact rfl; intro E; (refine AOps.assign rfl rfl ?_); exact AOps.nil ⟨rfl, rfl⟩)
        first | refine RestK.skip rfl ?_ | (apply RestK.go; exact rfl; exact rfl; intro E; (refine AOps.assign rfl rfl ?_); exact AOps.nil ⟨rfl, rfl⟩)
        exact RestK.nil
        exact RestI.nil
      dsimp only [envEnd]
      refine inB_normal ?_
      refine thn_normal ?_
      refine AWP.region ?_
      refine AOps.move rfl rfl ?_
      refine AOps.add rfl rfl rfl (by omega) ?_
      refine AOps.assign rfl rfl ?_
      refine AOps.nil ?_
      have ej := Option.some.inj h
      subst ej
      refine thn_normal ⟨_, rfl, ?_⟩
      exact (Sub.frzV (id := 1) (l := a29) (env2 := [(1, .c (row 1 intI a29)), (2, .c (row 1 intI plan)), (3, .c (.ptr 0 0 0)), (8, .c (int (iv5 + 1)))]) (σ2 := [.one (.cells 4 [[int t.facts, row 1 intI t.init, row 1 intI t.goal, row 4 eTOperator t.operators]]), .dead]) rfl rfl (by exact ⟨⟨_, rfl, .inr ⟨_, rfl, rfl, rfl⟩⟩, ⟨_, rfl, .inl ⟨rfl, rfl⟩⟩, ⟨_, rfl, .inl ⟨rfl, rfl⟩⟩, ⟨_, rfl, .inl ⟨rfl, rfl⟩⟩, trivial⟩) rfl (by exact ⟨⟨rfl, .inl ⟨rfl, rfl⟩, .inl ⟨rfl, rfl⟩, .inl ⟨rfl, rfl⟩, .inl ⟨rfl, rfl⟩, trivial⟩, trivial, trivial⟩)).trans (Sub.cut ⟨rfl, rfl, rfl, rfl, trivial⟩ rfl ⟨.one rfl, trivial⟩ rfl)
  · intro e s hq
    rcases oo with sv4 | x
    · try dsimp only at h hq
      obtain ⟨rfl, hs⟩ := hq
      refine ⟨_, hs, ?_⟩
      refine inB_exit ?_
      refine thn_normal ?_
      refine AWP.seq ?_
      refine AWP.region ?_
      refine AOps.move rfl rfl ?_
      refine AOps.assign rfl rfl ?_
      refine AOps.assign rfl rfl ?_
      refine AOps.nil ?_
      refine thn_normal ?_
      refine AWP.ret ?_
      have ej := Option.some.inj h
      subst ej
      exact Done.ret rfl rfl
    · try dsimp only at h hq
      obtain ⟨rfl, hs⟩ := hq
      refine ⟨_, Sub.refl _ _, ?_⟩
      refine inB_ret ?_
      refine thn_ret ?_
      have ej := Option.some.inj h
      subst ej
      exact hs

theorem ref1_Works_ok {t : TTask} {sv : List Int} {plan : List Int} {r : Bool} (h : ref1_Works t sv plan = some r) : PureOk Try.prog 12 [.agg [int t.facts, row 1 intI t.init, row 1 intI t.goal, row 4 eTOperator t.operators], .c (row 1 intI sv), .c (row 1 intI plan)] (.c (bool r)) := by
  unfold PureOk
  refine FnOk.enter (rs := [.t 6]) Try.func12 rfl Try.ntmps12 Try.results12 rfl ⟨trivial, trivial⟩ (by kernel_rfl) rfl ?_
  unfold ref1_Works at h
  refine AWP.seq ?_
  refine AWP.region ?_
  refine W.box rfl rfl rfl rfl rfl rfl ?_
  refine AOps.assign rfl rfl ?_
  refine AOps.nil ?_
  refine thn_normal ?_
  refine AWP.seq ?_
  obtain ⟨a13, ha13, h⟩ := bind_some h
  refine AWP.region ?_
  refine W.loadAgg rfl rfl rfl rfl rfl rfl rfl ?_
  refine AOps.move rfl rfl ?_
  refine AOps.move rfl rfl ?_
  refine AOps.callR rfl rfl rfl rfl (ref1_Ends_ok ha13) rfl ?_
  refine AOps.move rfl rfl ?_
  refine AOps.extract rfl rfl rfl ?_
  refine AOps.extract rfl rfl rfl ?_
  refine AOps.assign rfl rfl ?_
  refine AOps.assign rfl rfl ?_
  refine AOps.nil ?_
  refine thn_normal ?_
  obtain ⟨t4, hx5, h⟩ := bind_some h
  refine AWP.seqJ (⟨[(6, .c (bool t4))], []⟩) ?_ ?_
  · rcases Bool.eq_false_or_eq_true (a13.2) with hb6 | hb6
    · replace hx5 := iteBT hb6 hx5
      obtain ⟨a21, ha21, hx5⟩ := bind_some hx5
      refine AWP.region ?_
      refine AOps.move rfl rfl ?_
      refine AOps.move rfl rfl ?_
      refine AOps.guardT rfl rfl rfl hb6 ?_; refine W.fieldAddr rfl rfl rfl rfl ?_
      refine AOps.guardT rfl rfl rfl hb6 ?_; refine AOps.load rfl rfl rfl rfl rfl rfl ?_
      refine AOps.guardT rfl rfl rfl hb6 ?_; refine AOps.move rfl rfl ?_
      refine AOps.guardT rfl rfl rfl hb6 ?_; refine AOps.callR rfl rfl rfl rfl (ref1_Subset_ok ha21) rfl ?_
      refine AOps.pickT rfl hb6 rfl rfl ?_
      refine AOps.assign rfl rfl ?_
      refine AOps.nil ?_
      have ej := Option.some.inj hx5
      subst ej
      refine thn_normal ?_
      exact Sub.cut ⟨rfl, trivial⟩ rfl trivial rfl
    · replace hx5 := iteBF hb6 hx5
      refine AWP.region ?_
      refine AOps.move rfl rfl ?_
      refine AOps.move rfl rfl ?_
      refine AOps.guardF rfl rfl rfl hb6 ?_
      refine AOps.guardF rfl rfl rfl hb6 ?_
      refine AOps.guardF rfl rfl rfl hb6 ?_
      refine AOps.guardF rfl rfl rfl hb6 ?_
      refine AOps.pickF rfl hb6 rfl rfl ?_
      refine AOps.assign rfl rfl ?_
      refine AOps.nil ?_
      have ej := Option.some.inj hx5
      subst ej
      refine thn_normal ?_
      exact Sub.cut ⟨rfl, trivial⟩ rfl trivial rfl
  · refine AWP.ret ?_
    have ej := Option.some.inj h
    subst ej
    exact Done.ret rfl rfl

theorem law8_MonitorConditionsAreExact_ok {t : TTask} {plan : List Int} {sv : List Int} {iv : Int} {r : Bool} (h : law8_MonitorConditionsAreExact t plan sv iv = some r) : PureOk Try.prog 3 [.agg [int t.facts, row 1 intI t.init, row 1 intI t.goal, row 4 eTOperator t.operators], .c (row 1 intI plan), .c (row 1 intI sv), .c (int iv)] (.c (bool r)) := by
  unfold PureOk
  refine FnOk.enter (rs := [.t 8]) Try.func3 rfl Try.ntmps3 Try.results3 rfl ⟨trivial, trivial⟩ (by kernel_rfl) rfl ?_
  unfold law8_MonitorConditionsAreExact at h
  refine AWP.seq ?_
  refine AWP.region ?_
  refine W.box rfl rfl rfl rfl rfl rfl ?_
  refine AOps.assign rfl rfl ?_
  refine AOps.nil ?_
  refine thn_normal ?_
  refine AWP.seq ?_
  obtain ⟨a15, ha15, h⟩ := bind_some h
  refine AWP.region ?_
  refine W.loadAgg rfl rfl rfl rfl rfl rfl rfl ?_
  refine AOps.move rfl rfl ?_
  refine AOps.callR rfl rfl rfl rfl (monitor_Conditions_ok ha15) rfl ?_
  refine AOps.move rfl rfl ?_
  refine AOps.extract rfl rfl rfl ?_
  refine AOps.extract rfl rfl rfl ?_
  refine AOps.extract rfl rfl rfl ?_
  refine W.alloc rfl rfl rfl rfl ?_
  refine AOps.assign rfl rfl ?_
  refine AOps.assign rfl rfl ?_
  refine W.storeAgg rfl rfl rfl rfl rfl rfl rfl ?_
  refine AOps.nil ?_
  refine thn_normal ?_
  refine AWP.seq ?_
  obtain ⟨t5, hx6, h⟩ := bind_some h
  refine AWP.seqJ (⟨[(1, .c (row 1 intI plan)), (2, .c (row 1 intI sv)), (3, .c (int iv)), (4, .c (.ptr 0 0 0)), (9, .c (row 1 eLi64 a15.1)), (10, .c (row 1 eBool a15.2.1)), (34, .c (bool t5))], [.one (.cells 4 [[int t.facts, row 1 intI t.init, row 1 intI t.goal, row 4 eTOperator t.operators]])]⟩) ?_ ?_
  · rcases Bool.eq_false_or_eq_true (!(decide (a15.2.2.code = 0))) with hb7 | hb7
    · replace hx6 := iteBT hb7 hx6
      refine AWP.region ?_
      refine W.fieldAddr rfl rfl rfl rfl ?_
      refine AOps.load rfl rfl rfl rfl rfl rfl ?_
      refine AOps.neq rfl rfl rfl ?_
      refine AOps.move rfl rfl ?_
      refine AOps.guardF rfl rfl rfl hb7 ?_
      refine AOps.guardF rfl rfl rfl hb7 ?_
      refine AOps.guardF rfl rfl rfl hb7 ?_
      refine AOps.guardF rfl rfl rfl hb7 ?_
      refine AOps.pickT rfl hb7 rfl rfl ?_
      refine AOps.move rfl rfl ?_
      refine AOps.guardF rfl rfl rfl rfl ?_
      refine AOps.guardF rfl rfl rfl rfl ?_
      refine AOps.guardF rfl rfl rfl rfl ?_
      refine AOps.guardF rfl rfl rfl rfl ?_
      refine AOps.guardF rfl rfl rfl rfl ?_
      refine AOps.pickT rfl rfl rfl rfl ?_
      refine AOps.nil ?_
      have ej := Option.some.inj hx6
      subst ej
      refine thn_normal ?_
      exact Sub.cut ⟨rfl, rfl, rfl, rfl, rfl, rfl, rfl, trivial⟩ rfl ⟨.one rfl, trivial⟩ rfl
    · replace hx6 := iteBF hb7 hx6
      obtain ⟨a25, ha25, hx6⟩ := bind_some hx6
      rcases Bool.eq_false_or_eq_true (!a25) with hb8 | hb8
      · replace hx6 := iteBT hb8 hx6
        refine AWP.region ?_
        refine W.fieldAddr rfl rfl rfl rfl ?_
        refine AOps.load rfl rfl rfl rfl rfl rfl ?_
        refine AOps.neq rfl rfl rfl ?_
        refine AOps.move rfl rfl ?_
        refine AOps.guardT rfl rfl rfl hb7 ?_; refine W.loadAgg rfl rfl rfl rfl rfl rfl rfl ?_
        refine AOps.guardT rfl rfl rfl hb7 ?_; refine AOps.move rfl rfl ?_
        refine AOps.guardT rfl rfl rfl hb7 ?_; refine AOps.callR rfl rfl rfl rfl (ref1_StateOk_ok ha25) rfl ?_
        refine AOps.guardT rfl rfl rfl hb7 ?_; refine AOps.not rfl rfl ?_
        refine AOps.pickF rfl hb7 rfl rfl ?_
        refine AOps.move rfl rfl ?_
        refine AOps.guardF rfl rfl rfl hb8 ?_
        refine AOps.guardF rfl rfl rfl hb8 ?_
        refine AOps.guardF rfl rfl rfl hb8 ?_
        refine AOps.guardF rfl rfl rfl hb8 ?_
        refine AOps.guardF rfl rfl rfl hb8 ?_
        refine AOps.pickT rfl hb8 rfl rfl ?_
        refine AOps.nil ?_
        have ej := Option.some.inj hx6
        subst ej
        refine thn_normal ?_
        exact Sub.cut ⟨rfl, rfl, rfl, rfl, rfl, rfl, rfl, trivial⟩ rfl ⟨.one rfl, trivial⟩ rfl
      · replace hx6 := iteBF hb8 hx6
        obtain ⟨a32, ha32, hx6⟩ := bind_some hx6
        refine AWP.region ?_
        refine W.fieldAddr rfl rfl rfl rfl ?_
        refine AOps.load rfl rfl rfl rfl rfl rfl ?_
        refine AOps.neq rfl rfl rfl ?_
        refine AOps.move rfl rfl ?_
        refine AOps.guardT rfl rfl rfl hb7 ?_; refine W.loadAgg rfl rfl rfl rfl rfl rfl rfl ?_
        refine AOps.guardT rfl rfl rfl hb7 ?_; refine AOps.move rfl rfl ?_
        refine AOps.guardT rfl rfl rfl hb7 ?_; refine AOps.callR rfl rfl rfl rfl (ref1_StateOk_ok ha25) rfl ?_
        refine AOps.guardT rfl rfl rfl hb7 ?_; refine AOps.not rfl rfl ?_
        refine AOps.pickF rfl hb7 rfl rfl ?_
        refine AOps.move rfl rfl ?_
        refine AOps.guardT rfl rfl rfl hb8 ?_; refine AOps.move rfl rfl ?_
        refine AOps.guardT rfl rfl rfl hb8 ?_; refine AOps.move rfl rfl ?_
        refine AOps.guardT rfl rfl rfl hb8 ?_; refine S.len rfl rfl (fun hl31 => ?_)
        refine AOps.guardT rfl rfl rfl hb8 ?_; refine AOps.callR rfl rfl rfl rfl (ref1_In_ok ha32) rfl ?_
        refine AOps.guardT rfl rfl rfl hb8 ?_; refine AOps.not rfl rfl ?_
        refine AOps.pickF rfl hb8 rfl rfl ?_
        refine AOps.nil ?_
        have ej := Option.some.inj hx6
        subst ej
        refine thn_normal ?_
        exact Sub.cut ⟨rfl, rfl, rfl, rfl, rfl, rfl, rfl, trivial⟩ rfl ⟨.one rfl, trivial⟩ rfl
  · refine AWP.iteB rfl h (fun hc9 h => ?_) (fun hc9 h => ?_)
    · refine AWP.seq ?_
      obtain ⟨a35, ha35, h⟩ := bind_some h
      refine AWP.region ?_
      refine AOps.callR rfl rfl rfl rfl (law8_watched_ok ha35) rfl ?_
      refine AOps.assign rfl rfl ?_
      refine AOps.nil ?_
      refine thn_normal ?_
      refine AWP.ret ?_
      refine thn_ret ?_
      have ej := Option.some.inj h
      subst ej
      exact Done.ret rfl rfl
    · refine AWP.skip ?_
      refine thn_normal ?_
      refine AWP.seq ?_
      refine AWP.seqJ (⟨[(1, .c (row 1 intI plan)), (2, .c (row 1 intI sv)), (3, .c (int iv)), (4, .c (.ptr 0 0 0)), (9, .c (row 1 eLi64 a15.1)), (10, .c (row 1 eBool a15.2.1)), (49, .c (bool ((!(decide ((a15.1.length : Int) = w64 ((plan.length : Int) + 1)))) || (!(decide ((a15.2.1.length : Int) = w64 ((plan.length : Int) + 1)))))))], [.one (.cells 4 [[int t.facts, row 1 intI t.init, row 1 intI t.goal, row 4 eTOperator t.operators]])]⟩) ?_ ?_
      · rcases Bool.eq_false_or_eq_true (!(decide ((a15.1.length : Int) = w64 ((plan.length : Int) + 1)))) with hb1 | hb1
        · refine AWP.region ?_
          refine AOps.move rfl rfl ?_
          refine S.len rfl rfl (fun hl37 => ?_)
          refine AOps.move rfl rfl ?_
          refine S.len rfl rfl (fun hl39 => ?_)
          refine S.add rfl rfl rfl ?_
          refine AOps.neq rfl rfl rfl ?_
          refine AOps.move rfl rfl ?_
          refine AOps.guardF rfl rfl rfl hb1 ?_
          refine AOps.guardF rfl rfl rfl hb1 ?_
          refine AOps.guardF rfl rfl rfl hb1 ?_
          refine AOps.guardF rfl rfl rfl hb1 ?_
          refine AOps.guardF rfl rfl rfl hb1 ?_
          refine AOps.guardF rfl rfl rfl hb1 ?_
          refine AOps.pickT rfl hb1 rfl rfl ?_
          refine AOps.nil ?_
          refine thn_normal ?_
          simp only [and_t hb1, or_t hb1, Bool.false_or, Bool.true_or, Bool.false_and, Bool.true_and]
          exact Sub.env ⟨rfl, rfl, rfl, rfl, rfl, rfl, rfl, trivial⟩
        · refine AWP.region ?_
          refine AOps.move rfl rfl ?_
          refine S.len rfl rfl (fun hl37 => ?_)
          refine AOps.move rfl rfl ?_
          refine S.len rfl rfl (fun hl39 => ?_)
          refine S.add rfl rfl rfl ?_
          refine AOps.neq rfl rfl rfl ?_
          refine AOps.move rfl rfl ?_
          refine AOps.guardT rfl rfl rfl hb1 ?_; refine AOps.move rfl rfl ?_
          refine AOps.guardT rfl rfl rfl hb1 ?_; refine S.len rfl rfl (fun hl44 => ?_)
          refine AOps.guardT rfl rfl rfl hb1 ?_; refine AOps.move rfl rfl ?_
          refine AOps.guardT rfl rfl rfl hb1 ?_; refine S.len rfl rfl (fun hl46 => ?_)
          refine AOps.guardT rfl rfl rfl hb1 ?_; refine S.add rfl rfl rfl ?_
          refine AOps.guardT rfl rfl rfl hb1 ?_; refine AOps.neq rfl rfl rfl ?_
          refine AOps.pickF rfl hb1 rfl rfl ?_
          refine AOps.nil ?_
          refine thn_normal ?_
          simp only [and_f hb1, or_f hb1, Bool.false_or, Bool.true_or, Bool.false_and, Bool.true_and]
          exact Sub.env ⟨rfl, rfl, rfl, rfl, rfl, rfl, rfl, trivial⟩
      · refine AWP.iteB rfl h (fun hc10 h => ?_) (fun hc10 h => ?_)
        · refine AWP.seq ?_
          refine AWP.region ?_
          refine AOps.assign rfl rfl ?_
          refine AOps.nil ?_
          refine thn_normal ?_
          refine AWP.ret ?_
          refine thn_ret ?_
          have ej := Option.some.inj h
          subst ej
          exact Done.ret rfl rfl
        · refine AWP.skip ?_
          refine thn_normal ?_
          obtain ⟨t11, hx12, h⟩ := bind_some h
          refine AWP.seqJ (⟨[(8, .c (bool t11))], []⟩) ?_ ?_
          · obtain ⟨a54, ha54, hx12⟩ := bind_some hx12
            obtain ⟨a55, ha55, hx12⟩ := bind_some hx12
            obtain ⟨a58, ha58, hx12⟩ := bind_some hx12
            rcases Bool.eq_false_or_eq_true (a58) with hb13 | hb13
            · replace hx12 := iteBT hb13 hx12
              obtain ⟨a63, ha63, hx12⟩ := bind_some hx12
              obtain ⟨a66, ha66, hx12⟩ := bind_some hx12
              rcases Bool.eq_false_or_eq_true (decide (a55 = a66)) with hb14 | hb14
              · replace hx12 := iteDT hb14 hx12
                obtain ⟨a70, ha70, hx12⟩ := bind_some hx12
                refine AWP.drawI mixed rfl ?_
                apply DrawSeq.consF; exact rfl; intro E
                refine W.loadAgg rfl rfl rfl rfl rfl rfl rfl ?_
                exact AOps.nil ⟨rfl, rfl⟩
                exact rfl
                apply DrawSeq.consF; exact rfl; intro E
                refine AOps.move rfl rfl ?_
                exact AOps.nil ⟨rfl, rfl⟩
                exact rfl
                apply DrawSeq.consF; exact rfl; intro E
                refine AOps.move rfl rfl ?_
                exact AOps.nil ⟨rfl, rfl⟩
                exact rfl
                apply DrawSeq.consF; exact rfl; intro E
                refine AOps.move rfl rfl ?_
                exact AOps.nil ⟨rfl, rfl⟩
                exact rfl
                apply DrawSeq.consF; exact rfl; intro E
                refine S.subFrom ha54 rfl rfl rfl ?_
                exact AOps.nil ⟨rfl, rfl⟩
                exact rfl
                apply DrawSeq.consF; exact rfl; intro E
                refine AOps.callR rfl rfl rfl rfl (ref1_Works_ok ha55) rfl ?_
                exact AOps.nil ⟨rfl, rfl⟩
                exact rfl
                apply DrawSeq.consF; exact rfl; intro E
                refine AOps.move rfl rfl ?_
                exact AOps.nil ⟨rfl, rfl⟩
                exact rfl
                apply DrawSeq.consF; exact rfl; intro E
                refine AOps.move rfl rfl ?_
                exact AOps.nil ⟨rfl, rfl⟩
                exact rfl
                apply DrawSeq.consF; exact rfl; intro E
                refine S.idx ha58 rfl rfl rfl rfl ?_
                exact AOps.nil ⟨rfl, rfl⟩
                exact rfl
                apply DrawSeq.consF; exact rfl; intro E
                refine AOps.loadI rfl rfl rfl rfl ?_
                exact AOps.nil ⟨rfl, rfl⟩
                exact rfl
                apply DrawSeq.consF; exact rfl; intro E
                refine AOps.move rfl rfl ?_
                exact AOps.nil ⟨rfl, rfl⟩
                exact rfl
                apply DrawSeq.consF; exact rfl; intro E
                refine AOps.guardT rfl rfl rfl hb13 ?_; refine AOps.move rfl rfl ?_
                exact AOps.nil ⟨rfl, rfl⟩
                exact rfl
                apply DrawSeq.consF; exact rfl; intro E
                refine AOps.guardT rfl rfl rfl hb13 ?_; refine AOps.move rfl rfl ?_
                exact AOps.nil ⟨rfl, rfl⟩
                exact rfl
                apply DrawSeq.consF; exact rfl; intro E
                refine AOps.guardT rfl rfl rfl hb13 ?_; refine S.idx ha63 rfl rfl rfl rfl ?_
                exact AOps.nil ⟨rfl, rfl⟩
                exact rfl
                apply DrawSeq.consF; exact rfl; intro E
                refine AOps.guardT rfl rfl rfl hb13 ?_; refine AOps.loadI rfl rfl rfl rfl ?_
                exact AOps.nil ⟨rfl, rfl⟩
                exact rfl
                apply DrawSeq.consF; exact rfl; intro E
                refine AOps.guardT rfl rfl rfl hb13 ?_; refine AOps.move rfl rfl ?_
                exact AOps.nil ⟨rfl, rfl⟩
                exact rfl
                apply DrawSeq.consF; exact rfl; intro E
                refine AOps.guardT rfl rfl rfl hb13 ?_; refine AOps.callR rfl rfl rfl rfl (ref1_Subset_ok ha66) rfl ?_
                exact AOps.nil ⟨rfl, rfl⟩
                exact rfl
                apply DrawSeq.consF; exact rfl; intro E
                refine AOps.pickT rfl hb13 rfl rfl ?_
                exact AOps.nil ⟨rfl, rfl⟩
                exact rfl
                apply DrawSeq.consF; exact rfl; intro E
                refine AOps.eqlB rfl rfl rfl ?_
                exact AOps.nil ⟨rfl, rfl⟩
                exact rfl
                apply DrawSeq.consF; exact rfl; intro E
                refine AOps.move rfl rfl ?_
                exact AOps.nil ⟨rfl, rfl⟩
                exact rfl
                apply DrawSeq.consF; exact rfl; intro E
                refine AOps.guardT rfl rfl rfl hb14 ?_; refine AOps.callR rfl rfl rfl rfl (law8_watched_ok ha70) rfl ?_
                exact AOps.nil ⟨rfl, rfl⟩
                exact rfl
                apply DrawSeq.consF; exact rfl; intro E
                refine AOps.pickT rfl hb14 rfl rfl ?_
                exact AOps.nil ⟨rfl, rfl⟩
                exact rfl
                apply DrawSeq.consF; exact rfl; intro E
                refine AOps.assign rfl rfl ?_
                exact AOps.nil ⟨rfl, rfl⟩
                exact rfl
                refine DrawSeq.done ?_
                dsimp only [envEnd]
                have ej := Option.some.inj hx12
                subst ej
                refine thn_normal ?_
                exact Sub.cut ⟨rfl, trivial⟩ rfl trivial rfl
              · replace hx12 := iteDF hb14 hx12
                refine AWP.drawI mixed rfl ?_
                apply DrawSeq.consF; exact rfl; intro E
                refine W.loadAgg rfl rfl rfl rfl rfl rfl rfl ?_
                exact AOps.nil ⟨rfl, rfl⟩
                exact rfl
                apply DrawSeq.consF; exact rfl; intro E
                refine AOps.move rfl rfl ?_
                exact AOps.nil ⟨rfl, rfl⟩
                exact rfl
                apply DrawSeq.consF; exact rfl; intro E
                refine AOps.move rfl rfl ?_
                exact AOps.nil ⟨rfl, rfl⟩
                exact rfl
                apply DrawSeq.consF; exact rfl; intro E
                refine AOps.move rfl rfl ?_
                exact AOps.nil ⟨rfl, rfl⟩
                exact rfl
                apply DrawSeq.consF; exact rfl; intro E
                refine S.subFrom ha54 rfl rfl rfl ?_
                exact AOps.nil ⟨rfl, rfl⟩
                exact rfl
                apply DrawSeq.consF; exact rfl; intro E
                refine AOps.callR rfl rfl rfl rfl (ref1_Works_ok ha55) rfl ?_
                exact AOps.nil ⟨rfl, rfl⟩
                exact rfl
                apply DrawSeq.consF; exact rfl; intro E
                refine AOps.move rfl rfl ?_
                exact AOps.nil ⟨rfl, rfl⟩
                exact rfl
                apply DrawSeq.consF; exact rfl; intro E
                refine AOps.move rfl rfl ?_
                exact AOps.nil ⟨rfl, rfl⟩
                exact rfl
                apply DrawSeq.consF; exact rfl; intro E
                refine S.idx ha58 rfl rfl rfl rfl ?_
                exact AOps.nil ⟨rfl, rfl⟩
                exact rfl
                apply DrawSeq.consF; exact rfl; intro E
                refine AOps.loadI rfl rfl rfl rfl ?_
                exact AOps.nil ⟨rfl, rfl⟩
                exact rfl
                apply DrawSeq.consF; exact rfl; intro E
                refine AOps.move rfl rfl ?_
                exact AOps.nil ⟨rfl, rfl⟩
                exact rfl
                apply DrawSeq.consF; exact rfl; intro E
                refine AOps.guardT rfl rfl rfl hb13 ?_; refine AOps.move rfl rfl ?_
                exact AOps.nil ⟨rfl, rfl⟩
                exact rfl
                apply DrawSeq.consF; exact rfl; intro E
                refine AOps.guardT rfl rfl rfl hb13 ?_; refine AOps.move rfl rfl ?_
                exact AOps.nil ⟨rfl, rfl⟩
                exact rfl
                apply DrawSeq.consF; exact rfl; intro E
                refine AOps.guardT rfl rfl rfl hb13 ?_; refine S.idx ha63 rfl rfl rfl rfl ?_
                exact AOps.nil ⟨rfl, rfl⟩
                exact rfl
                apply DrawSeq.consF; exact rfl; intro E
                refine AOps.guardT rfl rfl rfl hb13 ?_; refine AOps.loadI rfl rfl rfl rfl ?_
                exact AOps.nil ⟨rfl, rfl⟩
                exact rfl
                apply DrawSeq.consF; exact rfl; intro E
                refine AOps.guardT rfl rfl rfl hb13 ?_; refine AOps.move rfl rfl ?_
                exact AOps.nil ⟨rfl, rfl⟩
                exact rfl
                apply DrawSeq.consF; exact rfl; intro E
                refine AOps.guardT rfl rfl rfl hb13 ?_; refine AOps.callR rfl rfl rfl rfl (ref1_Subset_ok ha66) rfl ?_
                exact AOps.nil ⟨rfl, rfl⟩
                exact rfl
                apply DrawSeq.consF; exact rfl; intro E
                refine AOps.pickT rfl hb13 rfl rfl ?_
                exact AOps.nil ⟨rfl, rfl⟩
                exact rfl
                apply DrawSeq.consF; exact rfl; intro E
                refine AOps.eqlB rfl rfl rfl ?_
                exact AOps.nil ⟨rfl, rfl⟩
                exact rfl
                apply DrawSeq.consF; exact rfl; intro E
                refine AOps.move rfl rfl ?_
                exact AOps.nil ⟨rfl, rfl⟩
                exact rfl
                apply DrawSeq.consF; exact rfl; intro E
                refine AOps.guardF rfl rfl rfl hb14 ?_
                exact AOps.nil ⟨rfl, rfl⟩
                exact rfl
                apply DrawSeq.consF; exact rfl; intro E
                refine AOps.pickF rfl hb14 rfl rfl ?_
                exact AOps.nil ⟨rfl, rfl⟩
                exact rfl
                apply DrawSeq.consF; exact rfl; intro E
                refine AOps.assign rfl rfl ?_
                exact AOps.nil ⟨rfl, rfl⟩
                exact rfl
                refine DrawSeq.done ?_
                dsimp only [envEnd]
                have ej := Option.some.inj hx12
                subst ej
                refine thn_normal ?_
                exact Sub.cut ⟨rfl, trivial⟩ rfl trivial rfl
            · replace hx12 := iteBF hb13 hx12
              rcases Bool.eq_false_or_eq_true (decide (a55 = false)) with hb15 | hb15
              · replace hx12 := iteDT hb15 hx12
                obtain ⟨a70, ha70, hx12⟩ := bind_some hx12
                refine AWP.drawI mixed rfl ?_
                apply DrawSeq.consF; exact rfl; intro E
                refine W.loadAgg rfl rfl rfl rfl rfl rfl rfl ?_
                exact AOps.nil ⟨rfl, rfl⟩
                exact rfl
                apply DrawSeq.consF; exact rfl; intro E
                refine AOps.move rfl rfl ?_
                exact AOps.nil ⟨rfl, rfl⟩
                exact rfl
                apply DrawSeq.consF; exact rfl; intro E
                refine AOps.move rfl rfl ?_
                exact AOps.nil ⟨rfl, rfl⟩
                exact rfl
                apply DrawSeq.consF; exact rfl; intro E
                refine AOps.move rfl rfl ?_
                exact AOps.nil ⟨rfl, rfl⟩
                exact rfl
                apply DrawSeq.consF; exact rfl; intro E
                refine S.subFrom ha54 rfl rfl rfl ?_
                exact AOps.nil ⟨rfl, rfl⟩
                exact rfl
                apply DrawSeq.consF; exact rfl; intro E
                refine AOps.callR rfl rfl rfl rfl (ref1_Works_ok ha55) rfl ?_
                exact AOps.nil ⟨rfl, rfl⟩
                exact rfl
                apply DrawSeq.consF; exact rfl; intro E
                refine AOps.move rfl rfl ?_
                exact AOps.nil ⟨rfl, rfl⟩
                exact rfl
                apply DrawSeq.consF; exact rfl; intro E
                refine AOps.move rfl rfl ?_
                exact AOps.nil ⟨rfl, rfl⟩
                exact rfl
                apply DrawSeq.consF; exact rfl; intro E
                refine S.idx ha58 rfl rfl rfl rfl ?_
                exact AOps.nil ⟨rfl, rfl⟩
                exact rfl
                apply DrawSeq.consF; exact rfl; intro E
                refine AOps.loadI rfl rfl rfl rfl ?_
                exact AOps.nil ⟨rfl, rfl⟩
                exact rfl
                apply DrawSeq.consF; exact rfl; intro E
                refine AOps.move rfl rfl ?_
                exact AOps.nil ⟨rfl, rfl⟩
                exact rfl
                apply DrawSeq.consF; exact rfl; intro E
                refine AOps.guardF rfl rfl rfl hb13 ?_
                exact AOps.nil ⟨rfl, rfl⟩
                exact rfl
                apply DrawSeq.consF; exact rfl; intro E
                refine AOps.guardF rfl rfl rfl hb13 ?_
                exact AOps.nil ⟨rfl, rfl⟩
                exact rfl
                apply DrawSeq.consF; exact rfl; intro E
                refine AOps.guardF rfl rfl rfl hb13 ?_
                exact AOps.nil ⟨rfl, rfl⟩
                exact rfl
                apply DrawSeq.consF; exact rfl; intro E
                refine AOps.guardF rfl rfl rfl hb13 ?_
                exact AOps.nil ⟨rfl, rfl⟩
                exact rfl
                apply DrawSeq.consF; exact rfl; intro E
                refine AOps.guardF rfl rfl rfl hb13 ?_
                exact AOps.nil ⟨rfl, rfl⟩
                exact rfl
                apply DrawSeq.consF; exact rfl; intro E
                refine AOps.guardF rfl rfl rfl hb13 ?_
                exact AOps.nil ⟨rfl, rfl⟩
                exact rfl
                apply DrawSeq.consF; exact rfl; intro E
                refine AOps.pickF rfl hb13 rfl rfl ?_
                exact AOps.nil ⟨rfl, rfl⟩
                exact rfl
                apply DrawSeq.consF; exact rfl; intro E
                refine AOps.eqlB rfl rfl rfl ?_
                exact AOps.nil ⟨rfl, rfl⟩
                exact rfl
                apply DrawSeq.consF; exact rfl; intro E
                refine AOps.move rfl rfl ?_
                exact AOps.nil ⟨rfl, rfl⟩
                exact rfl
                apply DrawSeq.consF; exact rfl; intro E
                refine AOps.guardT rfl rfl rfl hb15 ?_; refine AOps.callR rfl rfl rfl rfl (law8_watched_ok ha70) rfl ?_
                exact AOps.nil ⟨rfl, rfl⟩
                exact rfl
                apply DrawSeq.consF; exact rfl; intro E
                refine AOps.pickT rfl hb15 rfl rfl ?_
                exact AOps.nil ⟨rfl, rfl⟩
                exact rfl
                apply DrawSeq.consF; exact rfl; intro E
                refine AOps.assign rfl rfl ?_
                exact AOps.nil ⟨rfl, rfl⟩
                exact rfl
                refine DrawSeq.done ?_
                dsimp only [envEnd]
                have ej := Option.some.inj hx12
                subst ej
                refine thn_normal ?_
                exact Sub.cut ⟨rfl, trivial⟩ rfl trivial rfl
              · replace hx12 := iteDF hb15 hx12
                refine AWP.drawI mixed rfl ?_
                apply DrawSeq.consF; exact rfl; intro E
                refine W.loadAgg rfl rfl rfl rfl rfl rfl rfl ?_
                exact AOps.nil ⟨rfl, rfl⟩
                exact rfl
                apply DrawSeq.consF; exact rfl; intro E
                refine AOps.move rfl rfl ?_
                exact AOps.nil ⟨rfl, rfl⟩
                exact rfl
                apply DrawSeq.consF; exact rfl; intro E
                refine AOps.move rfl rfl ?_
                exact AOps.nil ⟨rfl, rfl⟩
                exact rfl
                apply DrawSeq.consF; exact rfl; intro E
                refine AOps.move rfl rfl ?_
                exact AOps.nil ⟨rfl, rfl⟩
                exact rfl
                apply DrawSeq.consF; exact rfl; intro E
                refine S.subFrom ha54 rfl rfl rfl ?_
                exact AOps.nil ⟨rfl, rfl⟩
                exact rfl
                apply DrawSeq.consF; exact rfl; intro E
                refine AOps.callR rfl rfl rfl rfl (ref1_Works_ok ha55) rfl ?_
                exact AOps.nil ⟨rfl, rfl⟩
                exact rfl
                apply DrawSeq.consF; exact rfl; intro E
                refine AOps.move rfl rfl ?_
                exact AOps.nil ⟨rfl, rfl⟩
                exact rfl
                apply DrawSeq.consF; exact rfl; intro E
                refine AOps.move rfl rfl ?_
                exact AOps.nil ⟨rfl, rfl⟩
                exact rfl
                apply DrawSeq.consF; exact rfl; intro E
                refine S.idx ha58 rfl rfl rfl rfl ?_
                exact AOps.nil ⟨rfl, rfl⟩
                exact rfl
                apply DrawSeq.consF; exact rfl; intro E
                refine AOps.loadI rfl rfl rfl rfl ?_
                exact AOps.nil ⟨rfl, rfl⟩
                exact rfl
                apply DrawSeq.consF; exact rfl; intro E
                refine AOps.move rfl rfl ?_
                exact AOps.nil ⟨rfl, rfl⟩
                exact rfl
                apply DrawSeq.consF; exact rfl; intro E
                refine AOps.guardF rfl rfl rfl hb13 ?_
                exact AOps.nil ⟨rfl, rfl⟩
                exact rfl
                apply DrawSeq.consF; exact rfl; intro E
                refine AOps.guardF rfl rfl rfl hb13 ?_
                exact AOps.nil ⟨rfl, rfl⟩
                exact rfl
                apply DrawSeq.consF; exact rfl; intro E
                refine AOps.guardF rfl rfl rfl hb13 ?_
                exact AOps.nil ⟨rfl, rfl⟩
                exact rfl
                apply DrawSeq.consF; exact rfl; intro E
                refine AOps.guardF rfl rfl rfl hb13 ?_
                exact AOps.nil ⟨rfl, rfl⟩
                exact rfl
                apply DrawSeq.consF; exact rfl; intro E
                refine AOps.guardF rfl rfl rfl hb13 ?_
                exact AOps.nil ⟨rfl, rfl⟩
                exact rfl
                apply DrawSeq.consF; exact rfl; intro E
                refine AOps.guardF rfl rfl rfl hb13 ?_
                exact AOps.nil ⟨rfl, rfl⟩
                exact rfl
                apply DrawSeq.consF; exact rfl; intro E
                refine AOps.pickF rfl hb13 rfl rfl ?_
                exact AOps.nil ⟨rfl, rfl⟩
                exact rfl
                apply DrawSeq.consF; exact rfl; intro E
                refine AOps.eqlB rfl rfl rfl ?_
                exact AOps.nil ⟨rfl, rfl⟩
                exact rfl
                apply DrawSeq.consF; exact rfl; intro E
                refine AOps.move rfl rfl ?_
                exact AOps.nil ⟨rfl, rfl⟩
                exact rfl
                apply DrawSeq.consF; exact rfl; intro E
                refine AOps.guardF rfl rfl rfl hb15 ?_
                exact AOps.nil ⟨rfl, rfl⟩
                exact rfl
                apply DrawSeq.consF; exact rfl; intro E
                refine AOps.pickF rfl hb15 rfl rfl ?_
                exact AOps.nil ⟨rfl, rfl⟩
                exact rfl
                apply DrawSeq.consF; exact rfl; intro E
                refine AOps.assign rfl rfl ?_
                exact AOps.nil ⟨rfl, rfl⟩
                exact rfl
                refine DrawSeq.done ?_
                dsimp only [envEnd]
                have ej := Option.some.inj hx12
                subst ej
                refine thn_normal ?_
                exact Sub.cut ⟨rfl, trivial⟩ rfl trivial rfl
          · refine AWP.ret ?_
            have ej := Option.some.inj h
            subst ej
            exact Done.ret rfl rfl

end Ab
