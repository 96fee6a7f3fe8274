import Derived.Test.YtkhkglbonojeaaaTy
import Derived.Test.YtkhkglbonojeaaaSh6
import Derived.Test.YtkhkglbonojeaaaGRep
namespace Ab
open Go Go.Proofs
set_option maxHeartbeats 4000000
set_option linter.all false
attribute [local irreducible] AWP AOps thn inB Done PureOk FreshOk Sub

abbrev eLi64 (l : List Int) : List I := [.sl 1 (l.map intI)]
abbrev eA2i64 (v : Int × Int) : List I := [.val (.int .i64 v.1), .val (.int .i64 v.2)]
abbrev eLA2i64 (l : List (Int × Int)) : List I := [.sl 2 (l.map eA2i64)]
structure TGame where
  owner : List Int
  arcs : List (Int × Int)
abbrev eTGame (v : TGame) : List I := [.sl 1 (List.map intI v.owner), .sl 2 (List.map eA2i64 v.arcs)]
structure TFault where
  code : Int
  index : Int
abbrev eTFault (v : TFault) : List I := [.val (.int .i64 v.code), .val (.int .i64 v.index)]
structure Tx_int64_y_int_signed_bool_code_abi_BoundsErrorCode where
  fx : Int
  fy : Int
  signed : Bool
  code : Int
abbrev eTx_int64_y_int_signed_bool_code_abi_BoundsErrorCode (v : Tx_int64_y_int_signed_bool_code_abi_BoundsErrorCode) : List I := [.val (.int .i64 v.fx), .val (.int .i64 v.fy), .val (.bool v.signed), .val (.int .u8 v.code)]
structure Truntime_boundsError where
  fx : Int
  fy : Int
  signed : Bool
  code : Int
abbrev eTruntime_boundsError (v : Truntime_boundsError) : List I := [.val (.int .i64 v.fx), .val (.int .i64 v.fy), .val (.bool v.signed), .val (.int .u8 v.code)]
structure Tmsg_string_addr_uintptr where
  msg : ByteArray
  addr : Int
abbrev eTmsg_string_addr_uintptr (v : Tmsg_string_addr_uintptr) : List I := [.val (.string v.msg), .val (.int .u64 v.addr)]
structure Truntime_errorAddressString where
  msg : ByteArray
  addr : Int
abbrev eTruntime_errorAddressString (v : Truntime_errorAddressString) : List I := [.val (.string v.msg), .val (.int .u64 v.addr)]
structure TOwner_int_Arcs_2_int where
  owner : List Int
  arcs : List (Int × Int)
abbrev eTOwner_int_Arcs_2_int (v : TOwner_int_Arcs_2_int) : List I := [.sl 1 (List.map intI v.owner), .sl 2 (List.map eA2i64 v.arcs)]
structure TCode_int_Index_int where
  code : Int
  index : Int
abbrev eTCode_int_Index_int (v : TCode_int_Index_int) : List I := [.val (.int .i64 v.code), .val (.int .i64 v.index)]
abbrev eLLi64 (l : List (List Int)) : List I := [.sl 1 (l.map eLi64)]

def cmp_isNaN_int (xv : Int) : Option Bool := some (!(decide (xv = xv)))
theorem cmp_isNaN_int_ok {xv : Int} {r : Bool} (h : cmp_isNaN_int xv = some r) : PureOk Try.prog 40 [.c (int xv)] (.c (bool r)) := by
  unfold PureOk
  refine FnOk.enter (rs := [.t 2]) Try.func40 rfl Try.ntmps40 Try.results40 rfl ⟨trivial, trivial⟩ (by kernel_rfl) rfl ?_
  unfold cmp_isNaN_int at h
  refine AWP.seq ?_
  refine AWP.region ?_
  refine AOps.assign rfl rfl ?_
  refine AOps.nil ?_
  refine thn_normal ?_
  refine AWP.seq ?_
  refine AWP.region ?_
  refine AOps.move rfl rfl ?_
  refine AOps.move rfl rfl ?_
  refine AOps.neq rfl rfl rfl ?_
  refine AOps.assign rfl rfl ?_
  refine AOps.nil ?_
  refine thn_normal ?_
  refine AWP.ret ?_
  have ej := Option.some.inj h
  subst ej
  exact Done.ret rfl rfl

def cmp_Compare_int (xv : Int) (yv : Int) : Option Int := Option.bind (cmp_isNaN_int xv) fun a8 => Option.bind (cmp_isNaN_int yv) fun a10 => if a8 = true then if a10 = true then some 0 else some (-1) else if a10 = true then some 1 else if xv < yv then some (-1) else if yv < xv then some 1 else some 0
theorem cmp_Compare_int_ok {xv : Int} {yv : Int} {r : Int} (h : cmp_Compare_int xv yv = some r) : PureOk Try.prog 36 [.c (int xv), .c (int yv)] (.c (int r)) := by
  unfold PureOk
  refine FnOk.enter (rs := [.t 4]) Try.func36 rfl Try.ntmps36 Try.results36 rfl ⟨trivial, trivial⟩ (by kernel_rfl) rfl ?_
  unfold cmp_Compare_int at h
  refine AWP.seq ?_
  refine AWP.region ?_
  refine AOps.assign rfl rfl ?_
  refine AOps.nil ?_
  refine thn_normal ?_
  refine AWP.seq ?_
  obtain ⟨a8, ha8, h⟩ := bind_some h
  refine AWP.region ?_
  refine AOps.move rfl rfl ?_
  refine AOps.callR rfl rfl rfl rfl (cmp_isNaN_int_ok ha8) rfl ?_
  refine AOps.assign rfl rfl ?_
  refine AOps.nil ?_
  refine thn_normal ?_
  refine AWP.seq ?_
  obtain ⟨a10, ha10, h⟩ := bind_some h
  refine AWP.region ?_
  refine AOps.move rfl rfl ?_
  refine AOps.callR rfl rfl rfl rfl (cmp_isNaN_int_ok ha10) rfl ?_
  refine AOps.assign rfl rfl ?_
  refine AOps.nil ?_
  refine thn_normal ?_
  refine AWP.seq ?_
  refine AWP.seq ?_
  refine AWP.region ?_
  refine AOps.move rfl rfl ?_
  refine AOps.nil ?_
  refine thn_normal ?_
  refine AWP.iteB rfl h (fun hc3 h => ?_) (fun hc3 h => ?_)
  · refine AWP.seq ?_
    refine AWP.seq ?_
    refine AWP.region ?_
    refine AOps.move rfl rfl ?_
    refine AOps.nil ?_
    refine thn_normal ?_
    refine AWP.iteB rfl h (fun hc4 h => ?_) (fun hc4 h => ?_)
    · refine AWP.seq ?_
      refine AWP.region ?_
      refine AOps.assign rfl rfl ?_
      refine AOps.nil ?_
      refine thn_normal ?_
      refine AWP.ret ?_
      refine thn_ret ?_
      refine thn_ret ?_
      have ej := Option.some.inj h
      subst ej
      exact Done.ret rfl rfl
    · refine AWP.skip ?_
      refine thn_normal ?_
      refine AWP.seq ?_
      refine AWP.region ?_
      refine AOps.assign rfl rfl ?_
      refine AOps.nil ?_
      refine thn_normal ?_
      refine AWP.ret ?_
      refine thn_ret ?_
      have ej := Option.some.inj h
      subst ej
      exact Done.ret rfl rfl
  · refine AWP.skip ?_
    refine thn_normal ?_
    refine AWP.seq ?_
    refine AWP.seq ?_
    refine AWP.region ?_
    refine AOps.move rfl rfl ?_
    refine AOps.nil ?_
    refine thn_normal ?_
    refine AWP.iteB rfl h (fun hc5 h => ?_) (fun hc5 h => ?_)
    · refine AWP.seq ?_
      refine AWP.region ?_
      refine AOps.assign rfl rfl ?_
      refine AOps.nil ?_
      refine thn_normal ?_
      refine AWP.ret ?_
      refine thn_ret ?_
      have ej := Option.some.inj h
      subst ej
      exact Done.ret rfl rfl
    · refine AWP.skip ?_
      refine thn_normal ?_
      refine AWP.seq ?_
      refine AWP.seq ?_
      refine AWP.region ?_
      refine AOps.move rfl rfl ?_
      refine AOps.move rfl rfl ?_
      refine AOps.lss rfl rfl rfl ?_
      refine AOps.nil ?_
      refine thn_normal ?_
      refine AWP.ite rfl h (fun hc6 h => ?_) (fun hc6 h => ?_)
      · refine AWP.seq ?_
        refine AWP.region ?_
        refine AOps.assign rfl rfl ?_
        refine AOps.nil ?_
        refine thn_normal ?_
        refine AWP.ret ?_
        refine thn_ret ?_
        have ej := Option.some.inj h
        subst ej
        exact Done.ret rfl rfl
      · refine AWP.skip ?_
        refine thn_normal ?_
        refine AWP.seq ?_
        refine AWP.seq ?_
        refine AWP.region ?_
        refine AOps.move rfl rfl ?_
        refine AOps.move rfl rfl ?_
        refine AOps.gtr rfl rfl rfl ?_
        refine AOps.nil ?_
        refine thn_normal ?_
        refine AWP.ite rfl h (fun hc7 h => ?_) (fun hc7 h => ?_)
        · refine AWP.seq ?_
          refine AWP.region ?_
          refine AOps.assign rfl rfl ?_
          refine AOps.nil ?_
          refine thn_normal ?_
          refine AWP.ret ?_
          refine thn_ret ?_
          have ej := Option.some.inj h
          subst ej
          exact Done.ret rfl rfl
        · refine AWP.skip ?_
          refine thn_normal ?_
          refine AWP.seq ?_
          refine AWP.region ?_
          refine AOps.assign rfl rfl ?_
          refine AOps.nil ?_
          refine thn_normal ?_
          refine AWP.ret ?_
          have ej := Option.some.inj h
          subst ej
          exact Done.ret rfl rfl

def slices_Compare_int_int_l1 (s11 : List Int) (s22 : List Int) : Int → Unit → Option (Unit ⊕ Int) := fun t3 _ => Option.bind (ix s11 t3) fun a14 => if (s22.length : Int) ≤ t3 then some (.inr 1) else Option.bind (ix s22 t3) fun a22 => Option.bind (cmp_Compare_int a14 a22) fun a26 => if a26 = 0 then some (.inl ()) else some (.inr a26)
def slices_Compare_int_int (s11 : List Int) (s22 : List Int) : Option Int := (Option.bind (rngX 0 (s11.length : Int) (slices_Compare_int_int_l1 s11 s22) ()) fun | .inl _ => if (s11.length : Int) < (s22.length : Int) then some (-1) else some 0 | .inr x => some x)
theorem slices_Compare_int_int_ok {s11 : List Int} {s22 : List Int} {r : Int} (h : slices_Compare_int_int s11 s22 = some r) : PureOk Try.prog 30 [.c (row 1 intI s11), .c (row 1 intI s22)] (.c (int r)) := by
  unfold PureOk
  refine FnOk.enter (rs := [.t 4]) Try.func30 rfl Try.ntmps30 Try.results30 rfl ⟨trivial, trivial⟩ (by kernel_rfl) rfl ?_
  unfold slices_Compare_int_int at h
  refine AWP.seq ?_
  refine AWP.region ?_
  refine AOps.assign rfl rfl ?_
  refine AOps.nil ?_
  refine thn_normal ?_
  refine AWP.seq ?_
  refine AWP.seq ?_
  refine AWP.region ?_
  refine AOps.move rfl rfl ?_
  refine S.len rfl rfl (fun hl10 => ?_)
  refine AOps.move rfl rfl ?_
  refine AOps.nil ?_
  refine thn_normal ?_
  refine AWP.block ?_
  obtain ⟨oo, ho1, h⟩ := bind_some h
  refine AWP.rngS ho1 (fun t3 _ => ⟨[(0, .c (row 1 intI s11)), (1, .c (row 1 intI s22)), (9, .c (row 1 intI s11)), (10, .c (int (s11.length : Int))), (11, .c (int t3))], []⟩) (fun o e st => match o with | .inl _ => e = .exit 0 ∧ Sub [] st ⟨[(0, .c (row 1 intI s11)), (1, .c (row 1 intI s22))], []⟩ | .inr x => e = .ret ∧ Done [.t 4] (fun t _ => t = .c (int x)) .ret st) ?_ ?_ ?_ ?_
  · try dsimp only
    exact Sub.env ⟨rfl, rfl, rfl, rfl, rfl, trivial⟩
  · intro t3 s hlot3 hltt3 _
    try dsimp only
    refine AWP.seq ?_
    refine AWP.region ?_
    refine AOps.lss rfl rfl rfl ?_
    refine AOps.nil ?_
    refine thn_normal ?_
    refine AWP.seq ?_
    refine AWP.condNP rfl hltt3 ?_
    refine AWP.exit ?_
    refine thn_exit ?_
    refine thn_exit ⟨rfl, ?_⟩
    exact Sub.env ⟨rfl, rfl, trivial⟩
  · intro t3 s o hlot3 hltt3 h
    unfold slices_Compare_int_int_l1 at h
    try dsimp only at h ⊢
    refine AWP.seq ?_
    refine AWP.region ?_
    refine AOps.lss rfl rfl rfl ?_
    refine AOps.nil ?_
    refine thn_normal ?_
    refine AWP.seq ?_
    refine AWP.condP rfl hltt3 ?_
    refine AWP.skip ?_
    refine thn_normal ?_
    refine AWP.seq ?_
    refine AWP.block ?_
    refine AWP.seq ?_
    obtain ⟨a14, ha14, h⟩ := bind_some h
    refine AWP.region ?_
    refine AOps.move rfl rfl ?_
    refine S.idx ha14 rfl rfl rfl rfl ?_
    refine AOps.loadI rfl rfl rfl rfl ?_
    refine AOps.assign rfl rfl ?_
    refine AOps.assign rfl rfl ?_
    refine AOps.nil ?_
    refine thn_normal ?_
    refine AWP.seq ?_
    refine AWP.seq ?_
    refine AWP.region ?_
    refine AOps.move rfl rfl ?_
    refine AOps.move rfl rfl ?_
    refine S.len rfl rfl (fun hl18 => ?_)
    refine AOps.geq rfl rfl rfl ?_
    refine AOps.nil ?_
    refine thn_normal ?_
    refine AWP.ite rfl h (fun hc4 h => ?_) (fun hc4 h => ?_)
    · refine AWP.seq ?_
      refine AWP.region ?_
      refine AOps.assign rfl rfl ?_
      refine AOps.nil ?_
      refine thn_normal ?_
      refine AWP.ret ?_
      refine thn_ret ?_
      refine inB_ret ?_
      refine thn_ret ?_
      have ej := Option.some.inj h
      subst ej
      refine thn_ret ⟨_, rfl, rfl, ?_⟩
      exact Done.ret rfl rfl
    · refine AWP.skip ?_
      refine thn_normal ?_
      refine AWP.seq ?_
      obtain ⟨a22, ha22, h⟩ := bind_some h
      refine AWP.region ?_
      refine AOps.move rfl rfl ?_
      refine AOps.move rfl rfl ?_
      refine S.idx ha22 rfl rfl rfl rfl ?_
      refine AOps.loadI rfl rfl rfl rfl ?_
      refine AOps.assign rfl rfl ?_
      refine AOps.nil ?_
      refine thn_normal ?_
      refine AWP.seq ?_
      obtain ⟨a26, ha26, h⟩ := bind_some h
      refine AWP.region ?_
      refine AOps.move rfl rfl ?_
      refine AOps.move rfl rfl ?_
      refine AOps.callR rfl rfl rfl rfl (cmp_Compare_int_ok ha26) rfl ?_
      refine AOps.assign rfl rfl ?_
      refine AOps.nil ?_
      refine thn_normal ?_
      refine AWP.seq ?_
      refine AWP.region ?_
      refine AOps.move rfl rfl ?_
      refine AOps.neq rfl rfl rfl ?_
      refine AOps.nil ?_
      refine thn_normal ?_
      refine AWP.iteN rfl h (fun hc5 h => ?_) (fun hc5 h => ?_)
      · refine AWP.seq ?_
        refine AWP.region ?_
        refine AOps.move rfl rfl ?_
        refine AOps.assign rfl rfl ?_
        refine AOps.nil ?_
        refine thn_normal ?_
        refine AWP.ret ?_
        refine inB_ret ?_
        refine thn_ret ?_
        have ej := Option.some.inj h
        subst ej
        refine thn_ret ⟨_, rfl, rfl, ?_⟩
        exact Done.ret rfl rfl
      · refine AWP.skip ?_
        refine inB_normal ?_
        refine thn_normal ?_
        refine AWP.region ?_
        refine AOps.add rfl rfl rfl (by omega) ?_
        refine AOps.move rfl rfl ?_
        refine AOps.nil ?_
        have ej := Option.some.inj h
        subst ej
        refine thn_normal ⟨_, rfl, ?_⟩
        exact Sub.env ⟨rfl, rfl, rfl, rfl, rfl, trivial⟩
  · intro e s hq
    rcases oo with u | x
    · try dsimp only at h hq
      obtain ⟨rfl, hs⟩ := hq
      refine ⟨_, hs, ?_⟩
      refine inB_exit ?_
      refine thn_normal ?_
      refine AWP.seq ?_
      refine AWP.seq ?_
      refine AWP.region ?_
      refine AOps.move rfl rfl ?_
      refine S.len rfl rfl (fun hl32 => ?_)
      refine AOps.move rfl rfl ?_
      refine S.len rfl rfl (fun hl34 => ?_)
      refine AOps.lss rfl rfl rfl ?_
      refine AOps.nil ?_
      refine thn_normal ?_
      refine AWP.ite rfl h (fun hc6 h => ?_) (fun hc6 h => ?_)
      · refine AWP.seq ?_
        refine AWP.region ?_
        refine AOps.assign rfl rfl ?_
        refine AOps.nil ?_
        refine thn_normal ?_
        refine AWP.ret ?_
        refine thn_ret ?_
        have ej := Option.some.inj h
        subst ej
        exact Done.ret rfl rfl
      · refine AWP.skip ?_
        refine thn_normal ?_
        refine AWP.seq ?_
        refine AWP.region ?_
        refine AOps.assign rfl rfl ?_
        refine AOps.nil ?_
        refine thn_normal ?_
        refine AWP.ret ?_
        have ej := Option.some.inj h
        subst ej
        exact Done.ret rfl rfl
    · try dsimp only at h hq
      obtain ⟨rfl, hs⟩ := hq
      refine ⟨_, Sub.refl _ _, ?_⟩
      refine inB_ret ?_
      refine thn_ret ?_
      have ej := Option.some.inj h
      subst ej
      exact hs

def games_Validate_l1 (gv : TGame) : Int → Unit → Option (Unit ⊕ TFault) := fun t4 _ => Option.bind (ix gv.owner t4) fun a31 => if ((!(decide (a31 = 0))) && (!(decide (a31 = 1)))) = true then some (.inr (⟨3, (-2) - t4⟩ : TFault)) else some (.inl ())
def games_Validate_l2 (gv : TGame) : Int → Unit → Option (Unit ⊕ TFault) := fun t6 _ => Option.bind (ix gv.arcs t6) fun a49 => if ((decide (min a49.1 a49.2 < 0)) || (decide ((gv.owner.length : Int) ≤ max a49.1 a49.2))) = true then some (.inr (⟨3, t6⟩ : TFault)) else Option.bind (if 0 < t6 then Option.bind (ix gv.arcs (t6 - 1)) fun a79 => Option.bind (slices_Compare_int_int [a79.1, a79.2] [a49.1, a49.2]) fun a82 => some (decide (0 ≤ a82)) else some false) fun t8 => if t8 = true then some (.inr (⟨5, t6⟩ : TFault)) else some (.inl ())
def games_Validate (gv : TGame) : Option TFault := if ((decide ((gv.owner.length : Int) = 0)) || (decide (24 < (gv.owner.length : Int)))) = true then some (⟨9, -1⟩ : TFault) else if 60 < (gv.arcs.length : Int) then some (⟨2, -1⟩ : TFault) else (Option.bind (rngX 0 (gv.owner.length : Int) (games_Validate_l1 gv) ()) fun | .inl _ => (Option.bind (rngX 0 (gv.arcs.length : Int) (games_Validate_l2 gv) ()) fun | .inl _ => some (⟨0, 0⟩ : TFault) | .inr x => some x) | .inr x => some x)
theorem games_Validate_ok {gv : TGame} {r : TFault} (h : games_Validate gv = some r) : PureOk Try.prog 15 [.agg [row 1 intI gv.owner, row 2 eA2i64 gv.arcs]] (.agg [int r.code, int r.index]) := by
  unfold PureOk
  refine FnOk.enter (rs := [.cell 2 27 2]) Try.func15 rfl Try.ntmps15 Try.results15 rfl ⟨rv _ rfl, trivial⟩ (by kernel_rfl) rfl ?_
  unfold games_Validate at h
  refine AWP.seq ?_
  refine AWP.region ?_
  refine W.box rfl rfl rfl rfl rfl rfl ?_
  refine W.alloc rfl rfl rfl rfl ?_
  refine AOps.nil ?_
  refine thn_normal ?_
  refine AWP.seq ?_
  refine AWP.block ?_
  refine AWP.seqJ (⟨[(1, .c (.ptr 0 0 0)), (2, .c (.ptr 1 0 0)), (7, .c (bool ((decide ((gv.owner.length : Int) = 0)) || (decide (24 < (gv.owner.length : Int))))))], [.one (.cells 2 [[row 1 intI gv.owner, row 2 eA2i64 gv.arcs]]), .one (.cells 2 [[int 0, int 0]])]⟩) ?_ ?_
  · rcases Bool.eq_false_or_eq_true (decide ((gv.owner.length : Int) = 0)) with hb1 | hb1
    · refine AWP.region ?_
      refine W.fieldAddr rfl rfl rfl rfl ?_
      refine AOps.load rfl rfl rfl rfl rfl rfl ?_
      refine S.len rfl rfl (fun hl10 => ?_)
      refine AOps.eql rfl rfl rfl ?_
      refine AOps.move rfl rfl ?_
      refine AOps.guardF rfl rfl rfl hb1 ?_
      refine AOps.guardF rfl rfl rfl hb1 ?_
      refine AOps.guardF rfl rfl rfl hb1 ?_
      refine AOps.guardF rfl rfl rfl hb1 ?_
      refine AOps.pickT rfl hb1 rfl rfl ?_
      refine AOps.assign rfl rfl ?_
      refine AOps.nil ?_
      refine thn_normal ?_
      simp only [and_t hb1, or_t hb1]
      exact Sub.env ⟨rfl, rfl, rfl, trivial⟩
    · refine AWP.region ?_
      refine W.fieldAddr rfl rfl rfl rfl ?_
      refine AOps.load rfl rfl rfl rfl rfl rfl ?_
      refine S.len rfl rfl (fun hl10 => ?_)
      refine AOps.eql rfl rfl rfl ?_
      refine AOps.move rfl rfl ?_
      refine AOps.guardT rfl rfl rfl hb1 ?_; refine W.fieldAddr rfl rfl rfl rfl ?_
      refine AOps.guardT rfl rfl rfl hb1 ?_; refine AOps.load rfl rfl rfl rfl rfl rfl ?_
      refine AOps.guardT rfl rfl rfl hb1 ?_; refine S.len rfl rfl (fun hl15 => ?_)
      refine AOps.guardT rfl rfl rfl hb1 ?_; refine AOps.gtr rfl rfl rfl ?_
      refine AOps.pickF rfl hb1 rfl rfl ?_
      refine AOps.assign rfl rfl ?_
      refine AOps.nil ?_
      refine thn_normal ?_
      simp only [and_f hb1, or_f hb1]
      exact Sub.env ⟨rfl, rfl, rfl, trivial⟩
  · refine AWP.iteB rfl h (fun hc2 h => ?_) (fun hc2 h => ?_)
    · refine AWP.seq ?_
      refine AWP.region ?_
      refine W.build rfl rfl rfl rfl ?_
      refine W.storeAgg rfl rfl rfl rfl rfl rfl rfl ?_
      refine AOps.nil ?_
      refine thn_normal ?_
      refine AWP.ret ?_
      refine inB_ret ?_
      refine thn_ret ?_
      have ej := Option.some.inj h
      subst ej
      exact Done.ret rfl rfl
    · refine AWP.seq ?_
      refine AWP.region ?_
      refine W.fieldAddr rfl rfl rfl rfl ?_
      refine AOps.load rfl rfl rfl rfl rfl rfl ?_
      refine S.len rfl rfl (fun hl22 => ?_)
      refine AOps.gtr rfl rfl rfl ?_
      refine AOps.assign rfl rfl ?_
      refine AOps.nil ?_
      refine thn_normal ?_
      refine AWP.ite rfl h (fun hc3 h => ?_) (fun hc3 h => ?_)
      · refine AWP.seq ?_
        refine AWP.region ?_
        refine W.build rfl rfl rfl rfl ?_
        refine W.storeAgg rfl rfl rfl rfl rfl rfl rfl ?_
        refine AOps.nil ?_
        refine thn_normal ?_
        refine AWP.ret ?_
        refine inB_ret ?_
        refine thn_ret ?_
        have ej := Option.some.inj h
        subst ej
        exact Done.ret rfl rfl
      · refine AWP.skip ?_
        refine inB_normal ?_
        refine thn_normal ?_
        refine AWP.seq ?_
        refine AWP.seq ?_
        refine AWP.region ?_
        refine W.fieldAddr rfl rfl rfl rfl ?_
        refine AOps.load rfl rfl rfl rfl rfl rfl ?_
        refine S.len rfl rfl (fun hl27 => ?_)
        refine AOps.move rfl rfl ?_
        refine AOps.nil ?_
        refine thn_normal ?_
        refine AWP.block ?_
        obtain ⟨oo, ho1, h⟩ := bind_some h
        refine AWP.rngS ho1 (fun t4 _ => ⟨[(1, .c (.ptr 0 0 0)), (2, .c (.ptr 1 0 0)), (26, .c (row 1 intI gv.owner)), (27, .c (int (gv.owner.length : Int))), (28, .c (int t4))], [.one (.cells 2 [[row 1 intI gv.owner, row 2 eA2i64 gv.arcs]]), .one (.cells 2 [[int 0, int 0]])]⟩) (fun o e st => match o with | .inl _ => e = .exit 1 ∧ Sub [] st ⟨[(1, .c (.ptr 0 0 0)), (2, .c (.ptr 1 0 0))], [.one (.cells 2 [[row 1 intI gv.owner, row 2 eA2i64 gv.arcs]]), .one (.cells 2 [[int 0, int 0]])]⟩ | .inr x => e = .ret ∧ Done [.cell 2 27 2] (fun t _ => t = .agg [int x.code, int x.index]) .ret st) ?_ ?_ ?_ ?_
        · try dsimp only
          exact Sub.env ⟨rfl, rfl, rfl, rfl, rfl, trivial⟩
        · intro t4 s hlot4 hltt4 _
          try dsimp only
          refine AWP.seq ?_
          refine AWP.region ?_
          refine AOps.lss rfl rfl rfl ?_
          refine AOps.nil ?_
          refine thn_normal ?_
          refine AWP.seq ?_
          refine AWP.condNP rfl hltt4 ?_
          refine AWP.exit ?_
          refine thn_exit ?_
          refine thn_exit ⟨rfl, ?_⟩
          exact Sub.env ⟨rfl, rfl, trivial⟩
        · intro t4 s o hlot4 hltt4 h
          unfold games_Validate_l1 at h
          try dsimp only at h ⊢
          refine AWP.seq ?_
          refine AWP.region ?_
          refine AOps.lss rfl rfl rfl ?_
          refine AOps.nil ?_
          refine thn_normal ?_
          refine AWP.seq ?_
          refine AWP.condP rfl hltt4 ?_
          refine AWP.skip ?_
          refine thn_normal ?_
          refine AWP.seq ?_
          refine AWP.block ?_
          refine AWP.seq ?_
          obtain ⟨a31, ha31, h⟩ := bind_some h
          refine AWP.region ?_
          refine AOps.move rfl rfl ?_
          refine S.idx ha31 rfl rfl rfl rfl ?_
          refine AOps.loadI rfl rfl rfl rfl ?_
          refine AOps.assign rfl rfl ?_
          refine AOps.assign rfl rfl ?_
          refine AOps.nil ?_
          refine thn_normal ?_
          refine AWP.seqJ (⟨[(1, .c (.ptr 0 0 0)), (2, .c (.ptr 1 0 0)), (3, .c (int t4)), (26, .c (row 1 intI gv.owner)), (27, .c (int (gv.owner.length : Int))), (28, .c (int t4)), (38, .c (bool ((!(decide (a31 = 0))) && (!(decide (a31 = 1))))))], [.one (.cells 2 [[row 1 intI gv.owner, row 2 eA2i64 gv.arcs]]), .one (.cells 2 [[int 0, int 0]])]⟩) ?_ ?_
          · rcases Bool.eq_false_or_eq_true (!(decide (a31 = 0))) with hb1 | hb1
            · refine AWP.region ?_
              refine AOps.move rfl rfl ?_
              refine AOps.neq rfl rfl rfl ?_
              refine AOps.move rfl rfl ?_
              refine AOps.guardT rfl rfl rfl hb1 ?_; refine AOps.move rfl rfl ?_
              refine AOps.guardT rfl rfl rfl hb1 ?_; refine AOps.neq rfl rfl rfl ?_
              refine AOps.pickT rfl hb1 rfl rfl ?_
              refine AOps.nil ?_
              refine thn_normal ?_
              simp only [and_t hb1, or_t hb1]
              exact Sub.env ⟨rfl, rfl, rfl, rfl, rfl, rfl, rfl, trivial⟩
            · refine AWP.region ?_
              refine AOps.move rfl rfl ?_
              refine AOps.neq rfl rfl rfl ?_
              refine AOps.move rfl rfl ?_
              refine AOps.guardF rfl rfl rfl hb1 ?_
              refine AOps.guardF rfl rfl rfl hb1 ?_
              refine AOps.pickF rfl hb1 rfl rfl ?_
              refine AOps.nil ?_
              refine thn_normal ?_
              simp only [and_f hb1, or_f hb1]
              exact Sub.env ⟨rfl, rfl, rfl, rfl, rfl, rfl, rfl, trivial⟩
          · refine AWP.iteB rfl h (fun hc5 h => ?_) (fun hc5 h => ?_)
            · refine AWP.seq ?_
              refine AWP.region ?_
              refine AOps.move rfl rfl ?_
              refine AOps.sub' rfl rfl rfl (by omega) ?_
              refine W.build rfl rfl rfl rfl ?_
              refine W.storeAgg rfl rfl rfl rfl rfl rfl rfl ?_
              refine AOps.nil ?_
              refine thn_normal ?_
              refine AWP.ret ?_
              refine inB_ret ?_
              refine thn_ret ?_
              have ej := Option.some.inj h
              subst ej
              refine thn_ret ⟨_, rfl, rfl, ?_⟩
              exact Done.ret rfl rfl
            · refine AWP.skip ?_
              refine inB_normal ?_
              refine thn_normal ?_
              refine AWP.region ?_
              refine AOps.add rfl rfl rfl (by omega) ?_
              refine AOps.move rfl rfl ?_
              refine AOps.nil ?_
              have ej := Option.some.inj h
              subst ej
              refine thn_normal ⟨_, rfl, ?_⟩
              exact Sub.env ⟨rfl, rfl, rfl, rfl, rfl, trivial⟩
        · intro e s hq
          rcases oo with u | x
          · try dsimp only at h hq
            obtain ⟨rfl, hs⟩ := hq
            refine ⟨_, hs, ?_⟩
            refine inB_exit ?_
            refine thn_normal ?_
            refine AWP.seq ?_
            refine AWP.seq ?_
            refine AWP.region ?_
            refine W.fieldAddr rfl rfl rfl rfl ?_
            refine AOps.load rfl rfl rfl rfl rfl rfl ?_
            refine S.len rfl rfl (fun hl45 => ?_)
            refine AOps.move rfl rfl ?_
            refine AOps.nil ?_
            refine thn_normal ?_
            refine AWP.block ?_
            obtain ⟨oo, ho2, h⟩ := bind_some h
            refine AWP.rngS ho2 (fun t6 _ => ⟨[(1, .c (.ptr 0 0 0)), (2, .c (.ptr 1 0 0)), (44, .c (row 2 eA2i64 gv.arcs)), (45, .c (int (gv.arcs.length : Int))), (46, .c (int t6))], [.one (.cells 2 [[row 1 intI gv.owner, row 2 eA2i64 gv.arcs]]), .one (.cells 2 [[int 0, int 0]])]⟩) (fun o e st => match o with | .inl _ => e = .exit 3 ∧ Sub [] st ⟨[(2, .c (.ptr 1 0 0))], [.one (.cells 2 [[row 1 intI gv.owner, row 2 eA2i64 gv.arcs]]), .one (.cells 2 [[int 0, int 0]])]⟩ | .inr x => e = .ret ∧ Done [.cell 2 27 2] (fun t _ => t = .agg [int x.code, int x.index]) .ret st) ?_ ?_ ?_ ?_
            · try dsimp only
              exact Sub.env ⟨rfl, rfl, rfl, rfl, rfl, trivial⟩
            · intro t6 s hlot6 hltt6 _
              try dsimp only
              refine AWP.seq ?_
              refine AWP.region ?_
              refine AOps.lss rfl rfl rfl ?_
              refine AOps.nil ?_
              refine thn_normal ?_
              refine AWP.seq ?_
              refine AWP.condNP rfl hltt6 ?_
              refine AWP.exit ?_
              refine thn_exit ?_
              refine thn_exit ⟨rfl, ?_⟩
              exact Sub.env ⟨rfl, trivial⟩
            · intro t6 s o hlot6 hltt6 h
              unfold games_Validate_l2 at h
              try dsimp only at h ⊢
              refine AWP.seq ?_
              refine AWP.region ?_
              refine AOps.lss rfl rfl rfl ?_
              refine AOps.nil ?_
              refine thn_normal ?_
              refine AWP.seq ?_
              refine AWP.condP rfl hltt6 ?_
              refine AWP.skip ?_
              refine thn_normal ?_
              refine AWP.seq ?_
              refine AWP.block ?_
              refine AWP.seq ?_
              obtain ⟨a49, ha49, h⟩ := bind_some h
              refine AWP.region ?_
              refine AOps.move rfl rfl ?_
              refine S.idx ha49 rfl rfl rfl rfl ?_
              refine W.loadIAgg rfl rfl rfl rfl rfl ?_
              refine W.alloc rfl rfl rfl rfl ?_
              refine AOps.assign rfl rfl ?_
              refine W.storeAgg rfl rfl rfl rfl rfl rfl rfl ?_
              refine AOps.nil ?_
              refine thn_normal ?_
              refine AWP.block ?_
              refine AWP.seqJ (⟨[(1, .c (.ptr 0 0 0)), (2, .c (.ptr 1 0 0)), (5, .c (int t6)), (6, .c (.ptr 2 0 0)), (44, .c (row 2 eA2i64 gv.arcs)), (45, .c (int (gv.arcs.length : Int))), (46, .c (int t6)), (51, .c (bool ((decide (min a49.1 a49.2 < 0)) || (decide ((gv.owner.length : Int) ≤ max a49.1 a49.2)))))], [.one (.cells 2 [[row 1 intI gv.owner, row 2 eA2i64 gv.arcs]]), .one (.cells 2 [[int 0, int 0]]), .one (.cells 2 [[int a49.1, int a49.2]])]⟩) ?_ ?_
              · rcases Bool.eq_false_or_eq_true (decide (min a49.1 a49.2 < 0)) with hb1 | hb1
                · refine AWP.region ?_
                  refine W.idxArr rfl rfl rfl rfl (Nat.le_of_ble_eq_true rfl) rfl ?_
                  refine AOps.load rfl rfl rfl rfl rfl rfl ?_
                  refine W.idxArr rfl rfl rfl rfl (Nat.le_of_ble_eq_true rfl) rfl ?_
                  refine AOps.load rfl rfl rfl rfl rfl rfl ?_
                  refine AOps.min2 rfl rfl rfl ?_
                  refine AOps.lss rfl rfl rfl ?_
                  refine AOps.move rfl rfl ?_
                  refine AOps.guardF rfl rfl rfl hb1 ?_
                  refine AOps.guardF rfl rfl rfl hb1 ?_
                  refine AOps.guardF rfl rfl rfl hb1 ?_
                  refine AOps.guardF rfl rfl rfl hb1 ?_
                  refine AOps.guardF rfl rfl rfl hb1 ?_
                  refine AOps.guardF rfl rfl rfl hb1 ?_
                  refine AOps.guardF rfl rfl rfl hb1 ?_
                  refine AOps.guardF rfl rfl rfl hb1 ?_
                  refine AOps.guardF rfl rfl rfl hb1 ?_
                  refine AOps.pickT rfl hb1 rfl rfl ?_
                  refine AOps.assign rfl rfl ?_
                  refine AOps.nil ?_
                  refine thn_normal ?_
                  simp only [and_t hb1, or_t hb1]
                  exact Sub.env ⟨rfl, rfl, rfl, rfl, rfl, rfl, rfl, rfl, trivial⟩
                · refine AWP.region ?_
                  refine W.idxArr rfl rfl rfl rfl (Nat.le_of_ble_eq_true rfl) rfl ?_
                  refine AOps.load rfl rfl rfl rfl rfl rfl ?_
                  refine W.idxArr rfl rfl rfl rfl (Nat.le_of_ble_eq_true rfl) rfl ?_
                  refine AOps.load rfl rfl rfl rfl rfl rfl ?_
                  refine AOps.min2 rfl rfl rfl ?_
                  refine AOps.lss rfl rfl rfl ?_
                  refine AOps.move rfl rfl ?_
                  refine AOps.guardT rfl rfl rfl hb1 ?_; refine W.idxArr rfl rfl rfl rfl (Nat.le_of_ble_eq_true rfl) rfl ?_
                  refine AOps.guardT rfl rfl rfl hb1 ?_; refine AOps.load rfl rfl rfl rfl rfl rfl ?_
                  refine AOps.guardT rfl rfl rfl hb1 ?_; refine W.idxArr rfl rfl rfl rfl (Nat.le_of_ble_eq_true rfl) rfl ?_
                  refine AOps.guardT rfl rfl rfl hb1 ?_; refine AOps.load rfl rfl rfl rfl rfl rfl ?_
                  refine AOps.guardT rfl rfl rfl hb1 ?_; refine AOps.max2 rfl rfl rfl ?_
                  refine AOps.guardT rfl rfl rfl hb1 ?_; refine W.fieldAddr rfl rfl rfl rfl ?_
                  refine AOps.guardT rfl rfl rfl hb1 ?_; refine AOps.load rfl rfl rfl rfl rfl rfl ?_
                  refine AOps.guardT rfl rfl rfl hb1 ?_; refine S.len rfl rfl (fun hl66 => ?_)
                  refine AOps.guardT rfl rfl rfl hb1 ?_; refine AOps.geq rfl rfl rfl ?_
                  refine AOps.pickF rfl hb1 rfl rfl ?_
                  refine AOps.assign rfl rfl ?_
                  refine AOps.nil ?_
                  refine thn_normal ?_
                  simp only [and_f hb1, or_f hb1]
                  exact Sub.env ⟨rfl, rfl, rfl, rfl, rfl, rfl, rfl, rfl, trivial⟩
              · refine AWP.iteB rfl h (fun hc7 h => ?_) (fun hc7 h => ?_)
                · refine AWP.seq ?_
                  refine AWP.region ?_
                  refine AOps.move rfl rfl ?_
                  refine W.build rfl rfl rfl rfl ?_
                  refine W.storeAgg rfl rfl rfl rfl rfl rfl rfl ?_
                  refine AOps.nil ?_
                  refine thn_normal ?_
                  refine AWP.ret ?_
                  refine inB_ret ?_
                  refine inB_ret ?_
                  refine thn_ret ?_
                  have ej := Option.some.inj h
                  subst ej
                  refine thn_ret ⟨_, rfl, rfl, ?_⟩
                  exact Done.ret rfl rfl
                · obtain ⟨t8, hx9, h⟩ := bind_some h
                  refine AWP.seqJ (⟨[(1, .c (.ptr 0 0 0)), (2, .c (.ptr 1 0 0)), (5, .c (int t6)), (44, .c (row 2 eA2i64 gv.arcs)), (45, .c (int (gv.arcs.length : Int))), (46, .c (int t6)), (71, .c (bool t8))], [.one (.cells 2 [[row 1 intI gv.owner, row 2 eA2i64 gv.arcs]]), .one (.cells 2 [[int 0, int 0]])]⟩) ?_ ?_
                  · refine AWP.frzB (e := [.val (.int .i64 a49.1), .val (.int .i64 a49.2)]) (env2 := [(1, .c (.ptr 0 0 0)), (2, .c (.ptr 1 0 0)), (5, .c (int t6)), (6, .c (.imm (.ipt [.val (.int .i64 a49.1), .val (.int .i64 a49.2)]))), (44, .c (row 2 eA2i64 gv.arcs)), (45, .c (int (gv.arcs.length : Int))), (46, .c (int t6))]) (σ2 := [.one (.cells 2 [[row 1 intI gv.owner, row 2 eA2i64 gv.arcs]]), .one (.cells 2 [[int 0, int 0]]), .dead]) rfl rfl ⟨⟨_, rfl, .inl ⟨rfl, rfl⟩⟩, ⟨_, rfl, .inl ⟨rfl, rfl⟩⟩, ⟨_, rfl, .inl ⟨rfl, rfl⟩⟩, ⟨_, rfl, .inr ⟨_, _, rfl, rfl, rfl⟩⟩, ⟨_, rfl, .inl ⟨rfl, rfl⟩⟩, ⟨_, rfl, .inl ⟨rfl, rfl⟩⟩, ⟨_, rfl, .inl ⟨rfl, rfl⟩⟩, trivial⟩ rfl ⟨⟨rfl, .inl ⟨rfl, rfl⟩, .inl ⟨rfl, rfl⟩, trivial⟩, ⟨rfl, .inl ⟨rfl, rfl⟩, .inl ⟨rfl, rfl⟩, trivial⟩, trivial, trivial⟩ ?_
                    rcases Bool.eq_false_or_eq_true (decide (0 < t6)) with hb10 | hb10
                    · replace hx9 := iteDT hb10 hx9
                      obtain ⟨a79, ha79, hx9⟩ := bind_some hx9
                      obtain ⟨a82, ha82, hx9⟩ := bind_some hx9
                      refine AWP.drawI mixed rfl ?_
                      apply DrawSeq.consF; exact rfl; intro E
                      refine AOps.move rfl rfl ?_
                      exact AOps.nil ⟨rfl, rfl⟩
                      exact rfl
                      apply DrawSeq.consF; exact rfl; intro E
                      refine AOps.gtr rfl rfl rfl ?_
                      exact AOps.nil ⟨rfl, rfl⟩
                      exact rfl
                      apply DrawSeq.consF; exact rfl; intro E
                      refine AOps.move rfl rfl ?_
                      exact AOps.nil ⟨rfl, rfl⟩
                      exact rfl
                      apply DrawSeq.consF; exact rfl; intro E
                      refine AOps.guardT rfl rfl rfl hb10 ?_; refine W.fieldAddr rfl rfl rfl rfl ?_
                      exact AOps.nil ⟨rfl, rfl⟩
                      exact rfl
                      apply DrawSeq.consF; exact rfl; intro E
                      refine AOps.guardT rfl rfl rfl hb10 ?_; refine AOps.load rfl rfl rfl rfl rfl rfl ?_
                      exact AOps.nil ⟨rfl, rfl⟩
                      exact rfl
                      apply DrawSeq.consF; exact rfl; intro E
                      refine AOps.guardT rfl rfl rfl hb10 ?_; refine AOps.move rfl rfl ?_
                      exact AOps.nil ⟨rfl, rfl⟩
                      exact rfl
                      apply DrawSeq.consF; exact rfl; intro E
                      refine AOps.guardT rfl rfl rfl hb10 ?_; refine AOps.sub' rfl rfl rfl (by omega) ?_
                      exact AOps.nil ⟨rfl, rfl⟩
                      exact rfl
                      apply DrawSeq.consF; exact rfl; intro E
                      refine AOps.guardT rfl rfl rfl hb10 ?_; refine S.idx ha79 rfl rfl rfl rfl ?_
                      exact AOps.nil ⟨rfl, rfl⟩
                      exact rfl
                      apply DrawSeq.consF; exact rfl; intro E
                      refine AOps.guardT rfl rfl rfl hb10 ?_; refine AOps.sliceArrI rfl (Nat.le_of_ble_eq_true rfl) rfl rfl ?_
                      exact AOps.nil ⟨rfl, rfl⟩
                      exact rfl
                      apply DrawSeq.consF; exact rfl; intro E
                      refine AOps.guardT rfl rfl rfl hb10 ?_; refine AOps.sliceArrI rfl (Nat.le_of_ble_eq_true rfl) rfl rfl ?_
                      exact AOps.nil ⟨rfl, rfl⟩
                      exact rfl
                      apply DrawSeq.consF; exact rfl; intro E
                      refine AOps.guardT rfl rfl rfl hb10 ?_; refine AOps.callR rfl rfl rfl rfl (slices_Compare_int_int_ok ha82) rfl ?_
                      exact AOps.nil ⟨rfl, rfl⟩
                      exact rfl
                      apply DrawSeq.consF; exact rfl; intro E
                      refine AOps.guardT rfl rfl rfl hb10 ?_; refine AOps.geq rfl rfl rfl ?_
                      exact AOps.nil ⟨rfl, rfl⟩
                      exact rfl
                      apply DrawSeq.consF; exact rfl; intro E
                      refine AOps.pickT rfl hb10 rfl rfl ?_
                      exact AOps.nil ⟨rfl, rfl⟩
                      exact rfl
                      apply DrawSeq.consF; exact rfl; intro E
                      refine AOps.assign rfl rfl ?_
                      exact AOps.nil ⟨rfl, rfl⟩
                      exact rfl
                      refine DrawSeq.done ?_
                      dsimp only [envEnd]
                      have ej := Option.some.inj hx9
                      subst ej
                      refine thn_normal ?_
                      exact Sub.cut ⟨rfl, rfl, rfl, rfl, rfl, rfl, rfl, trivial⟩ rfl ⟨.one rfl, .one rfl, trivial⟩ rfl
                    · replace hx9 := iteDF hb10 hx9
                      refine AWP.drawI mixed rfl ?_
                      apply DrawSeq.consF; exact rfl; intro E
                      refine AOps.move rfl rfl ?_
                      exact AOps.nil ⟨rfl, rfl⟩
                      exact rfl
                      apply DrawSeq.consF; exact rfl; intro E
                      refine AOps.gtr rfl rfl rfl ?_
                      exact AOps.nil ⟨rfl, rfl⟩
                      exact rfl
                      apply DrawSeq.consF; exact rfl; intro E
                      refine AOps.move rfl rfl ?_
                      exact AOps.nil ⟨rfl, rfl⟩
                      exact rfl
                      apply DrawSeq.consF; exact rfl; intro E
                      refine AOps.guardF rfl rfl rfl hb10 ?_
                      exact AOps.nil ⟨rfl, rfl⟩
                      exact rfl
                      apply DrawSeq.consF; exact rfl; intro E
                      refine AOps.guardF rfl rfl rfl hb10 ?_
                      exact AOps.nil ⟨rfl, rfl⟩
                      exact rfl
                      apply DrawSeq.consF; exact rfl; intro E
                      refine AOps.guardF rfl rfl rfl hb10 ?_
                      exact AOps.nil ⟨rfl, rfl⟩
                      exact rfl
                      apply DrawSeq.consF; exact rfl; intro E
                      refine AOps.guardF rfl rfl rfl hb10 ?_
                      exact AOps.nil ⟨rfl, rfl⟩
                      exact rfl
                      apply DrawSeq.consF; exact rfl; intro E
                      refine AOps.guardF rfl rfl rfl hb10 ?_
                      exact AOps.nil ⟨rfl, rfl⟩
                      exact rfl
                      apply DrawSeq.consF; exact rfl; intro E
                      refine AOps.guardF rfl rfl rfl hb10 ?_
                      exact AOps.nil ⟨rfl, rfl⟩
                      exact rfl
                      apply DrawSeq.consF; exact rfl; intro E
                      refine AOps.guardF rfl rfl rfl hb10 ?_
                      exact AOps.nil ⟨rfl, rfl⟩
                      exact rfl
                      apply DrawSeq.consF; exact rfl; intro E
                      refine AOps.guardF rfl rfl rfl hb10 ?_
                      exact AOps.nil ⟨rfl, rfl⟩
                      exact rfl
                      apply DrawSeq.consF; exact rfl; intro E
                      refine AOps.guardF rfl rfl rfl hb10 ?_
                      exact AOps.nil ⟨rfl, rfl⟩
                      exact rfl
                      apply DrawSeq.consF; exact rfl; intro E
                      refine AOps.pickF rfl hb10 rfl rfl ?_
                      exact AOps.nil ⟨rfl, rfl⟩
                      exact rfl
                      apply DrawSeq.consF; exact rfl; intro E
                      refine AOps.assign rfl rfl ?_
                      exact AOps.nil ⟨rfl, rfl⟩
                      exact rfl
                      refine DrawSeq.done ?_
                      dsimp only [envEnd]
                      have ej := Option.some.inj hx9
                      subst ej
                      refine thn_normal ?_
                      exact Sub.cut ⟨rfl, rfl, rfl, rfl, rfl, rfl, rfl, trivial⟩ rfl ⟨.one rfl, .one rfl, trivial⟩ rfl
                  · refine AWP.iteB rfl h (fun hc11 h => ?_) (fun hc11 h => ?_)
                    · refine AWP.seq ?_
                      refine AWP.region ?_
                      refine AOps.move rfl rfl ?_
                      refine W.build rfl rfl rfl rfl ?_
                      refine W.storeAgg rfl rfl rfl rfl rfl rfl rfl ?_
                      refine AOps.nil ?_
                      refine thn_normal ?_
                      refine AWP.ret ?_
                      refine inB_ret ?_
                      refine inB_ret ?_
                      refine thn_ret ?_
                      have ej := Option.some.inj h
                      subst ej
                      refine thn_ret ⟨_, rfl, rfl, ?_⟩
                      exact Done.ret rfl rfl
                    · refine AWP.skip ?_
                      refine inB_normal ?_
                      refine inB_normal ?_
                      refine thn_normal ?_
                      refine AWP.region ?_
                      refine AOps.add rfl rfl rfl (by omega) ?_
                      refine AOps.move rfl rfl ?_
                      refine AOps.nil ?_
                      have ej := Option.some.inj h
                      subst ej
                      refine thn_normal ⟨_, rfl, ?_⟩
                      exact Sub.env ⟨rfl, rfl, rfl, rfl, rfl, trivial⟩
            · intro e s hq
              rcases oo with u | x
              · try dsimp only at h hq
                obtain ⟨rfl, hs⟩ := hq
                refine ⟨_, hs, ?_⟩
                refine inB_exit ?_
                refine thn_normal ?_
                refine AWP.seq ?_
                refine AWP.region ?_
                refine W.build rfl rfl rfl rfl ?_
                refine W.storeAgg rfl rfl rfl rfl rfl rfl rfl ?_
                refine AOps.nil ?_
                refine thn_normal ?_
                refine AWP.ret ?_
                have ej := Option.some.inj h
                subst ej
                exact Done.ret rfl rfl
              · try dsimp only at h hq
                obtain ⟨rfl, hs⟩ := hq
                refine ⟨_, Sub.refl _ _, ?_⟩
                refine inB_ret ?_
                refine thn_ret ?_
                have ej := Option.some.inj h
                subst ej
                exact hs
          · try dsimp only at h hq
            obtain ⟨rfl, hs⟩ := hq
            refine ⟨_, Sub.refl _ _, ?_⟩
            refine inB_ret ?_
            refine thn_ret ?_
            have ej := Option.some.inj h
            subst ej
            exact hs

def games_check_l1 (gv : TGame) (positions : List Int) : Int → Unit → Option (Unit ⊕ TFault) := fun t6 _ => Option.bind (ix positions t6) fun a28 => if ((decide (a28 < 0)) || (decide ((gv.owner.length : Int) ≤ a28))) = true then some (.inr (⟨3, -31⟩ : TFault)) else Option.bind (if 0 < t6 then Option.bind (ix positions (t6 - 1)) fun a49 => some (decide (a28 ≤ a49)) else some false) fun t8 => if t8 = true then some (.inr (⟨5, -31⟩ : TFault)) else some (.inl ())
def games_check (gv : TGame) (player : Int) (positions : List Int) : Option TFault := Option.bind (games_Validate gv) fun a11 => if (!((decide (a11.code = 0)) && (decide (a11.index = 0)))) = true then some a11 else if ((!(decide (player = 0))) && (!(decide (player = 1)))) = true then some (⟨3, -30⟩ : TFault) else (Option.bind (rngX 0 (positions.length : Int) (games_check_l1 gv positions) ()) fun | .inl _ => some (⟨0, 0⟩ : TFault) | .inr x => some x)
theorem games_check_ok {gv : TGame} {player : Int} {positions : List Int} {r : TFault} (h : games_check gv player positions = some r) : PureOk Try.prog 24 [.agg [row 1 intI gv.owner, row 2 eA2i64 gv.arcs], .c (int player), .c (row 1 intI positions)] (.agg [int r.code, int r.index]) := by
  unfold PureOk
  refine FnOk.enter (rs := [.cell 6 27 2]) Try.func24 rfl Try.ntmps24 Try.results24 rfl ⟨rv _ rfl, trivial⟩ (by kernel_rfl) rfl ?_
  unfold games_check at h
  refine AWP.seq ?_
  refine AWP.region ?_
  refine W.box rfl rfl rfl rfl rfl rfl ?_
  refine W.alloc rfl rfl rfl rfl ?_
  refine AOps.nil ?_
  refine thn_normal ?_
  refine AWP.seq ?_
  refine AWP.seq ?_
  obtain ⟨a11, ha11, h⟩ := bind_some h
  refine AWP.region ?_
  refine W.loadAgg rfl rfl rfl rfl rfl rfl rfl ?_
  refine AOps.callR rfl rfl rfl rfl (games_Validate_ok ha11) rfl ?_
  refine W.alloc rfl rfl rfl rfl ?_
  refine W.storeAgg rfl rfl rfl rfl rfl rfl rfl ?_
  refine AOps.nil ?_
  refine thn_normal ?_
  refine AWP.seq ?_
  refine AWP.region ?_
  refine W.loadAgg rfl rfl rfl rfl rfl rfl rfl ?_
  refine W.build rfl rfl rfl rfl ?_
  refine AOps.neqP rfl rfl rfl rfl rfl rfl rfl ?_
  refine AOps.nil ?_
  refine thn_normal ?_
  refine AWP.iteB rfl h (fun hc4 h => ?_) (fun hc4 h => ?_)
  · refine AWP.seq ?_
    refine AWP.region ?_
    refine W.loadAgg rfl rfl rfl rfl rfl rfl rfl ?_
    refine W.storeAgg rfl rfl rfl rfl rfl rfl rfl ?_
    refine AOps.nil ?_
    refine thn_normal ?_
    refine AWP.ret ?_
    refine thn_ret ?_
    have ej := Option.some.inj h
    subst ej
    exact Done.ret rfl rfl
  · refine AWP.skip ?_
    refine thn_normal ?_
    refine AWP.seq ?_
    refine AWP.seqJ (⟨[(2, .c (row 1 intI positions)), (3, .c (.ptr 0 0 0)), (6, .c (.ptr 1 0 0)), (21, .c (bool ((!(decide (player = 0))) && (!(decide (player = 1))))))], [.one (.cells 2 [[row 1 intI gv.owner, row 2 eA2i64 gv.arcs]]), .one (.cells 2 [[int 0, int 0]]), .one (.cells 2 [[int a11.code, int a11.index]])]⟩) ?_ ?_
    · rcases Bool.eq_false_or_eq_true (!(decide (player = 0))) with hb1 | hb1
      · refine AWP.region ?_
        refine AOps.move rfl rfl ?_
        refine AOps.neq rfl rfl rfl ?_
        refine AOps.move rfl rfl ?_
        refine AOps.guardT rfl rfl rfl hb1 ?_; refine AOps.move rfl rfl ?_
        refine AOps.guardT rfl rfl rfl hb1 ?_; refine AOps.neq rfl rfl rfl ?_
        refine AOps.pickT rfl hb1 rfl rfl ?_
        refine AOps.nil ?_
        refine thn_normal ?_
        simp only [and_t hb1, or_t hb1]
        exact Sub.env ⟨rfl, rfl, rfl, rfl, trivial⟩
      · refine AWP.region ?_
        refine AOps.move rfl rfl ?_
        refine AOps.neq rfl rfl rfl ?_
        refine AOps.move rfl rfl ?_
        refine AOps.guardF rfl rfl rfl hb1 ?_
        refine AOps.guardF rfl rfl rfl hb1 ?_
        refine AOps.pickF rfl hb1 rfl rfl ?_
        refine AOps.nil ?_
        refine thn_normal ?_
        simp only [and_f hb1, or_f hb1]
        exact Sub.env ⟨rfl, rfl, rfl, rfl, trivial⟩
    · refine AWP.iteB rfl h (fun hc5 h => ?_) (fun hc5 h => ?_)
      · refine AWP.seq ?_
        refine AWP.region ?_
        refine W.build rfl rfl rfl rfl ?_
        refine W.storeAgg rfl rfl rfl rfl rfl rfl rfl ?_
        refine AOps.nil ?_
        refine thn_normal ?_
        refine AWP.ret ?_
        refine thn_ret ?_
        have ej := Option.some.inj h
        subst ej
        exact Done.ret rfl rfl
      · refine AWP.skip ?_
        refine thn_normal ?_
        refine AWP.seq ?_
        refine AWP.seq ?_
        refine AWP.region ?_
        refine AOps.move rfl rfl ?_
        refine S.len rfl rfl (fun hl24 => ?_)
        refine AOps.move rfl rfl ?_
        refine AOps.nil ?_
        refine thn_normal ?_
        refine AWP.block ?_
        obtain ⟨oo, ho1, h⟩ := bind_some h
        refine AWP.rngS ho1 (fun t6 _ => ⟨[(2, .c (row 1 intI positions)), (3, .c (.ptr 0 0 0)), (6, .c (.ptr 1 0 0)), (23, .c (row 1 intI positions)), (24, .c (int (positions.length : Int))), (25, .c (int t6))], [.one (.cells 2 [[row 1 intI gv.owner, row 2 eA2i64 gv.arcs]]), .one (.cells 2 [[int 0, int 0]])]⟩) (fun o e st => match o with | .inl _ => e = .exit 0 ∧ Sub [] st ⟨[(6, .c (.ptr 1 0 0))], [.one (.cells 2 [[row 1 intI gv.owner, row 2 eA2i64 gv.arcs]]), .one (.cells 2 [[int 0, int 0]])]⟩ | .inr x => e = .ret ∧ Done [.cell 6 27 2] (fun t _ => t = .agg [int x.code, int x.index]) .ret st) ?_ ?_ ?_ ?_
        · try dsimp only
          exact Sub.cut ⟨rfl, rfl, rfl, rfl, rfl, rfl, trivial⟩ rfl ⟨.one rfl, .one rfl, trivial⟩ rfl
        · intro t6 s hlot6 hltt6 _
          try dsimp only
          refine AWP.seq ?_
          refine AWP.region ?_
          refine AOps.lss rfl rfl rfl ?_
          refine AOps.nil ?_
          refine thn_normal ?_
          refine AWP.seq ?_
          refine AWP.condNP rfl hltt6 ?_
          refine AWP.exit ?_
          refine thn_exit ?_
          refine thn_exit ⟨rfl, ?_⟩
          exact Sub.env ⟨rfl, trivial⟩
        · intro t6 s o hlot6 hltt6 h
          unfold games_check_l1 at h
          try dsimp only at h ⊢
          refine AWP.seq ?_
          refine AWP.region ?_
          refine AOps.lss rfl rfl rfl ?_
          refine AOps.nil ?_
          refine thn_normal ?_
          refine AWP.seq ?_
          refine AWP.condP rfl hltt6 ?_
          refine AWP.skip ?_
          refine thn_normal ?_
          refine AWP.seq ?_
          refine AWP.block ?_
          refine AWP.seq ?_
          obtain ⟨a28, ha28, h⟩ := bind_some h
          refine AWP.region ?_
          refine AOps.move rfl rfl ?_
          refine S.idx ha28 rfl rfl rfl rfl ?_
          refine AOps.loadI rfl rfl rfl rfl ?_
          refine AOps.assign rfl rfl ?_
          refine AOps.assign rfl rfl ?_
          refine AOps.nil ?_
          refine thn_normal ?_
          refine AWP.block ?_
          refine AWP.seqJ (⟨[(2, .c (row 1 intI positions)), (3, .c (.ptr 0 0 0)), (6, .c (.ptr 1 0 0)), (8, .c (int t6)), (9, .c (int a28)), (23, .c (row 1 intI positions)), (24, .c (int (positions.length : Int))), (25, .c (int t6)), (30, .c (bool ((decide (a28 < 0)) || (decide ((gv.owner.length : Int) ≤ a28)))))], [.one (.cells 2 [[row 1 intI gv.owner, row 2 eA2i64 gv.arcs]]), .one (.cells 2 [[int 0, int 0]])]⟩) ?_ ?_
          · rcases Bool.eq_false_or_eq_true (decide (a28 < 0)) with hb1 | hb1
            · refine AWP.region ?_
              refine AOps.move rfl rfl ?_
              refine AOps.lss rfl rfl rfl ?_
              refine AOps.move rfl rfl ?_
              refine AOps.guardF rfl rfl rfl hb1 ?_
              refine AOps.guardF rfl rfl rfl hb1 ?_
              refine AOps.guardF rfl rfl rfl hb1 ?_
              refine AOps.guardF rfl rfl rfl hb1 ?_
              refine AOps.guardF rfl rfl rfl hb1 ?_
              refine AOps.pickT rfl hb1 rfl rfl ?_
              refine AOps.assign rfl rfl ?_
              refine AOps.nil ?_
              refine thn_normal ?_
              simp only [and_t hb1, or_t hb1]
              exact Sub.env ⟨rfl, rfl, rfl, rfl, rfl, rfl, rfl, rfl, rfl, trivial⟩
            · refine AWP.region ?_
              refine AOps.move rfl rfl ?_
              refine AOps.lss rfl rfl rfl ?_
              refine AOps.move rfl rfl ?_
              refine AOps.guardT rfl rfl rfl hb1 ?_; refine AOps.move rfl rfl ?_
              refine AOps.guardT rfl rfl rfl hb1 ?_; refine W.fieldAddr rfl rfl rfl rfl ?_
              refine AOps.guardT rfl rfl rfl hb1 ?_; refine AOps.load rfl rfl rfl rfl rfl rfl ?_
              refine AOps.guardT rfl rfl rfl hb1 ?_; refine S.len rfl rfl (fun hl37 => ?_)
              refine AOps.guardT rfl rfl rfl hb1 ?_; refine AOps.geq rfl rfl rfl ?_
              refine AOps.pickF rfl hb1 rfl rfl ?_
              refine AOps.assign rfl rfl ?_
              refine AOps.nil ?_
              refine thn_normal ?_
              simp only [and_f hb1, or_f hb1]
              exact Sub.env ⟨rfl, rfl, rfl, rfl, rfl, rfl, rfl, rfl, rfl, trivial⟩
          · refine AWP.iteB rfl h (fun hc7 h => ?_) (fun hc7 h => ?_)
            · refine AWP.seq ?_
              refine AWP.region ?_
              refine W.build rfl rfl rfl rfl ?_
              refine W.storeAgg rfl rfl rfl rfl rfl rfl rfl ?_
              refine AOps.nil ?_
              refine thn_normal ?_
              refine AWP.ret ?_
              refine inB_ret ?_
              refine inB_ret ?_
              refine thn_ret ?_
              have ej := Option.some.inj h
              subst ej
              refine thn_ret ⟨_, rfl, rfl, ?_⟩
              exact Done.ret rfl rfl
            · obtain ⟨t8, hx9, h⟩ := bind_some h
              refine AWP.seqJ (⟨[(2, .c (row 1 intI positions)), (3, .c (.ptr 0 0 0)), (6, .c (.ptr 1 0 0)), (23, .c (row 1 intI positions)), (24, .c (int (positions.length : Int))), (25, .c (int t6)), (41, .c (bool t8))], [.one (.cells 2 [[row 1 intI gv.owner, row 2 eA2i64 gv.arcs]]), .one (.cells 2 [[int 0, int 0]])]⟩) ?_ ?_
              · rcases Bool.eq_false_or_eq_true (decide (0 < t6)) with hb10 | hb10
                · replace hx9 := iteDT hb10 hx9
                  obtain ⟨a49, ha49, hx9⟩ := bind_some hx9
                  refine AWP.region ?_
                  refine AOps.move rfl rfl ?_
                  refine AOps.gtr rfl rfl rfl ?_
                  refine AOps.move rfl rfl ?_
                  refine AOps.guardT rfl rfl rfl hb10 ?_; refine AOps.move rfl rfl ?_
                  refine AOps.guardT rfl rfl rfl hb10 ?_; refine AOps.move rfl rfl ?_
                  refine AOps.guardT rfl rfl rfl hb10 ?_; refine AOps.move rfl rfl ?_
                  refine AOps.guardT rfl rfl rfl hb10 ?_; refine AOps.sub' rfl rfl rfl (by omega) ?_
                  refine AOps.guardT rfl rfl rfl hb10 ?_; refine S.idx ha49 rfl rfl rfl rfl ?_
                  refine AOps.guardT rfl rfl rfl hb10 ?_; refine AOps.loadI rfl rfl rfl rfl ?_
                  refine AOps.guardT rfl rfl rfl hb10 ?_; refine AOps.leq rfl rfl rfl ?_
                  refine AOps.pickT rfl hb10 rfl rfl ?_
                  refine AOps.assign rfl rfl ?_
                  refine AOps.nil ?_
                  have ej := Option.some.inj hx9
                  subst ej
                  refine thn_normal ?_
                  exact Sub.env ⟨rfl, rfl, rfl, rfl, rfl, rfl, rfl, trivial⟩
                · replace hx9 := iteDF hb10 hx9
                  refine AWP.region ?_
                  refine AOps.move rfl rfl ?_
                  refine AOps.gtr rfl rfl rfl ?_
                  refine AOps.move rfl rfl ?_
                  refine AOps.guardF rfl rfl rfl hb10 ?_
                  refine AOps.guardF rfl rfl rfl hb10 ?_
                  refine AOps.guardF rfl rfl rfl hb10 ?_
                  refine AOps.guardF rfl rfl rfl hb10 ?_
                  refine AOps.guardF rfl rfl rfl hb10 ?_
                  refine AOps.guardF rfl rfl rfl hb10 ?_
                  refine AOps.guardF rfl rfl rfl hb10 ?_
                  refine AOps.pickF rfl hb10 rfl rfl ?_
                  refine AOps.assign rfl rfl ?_
                  refine AOps.nil ?_
                  have ej := Option.some.inj hx9
                  subst ej
                  refine thn_normal ?_
                  exact Sub.env ⟨rfl, rfl, rfl, rfl, rfl, rfl, rfl, trivial⟩
              · refine AWP.iteB rfl h (fun hc11 h => ?_) (fun hc11 h => ?_)
                · refine AWP.seq ?_
                  refine AWP.region ?_
                  refine W.build rfl rfl rfl rfl ?_
                  refine W.storeAgg rfl rfl rfl rfl rfl rfl rfl ?_
                  refine AOps.nil ?_
                  refine thn_normal ?_
                  refine AWP.ret ?_
                  refine inB_ret ?_
                  refine inB_ret ?_
                  refine thn_ret ?_
                  have ej := Option.some.inj h
                  subst ej
                  refine thn_ret ⟨_, rfl, rfl, ?_⟩
                  exact Done.ret rfl rfl
                · refine AWP.skip ?_
                  refine inB_normal ?_
                  refine inB_normal ?_
                  refine thn_normal ?_
                  refine AWP.region ?_
                  refine AOps.add rfl rfl rfl (by omega) ?_
                  refine AOps.move rfl rfl ?_
                  refine AOps.nil ?_
                  have ej := Option.some.inj h
                  subst ej
                  refine thn_normal ⟨_, rfl, ?_⟩
                  exact Sub.env ⟨rfl, rfl, rfl, rfl, rfl, rfl, trivial⟩
        · intro e s hq
          rcases oo with u | x
          · try dsimp only at h hq
            obtain ⟨rfl, hs⟩ := hq
            refine ⟨_, hs, ?_⟩
            refine inB_exit ?_
            refine thn_normal ?_
            refine AWP.seq ?_
            refine AWP.region ?_
            refine W.build rfl rfl rfl rfl ?_
            refine W.storeAgg rfl rfl rfl rfl rfl rfl rfl ?_
            refine AOps.nil ?_
            refine thn_normal ?_
            refine AWP.ret ?_
            have ej := Option.some.inj h
            subst ej
            exact Done.ret rfl rfl
          · try dsimp only at h hq
            obtain ⟨rfl, hs⟩ := hq
            refine ⟨_, Sub.refl _ _, ?_⟩
            refine inB_ret ?_
            refine thn_ret ?_
            have ej := Option.some.inj h
            subst ej
            exact hs

def games_moves_l1 (gv : TGame) : Int → (List (List Int)) → Option (List (List Int)) := fun t3 c2 => Option.bind (ix gv.arcs t3) fun a15 => Option.bind (ix c2 a15.1) fun a23 => Option.bind (app 8 a23 [a15.2]) fun a28 => Option.bind (ix c2 a15.1) fun a29 => some (c2.set a15.1.toNat a28)
def games_moves (gv : TGame) : Option (List (List Int)) := Option.bind (mkL 24 (gv.owner.length : Int) ([] : List Int)) fun a9 => (Option.bind (forR 0 (gv.arcs.length : Int) (games_moves_l1 gv) a9) fun c2 => some c2)
theorem games_moves_ok {gv : TGame} {r : (List (List Int))} (h : games_moves gv = some r) : FreshOk Try.prog 27 [.agg [row 1 intI gv.owner, row 2 eA2i64 gv.arcs]] 1 (List.map eLi64 r) := by
  unfold FreshOk
  refine FnOk.enter (rs := [.t 2]) Try.func27 rfl Try.ntmps27 Try.results27 rfl ⟨trivial, trivial⟩ (by kernel_rfl) rfl ?_
  unfold games_moves at h
  refine AWP.seq ?_
  refine AWP.region ?_
  refine W.box rfl rfl rfl rfl rfl rfl ?_
  refine AOps.assign rfl rfl ?_
  refine AOps.nil ?_
  refine thn_normal ?_
  refine AWP.seq ?_
  obtain ⟨a9, ha9, h⟩ := bind_some h
  refine AWP.region ?_
  refine W.fieldAddr rfl rfl rfl rfl ?_
  refine AOps.load rfl rfl rfl rfl rfl rfl ?_
  refine S.len rfl rfl (fun hl8 => ?_)
  refine S.makeM 1 intI ha9 rfl rfl rfl rfl rfl ?_
  refine AOps.assign rfl rfl ?_
  refine AOps.nil ?_
  refine thn_normal ?_
  refine AWP.seq ?_
  refine AWP.seq ?_
  refine AWP.region ?_
  refine W.fieldAddr rfl rfl rfl rfl ?_
  refine AOps.load rfl rfl rfl rfl rfl rfl ?_
  refine S.len rfl rfl (fun hl12 => ?_)
  refine AOps.move rfl rfl ?_
  refine AOps.nil ?_
  refine thn_normal ?_
  refine AWP.block ?_
  obtain ⟨c2, ho1, h⟩ := bind_some h
  refine AWP.forS ho1 (fun t3 c2 => ⟨[(3, .c (.own 1 0 c2.length)), (11, .c (row 2 eA2i64 gv.arcs)), (12, .c (int (gv.arcs.length : Int))), (13, .c (int t3))], [.dead, mat (1, []) 1 intI c2]⟩) (fun c2 e st => e = .exit 0 ∧ Sub [] st ⟨[(3, .c (.own 1 0 c2.length))], [.dead, mat (1, []) 1 intI c2]⟩) ?_ ?_ ?_ ?_
  · try dsimp only
    exact Sub.cut ⟨rfl, rfl, rfl, rfl, trivial⟩ rfl ⟨.dead, .mat rfl, trivial⟩ rfl
  · intro t3 c2 hlot3 hltt3 _
    try dsimp only
    refine AWP.seq ?_
    refine AWP.region ?_
    refine AOps.lss rfl rfl rfl ?_
    refine AOps.nil ?_
    refine thn_normal ?_
    refine AWP.seq ?_
    refine AWP.condNP rfl hltt3 ?_
    refine AWP.exit ?_
    refine thn_exit ?_
    refine thn_exit ⟨rfl, ?_⟩
    exact Sub.env ⟨rfl, trivial⟩
  · intro t3 c2 o hlot3 hltt3 h
    unfold games_moves_l1 at h
    try dsimp only at h ⊢
    refine AWP.seq ?_
    refine AWP.region ?_
    refine AOps.lss rfl rfl rfl ?_
    refine AOps.nil ?_
    refine thn_normal ?_
    refine AWP.seq ?_
    refine AWP.condP rfl hltt3 ?_
    refine AWP.skip ?_
    refine thn_normal ?_
    refine AWP.seq ?_
    refine AWP.block ?_
    refine AWP.seq ?_
    obtain ⟨a15, ha15, h⟩ := bind_some h
    refine AWP.region ?_
    refine S.idx ha15 rfl rfl rfl rfl ?_
    refine W.loadIAgg rfl rfl rfl rfl rfl ?_
    refine W.alloc rfl rfl rfl rfl ?_
    refine W.storeAgg rfl rfl rfl rfl rfl rfl rfl ?_
    refine AOps.nil ?_
    refine thn_normal ?_
    obtain ⟨a23, ha23, h⟩ := bind_some h
    obtain ⟨a28, ha28, h⟩ := bind_some h
    obtain ⟨a29, ha29, h⟩ := bind_some h
    refine AWP.drawEI [10, 11, 13] mixed rfl rfl rfl ?_
    apply DrawSeqE.consN; exact rfl; exact rfl; intro E
    refine AOps.move rfl rfl ?_
    exact AOps.nil ⟨rfl, rfl⟩
    exact rfl
    apply DrawSeqE.consN; exact rfl; exact rfl; intro E
    refine W.idxArr rfl rfl rfl rfl (Nat.le_of_ble_eq_true rfl) rfl ?_
    exact AOps.nil ⟨rfl, rfl⟩
    exact rfl
    apply DrawSeqE.consN; exact rfl; exact rfl; intro E
    refine AOps.load rfl rfl rfl rfl rfl rfl ?_
    exact AOps.nil ⟨rfl, rfl⟩
    exact rfl
    apply DrawSeqE.consN; exact rfl; exact rfl; intro E
    refine AOps.move rfl rfl ?_
    exact AOps.nil ⟨rfl, rfl⟩
    exact rfl
    apply DrawSeqE.consN; exact rfl; exact rfl; intro E
    refine W.idxArr rfl rfl rfl rfl (Nat.le_of_ble_eq_true rfl) rfl ?_
    exact AOps.nil ⟨rfl, rfl⟩
    exact rfl
    apply DrawSeqE.consN; exact rfl; exact rfl; intro E
    refine AOps.load rfl rfl rfl rfl rfl rfl ?_
    exact AOps.nil ⟨rfl, rfl⟩
    exact rfl
    apply DrawSeqE.consN; exact rfl; exact rfl; intro E
    refine S.idxH ha23 rfl rfl rfl (by simp) rfl rfl ?_
    exact AOps.nil ⟨rfl, rfl⟩
    exact rfl
    apply DrawSeqE.consN; exact rfl; exact rfl; intro E
    refine S.loadM ha23 rfl rfl rfl rfl ?_
    exact AOps.nil ⟨rfl, rfl⟩
    exact rfl
    apply DrawSeqE.consN; exact rfl; exact rfl; intro E
    refine W.idxArr rfl rfl rfl rfl (Nat.le_of_ble_eq_true rfl) rfl ?_
    exact AOps.nil ⟨rfl, rfl⟩
    exact rfl
    apply DrawSeqE.consN; exact rfl; exact rfl; intro E
    refine AOps.load rfl rfl rfl rfl rfl rfl ?_
    exact AOps.nil ⟨rfl, rfl⟩
    exact rfl
    apply DrawSeqE.consE; exact rfl; exact rfl; intro E
    refine S.lit (f := intI) (l := [a15.2]) (ess := [[int a15.2]]) rfl rfl rfl rfl rfl rfl rfl ⟨⟨.inl rfl, trivial⟩, trivial⟩ rfl rfl rfl ?_
    exact AOps.nil ⟨rfl, rfl⟩
    exact rfl
    exact rfl
    apply DrawSeqE.consE; exact rfl; exact rfl; intro E
    refine S.appendR (f := intI) ha28 (ix_get ha23).2 rfl rfl rfl rfl rfl rfl (.own rfl (by simp only [List.length_set])) rfl rfl rfl rfl ?_
    exact AOps.nil ⟨rfl, rfl⟩
    exact rfl
    exact rfl
    apply DrawSeqE.consN; exact rfl; exact rfl; intro E
    refine S.idxH ha29 rfl rfl rfl (by simp) rfl rfl ?_
    exact AOps.nil ⟨rfl, rfl⟩
    exact rfl
    apply DrawSeqE.consE (v := .undef); exact rfl; exact rfl; intro E
    refine S.storeHD (ix_get ha29).2 rfl rfl rfl rfl ?_
    exact AOps.nil ⟨rfl, rfl⟩
    exact rfl
    exact rfl
    refine DrawSeqE.done rfl ?_ ?_
    · apply RestI.cons; exact rfl; exact rfl
      first | refine RestK.skip rfl ?_ | (apply RestK.go; exact rfl; exact rfl; intro E; (refine AOps.move rfl rfl ?_); exact AOps.nil ⟨rfl, rfl⟩)
      first | refine RestK.skip rfl ?_ | (apply RestK.go; exact rfl; exact rfl; intro E; (refine AOps.move rfl rfl ?_); exact AOps.nil ⟨rfl, rfl⟩)
      first | refine RestK.skip rfl ?_ | (apply RestK.go; exact rfl; exact rfl; intro E; (refine AOps.move rfl rfl ?_); exact AOps.nil ⟨rfl, rfl⟩)
      first | refine RestK.skip rfl ?_ | (apply RestK.go; exact rfl; exact rfl; intro E; (refine AOps.move rfl rfl ?_); exact AOps.nil ⟨rfl, rfl⟩)
      exact RestK.nil
      apply RestI.cons; exact rfl; exact rfl
      first | refine RestK.skip rfl ?_ | (apply RestK.go; exact rfl; exact rfl; intro E; (refine W.idxArr rfl rfl rfl rfl (Nat.le_of_ble_eq_true rfl) rfl ?_); exact AOps.nil ⟨rfl, rfl⟩)
      first | refine RestK.skip rfl ?_ | (apply RestK.go; exact rfl; exact rfl; intro E; (refine W.idxArr rfl rfl rfl rfl (Nat.le_of_ble_eq_true rfl) rfl ?_); exact AOps.nil ⟨rfl, rfl⟩)
      first | refine RestK.skip rfl ?_ | (apply RestK.go; exact rfl; exact rfl; intro E; (refine W.idxArr rfl rfl rfl rfl (Nat.le_of_ble_eq_true rfl) rfl ?_); exact AOps.nil ⟨rfl, rfl⟩)
      first | refine RestK.skip rfl ?_ | (apply RestK.go; exact rfl; exact rfl; intro E; (refine W.idxArr rfl rfl rfl rfl (Nat.le_of_ble_eq_true rfl) rfl ?_); exact AOps.nil ⟨rfl, rfl⟩)
      exact RestK.nil
      apply RestI.cons; exact rfl; exact rfl
      first | refine RestK.skip rfl ?_ | (apply RestK.go; exact rfl; exact rfl; intro E; (refine AOps.load rfl rfl rfl rfl rfl rfl ?_); exact AOps.nil ⟨rfl, rfl⟩)
      first | refine RestK.skip rfl ?_ | (apply RestK.go; exact rfl; exact rfl; intro E; (refine AOps.load rfl rfl rfl rfl rfl rfl ?_); exact AOps.nil ⟨rfl, rfl⟩)
      first | refine RestK.skip rfl ?_ | (apply RestK.go; exact rfl; exact rfl; intro E; (refine AOps.load rfl rfl rfl rfl rfl rfl ?_); exact AOps.nil ⟨rfl, rfl⟩)
      first | refine RestK.skip rfl ?_ | (apply RestK.go; exact rfl; exact rfl; intro E; (refine AOps.load rfl rfl rfl rfl rfl rfl ?_); exact AOps.nil ⟨rfl, rfl⟩)
      exact RestK.nil
      apply RestI.cons; exact rfl; exact rfl
      first | refine RestK.skip rfl ?_ | (apply RestK.go; exact rfl; exact rfl; intro E; (refine AOps.move rfl rfl ?_); exact AOps.nil ⟨rfl, rfl⟩)
      first | refine RestK.skip rfl ?_ | (apply RestK.go; exact rfl; exact rfl; intro E; (refine AOps.move rfl rfl ?_); exact AOps.nil ⟨rfl, rfl⟩)
      first | refine RestK.skip rfl ?_ | (apply RestK.go; exact rfl; exact rfl; intro E; (refine AOps.move rfl rfl ?_); exact AOps.nil ⟨rfl, rfl⟩)
      first | refine RestK.skip rfl ?_ | (apply RestK.go; exact rfl; exact rfl; intro E; (refine AOps.move rfl rfl ?_); exact AOps.nil ⟨rfl, rfl⟩)
      exact RestK.nil
      apply RestI.cons; exact rfl; exact rfl
      first | refine RestK.skip rfl ?_ | (apply RestK.go; exact rfl; exact rfl; intro E; (refine W.idxArr rfl rfl rfl rfl (Nat.le_of_ble_eq_true rfl) rfl ?_); exact AOps.nil ⟨rfl, rfl⟩)
      first | refine RestK.skip rfl ?_ | (apply RestK.go; exact rfl; exact rfl; intro E; (refine W.idxArr rfl rfl rfl rfl (Nat.le_of_ble_eq_true rfl) rfl ?_); exact AOps.nil ⟨rfl, rfl⟩)
      first | refine RestK.skip rfl ?_ | (apply RestK.go; exact rfl; exact rfl; intro E; (refine W.idxArr rfl rfl rfl rfl (Nat.le_of_ble_eq_true rfl) rfl ?_); exact AOps.nil ⟨rfl, rfl⟩)
      first | refine RestK.skip rfl ?_ | (apply RestK.go; exact rfl; exact rfl; intro E; (refine W.idxArr rfl rfl rfl rfl (Nat.le_of_ble_eq_true rfl) rfl ?_); exact AOps.nil ⟨rfl, rfl⟩)
      exact RestK.nil
      apply RestI.cons; exact rfl; exact rfl
      first | refine RestK.skip rfl ?_ | (apply RestK.go; exact rfl; exact rfl; intro E; (refine AOps.load rfl rfl rfl rfl rfl rfl ?_); exact AOps.nil ⟨rfl, rfl⟩)
      first | refine RestK.skip rfl ?_ | (apply RestK.go; exact rfl; exact rfl; intro E; (refine AOps.load rfl rfl rfl rfl rfl rfl ?_); exact AOps.nil ⟨rfl, rfl⟩)
      first | refine RestK.skip rfl ?_ | (apply RestK.go; exact rfl; exact rfl; intro E; (refine AOps.load rfl rfl rfl rfl rfl rfl ?_); exact AOps.nil ⟨rfl, rfl⟩)
      first | refine RestK.skip rfl ?_ | (apply RestK.go; exact rfl; exact rfl; intro E; (refine AOps.load rfl rfl rfl rfl rfl rfl ?_); exact AOps.nil ⟨rfl, rfl⟩)
      exact RestK.nil
      apply RestI.cons; exact rfl; exact rfl
      first | refine RestK.skip rfl ?_ | (apply RestK.go; exact rfl; exact rfl; intro E; (refine S.idxH ha23 rfl rfl rfl (by simp) rfl rfl ?_); exact AOps.nil ⟨rfl, rfl⟩)
      first | refine RestK.skip rfl ?_ | (apply RestK.go; exact rfl; exact rfl; intro E; (refine S.idxH ha23 rfl rfl rfl (by simp) rfl rfl ?_); exact AOps.nil ⟨rfl, rfl⟩)
      first | refine RestK.skip rfl ?_ | (apply RestK.go; exact rfl; exact rfl; intro E; (refine S.idxH ha23 rfl rfl rfl (by simp) rfl rfl ?_); exact AOps.nil ⟨rfl, rfl⟩)
      first | refine RestK.skip rfl ?_ | (apply RestK.go; exact rfl; exact rfl; intro E; (refine S.idxH ha23 rfl rfl rfl (by simp) rfl rfl ?_); exact AOps.nil ⟨rfl, rfl⟩)
      exact RestK.nil
      apply RestI.cons; exact rfl; exact rfl
      first | refine RestK.skip rfl ?_ | (apply RestK.go; exact rfl; exact rfl; intro E; (refine S.loadM ha23 rfl rfl rfl rfl ?_); exact AOps.nil ⟨rfl, rfl⟩)
      first | refine RestK.skip rfl ?_ | (apply RestK.go; exact rfl; exact rfl; intro E; (refine S.loadM ha23 rfl rfl rfl rfl ?_); exact AOps.nil ⟨rfl, rfl⟩)
      first | refine RestK.skip rfl ?_ | (apply RestK.go; exact rfl; exact rfl; intro E; (refine S.loadM ha23 rfl rfl rfl rfl ?_); exact AOps.nil ⟨rfl, rfl⟩)
      first | refine RestK.skip rfl ?_ | (apply RestK.go; exact rfl; exact rfl; intro E; (refine S.loadM ha23 rfl rfl rfl rfl ?_); exact AOps.nil ⟨rfl, rfl⟩)
      exact RestK.nil
      apply RestI.cons; exact rfl; exact rfl
      first | refine RestK.skip rfl ?_ | (apply RestK.go; exact rfl; exact rfl; intro E; (refine W.idxArr rfl rfl rfl rfl (Nat.le_of_ble_eq_true rfl) rfl ?_); exact AOps.nil ⟨rfl, rfl⟩)
      first | refine RestK.skip rfl ?_ | (apply RestK.go; exact rfl; exact rfl; intro E; (refine W.idxArr rfl rfl rfl rfl (Nat.le_of_ble_eq_true rfl) rfl ?_); exact AOps.nil ⟨rfl, rfl⟩)
      first | refine RestK.skip rfl ?_ | (apply RestK.go; exact rfl; exact rfl; intro E; (refine W.idxArr rfl rfl rfl rfl (Nat.le_of_ble_eq_true rfl) rfl ?_); exact AOps.nil ⟨rfl, rfl⟩)
      first | refine RestK.skip rfl ?_ | (apply RestK.go; exact rfl; exact rfl; intro E; (refine W.idxArr rfl rfl rfl rfl (Nat.le_of_ble_eq_true rfl) rfl ?_); exact AOps.nil ⟨rfl, rfl⟩)
      exact RestK.nil
      apply RestI.cons; exact rfl; exact rfl
      first | refine RestK.skip rfl ?_ | (apply RestK.go; exact rfl; exact rfl; intro E; (refine AOps.load rfl rfl rfl rfl rfl rfl ?_); exact AOps.nil ⟨rfl, rfl⟩)
      first | refine RestK.skip rfl ?_ | (apply RestK.go; exact rfl; exact rfl; intro E; (refine AOps.load rfl rfl rfl rfl rfl rfl ?_); exact AOps.nil ⟨rfl, rfl⟩)
      first | refine RestK.skip rfl ?_ | (apply RestK.go; exact rfl; exact rfl; intro E; (refine AOps.load rfl rfl rfl rfl rfl rfl ?_); exact AOps.nil ⟨rfl, rfl⟩)
      first | refine RestK.skip rfl ?_ | (apply RestK.go; exact rfl; exact rfl; intro E; (refine AOps.load rfl rfl rfl rfl rfl rfl ?_); exact AOps.nil ⟨rfl, rfl⟩)
      exact RestK.nil
      refine RestI.skip rfl ?_
      refine RestI.skip rfl ?_
      apply RestI.cons; exact rfl; exact rfl
      first | refine RestK.skip rfl ?_ | (apply RestK.go; exact rfl; exact rfl; intro E; (refine S.idxH ha29 rfl rfl rfl (by simp) rfl rfl ?_); exact AOps.nil ⟨rfl, rfl⟩)
      first | refine RestK.skip rfl ?_ | (apply RestK.go; exact rfl; exact rfl; intro E; (refine S.idxH ha29 rfl rfl rfl (by simp) rfl rfl ?_); exact AOps.nil ⟨rfl, rfl⟩)
      first | refine RestK.skip rfl ?_ | (apply RestK.go; exact rfl; exact rfl; intro E; (refine S.idxH ha29 rfl rfl rfl (by simp) rfl rfl ?_); exact AOps.nil ⟨rfl, rfl⟩)
      first | refine RestK.skip rfl ?_ | (apply RestK.go; exact rfl; exact rfl; intro E; (refine S.idxH ha29 rfl rfl rfl (by simp) rfl rfl ?_); exact AOps.nil ⟨rfl, rfl⟩)
      exact RestK.nil
      refine RestI.skip rfl ?_
      exact RestI.nil
    dsimp only [envEnd]
    refine inB_normal ?_
    refine thn_normal ?_
    refine AWP.moveR (k := 1) (f := intI) (M := c2) (env' := [(3, .c (.own 1 0 c2.length)), (11, .c (row 2 eA2i64 gv.arcs)), (12, .c (int (gv.arcs.length : Int))), (13, .c (int t3))]) (σ' := [.dead, mat (1, []) 1 intI (c2.set a15.1.toNat a28), .one (.cells 2 [[int a15.1, int a15.2]]), .one (vec 1 intI [a15.2])]) (r := 1) (s := 4) (p := a15.1.toNat) (matSD_at rfl) (ix_get ha29).2 rfl rfl rfl rfl rfl (.inl rfl) ⟨.dead, .self, .one rfl rfl, .vec, trivial⟩ ⟨rfl, rfl, rfl, rfl, trivial⟩ rfl rfl ?_
    refine AWP.region ?_
    refine AOps.add rfl rfl rfl (by omega) ?_
    refine AOps.move rfl rfl ?_
    refine AOps.nil ?_
    have ej := Option.some.inj h
    subst ej
    refine thn_normal ?_
    exact Sub.cut ⟨(own_len (by first | rfl | simp only [List.length_set])), rfl, rfl, rfl, trivial⟩ rfl ⟨.dead, .mat rfl, trivial⟩ rfl
  · intro e s hq
    obtain ⟨rfl, hs⟩ := hq
    refine ⟨_, hs, ?_⟩
    refine inB_exit ?_
    refine thn_normal ?_
    refine AWP.seq ?_
    refine AWP.region ?_
    refine AOps.move rfl rfl ?_
    refine AOps.assign rfl rfl ?_
    refine AOps.nil ?_
    refine thn_normal ?_
    refine AWP.matV' (k := 1) (f := intI) (env' := [(2, .c (.own 1 0 c2.length))]) (σ' := [.dead, .one (vec 1 eLi64 c2)]) 1 rfl ⟨rfl, trivial⟩ rfl ⟨.dead, .self, trivial⟩ rfl rfl ?_
    refine AWP.ret ?_
    have ej := Option.some.inj h
    subst ej
    exact Done.ret rfl (Fresh.mk rfl rfl)

def games_attract_1 (p : Int) (c2 : List Int) (c3 : Int) : Option Bool := Option.bind (Option.bind (ix c2 p) fun a7 => if 0 ≤ a7 then Option.bind (ix c2 p) fun a13 => some (decide (a13 < c3)) else some false) fun t2 => some t2
theorem games_attract_1_ok {p : Int} {c2 : List Int} {c3 : Int} {r : Bool} (h : games_attract_1 p c2 c3 = some r) : PureOk Try.prog 32 [.c (int p), .c (.imm (.ipt [.sl 1 (List.map intI c2)])), .c (.imm (.ipt [.val (.int .i64 c3)]))] (.c (bool r)) := by
  unfold PureOk
  refine FnOk.enter (rs := [.t 4]) Try.func32 rfl Try.ntmps32 Try.results32 rfl ⟨trivial, trivial⟩ (by kernel_rfl) rfl ?_
  unfold games_attract_1 at h
  refine AWP.seq ?_
  refine AWP.region ?_
  refine AOps.assign rfl rfl ?_
  refine AOps.nil ?_
  refine thn_normal ?_
  obtain ⟨t2, hx3, h⟩ := bind_some h
  refine AWP.seqJ (⟨[(4, .c (bool t2))], []⟩) ?_ ?_
  · obtain ⟨a7, ha7, hx3⟩ := bind_some hx3
    rcases Bool.eq_false_or_eq_true (decide (0 ≤ a7)) with hb4 | hb4
    · replace hx3 := iteDT hb4 hx3
      obtain ⟨a13, ha13, hx3⟩ := bind_some hx3
      refine AWP.drawI mixed rfl ?_
      apply DrawSeq.consF; exact rfl; intro E
      refine AOps.loadI rfl rfl rfl rfl ?_
      exact AOps.nil ⟨rfl, rfl⟩
      exact rfl
      apply DrawSeq.consF; exact rfl; intro E
      refine AOps.move rfl rfl ?_
      exact AOps.nil ⟨rfl, rfl⟩
      exact rfl
      apply DrawSeq.consF; exact rfl; intro E
      refine S.idx ha7 rfl rfl rfl rfl ?_
      exact AOps.nil ⟨rfl, rfl⟩
      exact rfl
      apply DrawSeq.consF; exact rfl; intro E
      refine AOps.loadI rfl rfl rfl rfl ?_
      exact AOps.nil ⟨rfl, rfl⟩
      exact rfl
      apply DrawSeq.consF; exact rfl; intro E
      refine AOps.geq rfl rfl rfl ?_
      exact AOps.nil ⟨rfl, rfl⟩
      exact rfl
      apply DrawSeq.consF; exact rfl; intro E
      refine AOps.move rfl rfl ?_
      exact AOps.nil ⟨rfl, rfl⟩
      exact rfl
      apply DrawSeq.consF; exact rfl; intro E
      refine AOps.guardT rfl rfl rfl hb4 ?_; refine AOps.loadI rfl rfl rfl rfl ?_
      exact AOps.nil ⟨rfl, rfl⟩
      exact rfl
      apply DrawSeq.consF; exact rfl; intro E
      refine AOps.guardT rfl rfl rfl hb4 ?_; refine AOps.move rfl rfl ?_
      exact AOps.nil ⟨rfl, rfl⟩
      exact rfl
      apply DrawSeq.consF; exact rfl; intro E
      refine AOps.guardT rfl rfl rfl hb4 ?_; refine S.idx ha13 rfl rfl rfl rfl ?_
      exact AOps.nil ⟨rfl, rfl⟩
      exact rfl
      apply DrawSeq.consF; exact rfl; intro E
      refine AOps.guardT rfl rfl rfl hb4 ?_; refine AOps.loadI rfl rfl rfl rfl ?_
      exact AOps.nil ⟨rfl, rfl⟩
      exact rfl
      apply DrawSeq.consF; exact rfl; intro E
      refine AOps.guardT rfl rfl rfl hb4 ?_; refine AOps.loadI rfl rfl rfl rfl ?_
      exact AOps.nil ⟨rfl, rfl⟩
      exact rfl
      apply DrawSeq.consF; exact rfl; intro E
      refine AOps.guardT rfl rfl rfl hb4 ?_; refine AOps.lss rfl rfl rfl ?_
      exact AOps.nil ⟨rfl, rfl⟩
      exact rfl
      apply DrawSeq.consF; exact rfl; intro E
      refine AOps.pickT rfl hb4 rfl rfl ?_
      exact AOps.nil ⟨rfl, rfl⟩
      exact rfl
      apply DrawSeq.consF; exact rfl; intro E
      refine AOps.assign rfl rfl ?_
      exact AOps.nil ⟨rfl, rfl⟩
      exact rfl
      refine DrawSeq.done ?_
      dsimp only [envEnd]
      have ej := Option.some.inj hx3
      subst ej
      refine thn_normal ?_
      exact Sub.env ⟨rfl, trivial⟩
    · replace hx3 := iteDF hb4 hx3
      refine AWP.drawI mixed rfl ?_
      apply DrawSeq.consF; exact rfl; intro E
      refine AOps.loadI rfl rfl rfl rfl ?_
      exact AOps.nil ⟨rfl, rfl⟩
      exact rfl
      apply DrawSeq.consF; exact rfl; intro E
      refine AOps.move rfl rfl ?_
      exact AOps.nil ⟨rfl, rfl⟩
      exact rfl
      apply DrawSeq.consF; exact rfl; intro E
      refine S.idx ha7 rfl rfl rfl rfl ?_
      exact AOps.nil ⟨rfl, rfl⟩
      exact rfl
      apply DrawSeq.consF; exact rfl; intro E
      refine AOps.loadI rfl rfl rfl rfl ?_
      exact AOps.nil ⟨rfl, rfl⟩
      exact rfl
      apply DrawSeq.consF; exact rfl; intro E
      refine AOps.geq rfl rfl rfl ?_
      exact AOps.nil ⟨rfl, rfl⟩
      exact rfl
      apply DrawSeq.consF; exact rfl; intro E
      refine AOps.move rfl rfl ?_
      exact AOps.nil ⟨rfl, rfl⟩
      exact rfl
      apply DrawSeq.consF; exact rfl; intro E
      refine AOps.guardF rfl rfl rfl hb4 ?_
      exact AOps.nil ⟨rfl, rfl⟩
      exact rfl
      apply DrawSeq.consF; exact rfl; intro E
      refine AOps.guardF rfl rfl rfl hb4 ?_
      exact AOps.nil ⟨rfl, rfl⟩
      exact rfl
      apply DrawSeq.consF; exact rfl; intro E
      refine AOps.guardF rfl rfl rfl hb4 ?_
      exact AOps.nil ⟨rfl, rfl⟩
      exact rfl
      apply DrawSeq.consF; exact rfl; intro E
      refine AOps.guardF rfl rfl rfl hb4 ?_
      exact AOps.nil ⟨rfl, rfl⟩
      exact rfl
      apply DrawSeq.consF; exact rfl; intro E
      refine AOps.guardF rfl rfl rfl hb4 ?_
      exact AOps.nil ⟨rfl, rfl⟩
      exact rfl
      apply DrawSeq.consF; exact rfl; intro E
      refine AOps.guardF rfl rfl rfl hb4 ?_
      exact AOps.nil ⟨rfl, rfl⟩
      exact rfl
      apply DrawSeq.consF; exact rfl; intro E
      refine AOps.pickF rfl hb4 rfl rfl ?_
      exact AOps.nil ⟨rfl, rfl⟩
      exact rfl
      apply DrawSeq.consF; exact rfl; intro E
      refine AOps.assign rfl rfl ?_
      exact AOps.nil ⟨rfl, rfl⟩
      exact rfl
      refine DrawSeq.done ?_
      dsimp only [envEnd]
      have ej := Option.some.inj hx3
      subst ej
      refine thn_normal ?_
      exact Sub.env ⟨rfl, trivial⟩
  · refine AWP.ret ?_
    have ej := Option.some.inj h
    subst ej
    exact Done.ret rfl rfl

def games_attract_2 (p : Int) (c2 : Int → Option Bool) : Option Bool := Option.bind (c2 p) fun a6 => some (!a6)
theorem games_attract_2_ok {p : Int} {c2 : Int → Option Bool} {r : Bool} {fvc2 : FuncId} {cvc2 : List I} (hc2 : ∀ {y1 : Int} {z : Bool}, c2 y1 = some z → PureOk Try.prog fvc2 ([.c (int y1)] ++ (cvc2.map C.imm).map T.c) (.c (bool z))) (h : games_attract_2 p c2 = some r) : PureOk Try.prog 33 [.c (int p), .c (.imm (.ipt [.fn fvc2 cvc2]))] (.c (bool r)) := by
  unfold PureOk
  refine FnOk.enter (rs := [.t 3]) Try.func33 rfl Try.ntmps33 Try.results33 rfl ⟨trivial, trivial⟩ (by kernel_rfl) rfl ?_
  unfold games_attract_2 at h
  refine AWP.seq ?_
  refine AWP.region ?_
  refine AOps.assign rfl rfl ?_
  refine AOps.nil ?_
  refine thn_normal ?_
  refine AWP.seq ?_
  obtain ⟨a6, ha6, h⟩ := bind_some h
  refine AWP.region ?_
  refine AOps.loadI rfl rfl rfl rfl ?_
  refine AOps.move rfl rfl ?_
  refine AOps.callRI rfl rfl rfl rfl rfl (hc2 ha6) rfl ?_
  refine AOps.not rfl rfl ?_
  refine AOps.assign rfl rfl ?_
  refine AOps.nil ?_
  refine thn_normal ?_
  refine AWP.ret ?_
  have ej := Option.some.inj h
  subst ej
  exact Done.ret rfl rfl

def slices_IndexFunc_int_int_l1 (sv : List Int) (fv : Int → Option Bool) : Int → Unit → Option (Unit ⊕ Int) := fun t3 _ => Option.bind (ix sv t3) fun a14 => Option.bind (fv a14) fun a16 => if a16 = true then some (.inr t3) else some (.inl ())
def slices_IndexFunc_int_int (sv : List Int) (fv : Int → Option Bool) : Option Int := (Option.bind (rngX 0 (sv.length : Int) (slices_IndexFunc_int_int_l1 sv fv) ()) fun | .inl _ => some (-1) | .inr x => some x)
theorem slices_IndexFunc_int_int_ok {sv : List Int} {fv : Int → Option Bool} {r : Int} {fvfv : FuncId} {cvfv : List C} (hcvfv : C.okL 0 cvfv = true) (hfv : ∀ {y1 : Int} {z : Bool}, fv y1 = some z → PureOk Try.prog fvfv ([.c (int y1)] ++ cvfv.map T.c) (.c (bool z))) (h : slices_IndexFunc_int_int sv fv = some r) : PureOk Try.prog 28 [.c (row 1 intI sv), .c (.fn fvfv cvfv)] (.c (int r)) := by
  unfold PureOk
  refine FnOk.enter (rs := [.t 4]) Try.func28 rfl Try.ntmps28 Try.results28 rfl ⟨trivial, trivial⟩ (by kernel_rfl) rfl ?_
  unfold slices_IndexFunc_int_int at h
  refine AWP.seq ?_
  refine AWP.region ?_
  refine AOps.assign rfl rfl ?_
  refine AOps.nil ?_
  refine thn_normal ?_
  refine AWP.seq ?_
  refine AWP.seq ?_
  refine AWP.region ?_
  refine AOps.move rfl rfl ?_
  refine S.len rfl rfl (fun hl7 => ?_)
  refine AOps.move rfl rfl ?_
  refine AOps.nil ?_
  refine thn_normal ?_
  refine AWP.block ?_
  obtain ⟨oo, ho1, h⟩ := bind_some h
  refine AWP.rngS ho1 (fun t3 _ => ⟨[(0, .c (row 1 intI sv)), (1, .c (.fn fvfv cvfv)), (7, .c (int (sv.length : Int))), (8, .c (int t3))], []⟩) (fun o e st => match o with | .inl _ => e = .exit 0 ∧ Sub [] st ⟨[], []⟩ | .inr x => e = .ret ∧ Done [.t 4] (fun t _ => t = .c (int x)) .ret st) ?_ ?_ ?_ ?_
  · try dsimp only
    exact Sub.env ⟨rfl, rfl, rfl, rfl, trivial⟩
  · intro t3 s hlot3 hltt3 _
    try dsimp only
    refine AWP.seq ?_
    refine AWP.region ?_
    refine AOps.lss rfl rfl rfl ?_
    refine AOps.nil ?_
    refine thn_normal ?_
    refine AWP.seq ?_
    refine AWP.condNP rfl hltt3 ?_
    refine AWP.exit ?_
    refine thn_exit ?_
    refine thn_exit ⟨rfl, ?_⟩
    exact Sub.env trivial
  · intro t3 s o hlot3 hltt3 h
    unfold slices_IndexFunc_int_int_l1 at h
    try dsimp only at h ⊢
    refine AWP.seq ?_
    refine AWP.region ?_
    refine AOps.lss rfl rfl rfl ?_
    refine AOps.nil ?_
    refine thn_normal ?_
    refine AWP.seq ?_
    refine AWP.condP rfl hltt3 ?_
    refine AWP.skip ?_
    refine thn_normal ?_
    refine AWP.seq ?_
    refine AWP.block ?_
    refine AWP.seq ?_
    refine AWP.region ?_
    refine AOps.move rfl rfl ?_
    refine AOps.assign rfl rfl ?_
    refine AOps.nil ?_
    refine thn_normal ?_
    refine AWP.seq ?_
    obtain ⟨a14, ha14, h⟩ := bind_some h
    obtain ⟨a16, ha16, h⟩ := bind_some h
    refine AWP.region ?_
    refine AOps.move rfl rfl ?_
    refine AOps.move rfl rfl ?_
    refine AOps.move rfl rfl ?_
    refine S.idx ha14 rfl rfl rfl rfl ?_
    refine AOps.loadI rfl rfl rfl rfl ?_
    refine AOps.callR rfl rfl (okL_app rfl hcvfv) rfl (hfv ha16) rfl ?_
    refine AOps.nil ?_
    refine thn_normal ?_
    refine AWP.iteB rfl h (fun hc4 h => ?_) (fun hc4 h => ?_)
    · refine AWP.seq ?_
      refine AWP.region ?_
      refine AOps.move rfl rfl ?_
      refine AOps.assign rfl rfl ?_
      refine AOps.nil ?_
      refine thn_normal ?_
      refine AWP.ret ?_
      refine inB_ret ?_
      refine thn_ret ?_
      have ej := Option.some.inj h
      subst ej
      refine thn_ret ⟨_, rfl, rfl, ?_⟩
      exact Done.ret rfl rfl
    · refine AWP.skip ?_
      refine inB_normal ?_
      refine thn_normal ?_
      refine AWP.region ?_
      refine AOps.add rfl rfl rfl (by omega) ?_
      refine AOps.move rfl rfl ?_
      refine AOps.nil ?_
      have ej := Option.some.inj h
      subst ej
      refine thn_normal ⟨_, rfl, ?_⟩
      exact Sub.env ⟨rfl, rfl, rfl, rfl, trivial⟩
  · intro e s hq
    rcases oo with u | x
    · try dsimp only at h hq
      obtain ⟨rfl, hs⟩ := hq
      refine ⟨_, hs, ?_⟩
      refine inB_exit ?_
      refine thn_normal ?_
      refine AWP.seq ?_
      refine AWP.region ?_
      refine AOps.assign rfl rfl ?_
      refine AOps.nil ?_
      refine thn_normal ?_
      refine AWP.ret ?_
      have ej := Option.some.inj h
      subst ej
      exact Done.ret rfl rfl
    · try dsimp only at h hq
      obtain ⟨rfl, hs⟩ := hq
      refine ⟨_, Sub.refl _ _, ?_⟩
      refine inB_ret ?_
      refine thn_ret ?_
      have ej := Option.some.inj h
      subst ej
      exact hs

def slices_ContainsFunc_int_int (sv : List Int) (fv : Int → Option Bool) : Option Bool := Option.bind (slices_IndexFunc_int_int sv fv) fun a7 => some (decide (0 ≤ a7))
theorem slices_ContainsFunc_int_int_ok {sv : List Int} {fv : Int → Option Bool} {r : Bool} {fvfv : FuncId} {cvfv : List C} (hcvfv : C.okL 0 cvfv = true) (hfv : ∀ {y1 : Int} {z : Bool}, fv y1 = some z → PureOk Try.prog fvfv ([.c (int y1)] ++ cvfv.map T.c) (.c (bool z))) (h : slices_ContainsFunc_int_int sv fv = some r) : PureOk Try.prog 34 [.c (row 1 intI sv), .c (.fn fvfv cvfv)] (.c (bool r)) := by
  unfold PureOk
  refine FnOk.enter (rs := [.t 4]) Try.func34 rfl Try.ntmps34 Try.results34 rfl ⟨trivial, trivial⟩ (by kernel_rfl) rfl ?_
  unfold slices_ContainsFunc_int_int at h
  refine AWP.seq ?_
  refine AWP.region ?_
  refine AOps.assign rfl rfl ?_
  refine AOps.nil ?_
  refine thn_normal ?_
  refine AWP.seq ?_
  obtain ⟨a7, ha7, h⟩ := bind_some h
  refine AWP.region ?_
  refine AOps.move rfl rfl ?_
  refine AOps.move rfl rfl ?_
  refine AOps.callR rfl rfl (by simp [T.okL, T.ok, C.ok, C.okL, hcvfv]) rfl (slices_IndexFunc_int_int_ok hcvfv hfv ha7) rfl ?_
  refine AOps.geq rfl rfl rfl ?_
  refine AOps.assign rfl rfl ?_
  refine AOps.nil ?_
  refine thn_normal ?_
  refine AWP.ret ?_
  have ej := Option.some.inj h
  subst ej
  exact Done.ret rfl rfl

def games_attract_l1 (targets : List Int) : Int → (List Int) → Option (List Int) := fun t5 c4 => Option.bind (ix targets t5) fun a26 => Option.bind (ix c4 a26) fun a30 => some (c4.set a26.toNat 0)
def games_attract_l3 (gv : TGame) (player : Int) (a33 : (List (List Int))) (c7 : Int) : Int → ((List Int) × Bool) → Option ((List Int) × Bool) := fun t10 (c8, changed9) => Option.bind (Option.bind (ix a33 t10) fun a43 => Option.bind (ix c8 t10) fun a47 => if ((decide (0 ≤ a47)) || (decide ((a43.length : Int) = 0))) = true then some (c8, changed9) else Option.bind (Option.bind (ix gv.owner t10) fun a58 => if a58 = player then Option.bind (slices_ContainsFunc_int_int a43 (fun y1 => games_attract_1 y1 c8 c7)) fun a65 => if a65 = true then some true else Option.bind (ix gv.owner t10) fun a71 => if (!(decide (a71 = player))) = true then Option.bind (slices_ContainsFunc_int_int a43 (fun y1 => games_attract_2 y1 (fun y1 => games_attract_1 y1 c8 c7))) fun a78 => some (!a78) else some false else Option.bind (ix gv.owner t10) fun a71 => if (!(decide (a71 = player))) = true then Option.bind (slices_ContainsFunc_int_int a43 (fun y1 => games_attract_2 y1 (fun y1 => games_attract_1 y1 c8 c7))) fun a78 => some (!a78) else some false) fun t15 => if t15 = true then Option.bind (ix c8 t10) fun a85 => some (c8.set t10.toNat c7, true) else some (c8, changed9)) fun ⟨c11, changed12⟩ => some (c11, changed12)
def games_attract_l2 (gv : TGame) (player : Int) (a33 : (List (List Int))) : ((List Int) × Int) → Option (((List Int) × Int) ⊕ (List Int)) := fun (c6, c7) => (Option.bind (forR 0 (a33.length : Int) (games_attract_l3 gv player a33 c7) (c6, false)) fun ⟨c8, changed9⟩ => if (!changed9) = true then some (.inr c8) else some (.inl (c8, w64 (c7 + 1))))
noncomputable def games_attract (gv : TGame) (player : Int) (targets : List Int) : Option (List Int) := Option.bind (slices_Repeat_int_int [-1] (gv.owner.length : Int)) fun a21 => (Option.bind (forR 0 (targets.length : Int) (games_attract_l1 targets) a21) fun c4 => Option.bind (games_moves gv) fun a33 => Option.bind (Loop (games_attract_l2 gv player a33) (c4, 1)) fun x => some x)
theorem games_attract_ok {gv : TGame} {player : Int} {targets : List Int} {r : (List Int)} (h : games_attract gv player targets = some r) : FreshOk Try.prog 25 [.agg [row 1 intI gv.owner, row 2 eA2i64 gv.arcs], .c (int player), .c (row 1 intI targets)] 1 (List.map intI r) := by
  unfold FreshOk
  refine FnOk.enter (rs := [.t 6]) Try.func25 rfl Try.ntmps25 Try.results25 rfl ⟨trivial, trivial⟩ (by kernel_rfl) rfl ?_
  unfold games_attract at h
  refine AWP.seq ?_
  refine AWP.region ?_
  refine W.box rfl rfl rfl rfl rfl rfl ?_
  refine AOps.assign rfl rfl ?_
  refine AOps.nil ?_
  refine thn_normal ?_
  refine AWP.seq ?_
  obtain ⟨a21, ha21, h⟩ := bind_some h
  refine AWP.region ?_
  refine S.lit (f := intI) (l := [-1]) (ess := [[int (-1)]]) rfl rfl rfl rfl rfl rfl rfl ⟨⟨.inl rfl, trivial⟩, trivial⟩ rfl rfl rfl ?_
  refine W.fieldAddr rfl rfl rfl rfl ?_
  refine AOps.load rfl rfl rfl rfl rfl rfl ?_
  refine S.len rfl rfl (fun hl20 => ?_)
  refine AOps.frzV (env2 := [(1, .c (int player)), (2, .c (row 1 intI targets)), (3, .c (.ptr 0 0 0)), (17, .c (row 1 intI [-1])), (20, .c (int (gv.owner.length : Int)))]) (σ2 := [.one (.cells 2 [[row 1 intI gv.owner, row 2 eA2i64 gv.arcs]]), .dead]) rfl rfl ⟨⟨_, rfl, .inl ⟨rfl, rfl⟩⟩, ⟨_, rfl, .inl ⟨rfl, rfl⟩⟩, ⟨_, rfl, .inl ⟨rfl, rfl⟩⟩, ⟨_, rfl, .inr ⟨_, rfl, (by simp only [List.length_set]), rfl⟩⟩, ⟨_, rfl, .inl ⟨rfl, rfl⟩⟩, trivial⟩ rfl ⟨⟨rfl, .inl ⟨rfl, rfl⟩, .inl ⟨rfl, rfl⟩, trivial⟩, trivial, trivial⟩ ?_; refine S.fresh rfl rfl rfl rfl (slices_Repeat_int_int_ok ha21) rfl rfl ?_
  refine W.alloc rfl rfl rfl rfl ?_
  refine W.store rfl rfl rfl rfl rfl ?_
  refine AOps.nil ?_
  refine thn_normal ?_
  refine AWP.seq ?_
  refine AWP.seq ?_
  refine AWP.region ?_
  refine AOps.move rfl rfl ?_
  refine S.len rfl rfl (fun hl23 => ?_)
  refine AOps.move rfl rfl ?_
  refine AOps.nil ?_
  refine thn_normal ?_
  refine AWP.block ?_
  obtain ⟨c4, ho1, h⟩ := bind_some h
  refine AWP.forS ho1 (fun t5 c4 => ⟨[(1, .c (int player)), (3, .c (.ptr 0 0 0)), (7, .c (.ptr 3 0 0)), (22, .c (row 1 intI targets)), (23, .c (int (targets.length : Int))), (24, .c (int t5))], [.one (.cells 2 [[row 1 intI gv.owner, row 2 eA2i64 gv.arcs]]), .dead, .one (vec 1 intI c4), .one (.cells 1 [[.own 2 0 c4.length]])]⟩) (fun c4 e st => e = .exit 0 ∧ Sub [] st ⟨[(1, .c (int player)), (3, .c (.ptr 0 0 0)), (7, .c (.ptr 3 0 0))], [.one (.cells 2 [[row 1 intI gv.owner, row 2 eA2i64 gv.arcs]]), .dead, .one (vec 1 intI c4), .one (.cells 1 [[.own 2 0 c4.length]])]⟩) ?_ ?_ ?_ ?_
  · try dsimp only
    exact Sub.env ⟨rfl, rfl, rfl, rfl, rfl, rfl, trivial⟩
  · intro t5 c4 hlot5 hltt5 _
    try dsimp only
    refine AWP.seq ?_
    refine AWP.region ?_
    refine AOps.lss rfl rfl rfl ?_
    refine AOps.nil ?_
    refine thn_normal ?_
    refine AWP.seq ?_
    refine AWP.condNP rfl hltt5 ?_
    refine AWP.exit ?_
    refine thn_exit ?_
    refine thn_exit ⟨rfl, ?_⟩
    exact Sub.env ⟨rfl, rfl, rfl, trivial⟩
  · intro t5 c4 o hlot5 hltt5 h
    unfold games_attract_l1 at h
    try dsimp only at h ⊢
    refine AWP.seq ?_
    refine AWP.region ?_
    refine AOps.lss rfl rfl rfl ?_
    refine AOps.nil ?_
    refine thn_normal ?_
    refine AWP.seq ?_
    refine AWP.condP rfl hltt5 ?_
    refine AWP.skip ?_
    refine thn_normal ?_
    refine AWP.seq ?_
    refine AWP.block ?_
    refine AWP.seq ?_
    obtain ⟨a26, ha26, h⟩ := bind_some h
    refine AWP.region ?_
    refine S.idx ha26 rfl rfl rfl rfl ?_
    refine AOps.loadI rfl rfl rfl rfl ?_
    refine AOps.assign rfl rfl ?_
    refine AOps.nil ?_
    refine thn_normal ?_
    obtain ⟨a30, ha30, h⟩ := bind_some h
    refine AWP.region ?_
    refine AOps.load rfl rfl rfl rfl rfl rfl ?_
    refine AOps.move rfl rfl ?_
    refine S.idxO ha30 rfl rfl rfl rfl rfl ?_
    refine S.storeO1 (f := intI) (a' := 0) (ix_lt ha30) (fun _ => ⟨_, rfl⟩) rfl rfl rfl rfl rfl ?_
    refine AOps.nil ?_
    refine inB_normal ?_
    refine thn_normal ?_
    refine AWP.region ?_
    refine AOps.add rfl rfl rfl (by omega) ?_
    refine AOps.move rfl rfl ?_
    refine AOps.nil ?_
    have ej := Option.some.inj h
    subst ej
    refine thn_normal ?_
    exact Sub.cut ⟨rfl, rfl, rfl, rfl, rfl, rfl, trivial⟩ rfl ⟨.one rfl, .dead, .vec, (.eq rfl (by simp only [List.length_set])), trivial⟩ rfl
  · intro e s hq
    obtain ⟨rfl, hs⟩ := hq
    refine ⟨_, hs, ?_⟩
    refine inB_exit ?_
    refine thn_normal ?_
    refine AWP.seq ?_
    obtain ⟨a33, ha33, h⟩ := bind_some h
    refine AWP.region ?_
    refine W.loadAgg rfl rfl rfl rfl rfl rfl rfl ?_
    refine S.fresh rfl rfl rfl rfl (games_moves_ok ha33) rfl rfl ?_
    refine AOps.assign rfl rfl ?_
    refine AOps.nil ?_
    refine thn_normal ?_
    refine AWP.seq ?_
    refine AWP.region ?_
    refine W.alloc rfl rfl rfl rfl ?_
    refine W.store rfl rfl rfl rfl rfl ?_
    refine AOps.nil ?_
    refine thn_normal ?_
    refine AWP.block ?_
    obtain ⟨x, ho2, h⟩ := bind_some h
    refine AWP.loopS ho2 (fun (c6, c7) => ⟨[(1, .c (int player)), (3, .c (.ptr 0 0 0)), (7, .c (.ptr 3 0 0)), (10, .c (.own 4 0 a33.length)), (11, .c (.ptr 5 0 0))], [.one (.cells 2 [[row 1 intI gv.owner, row 2 eA2i64 gv.arcs]]), .dead, .one (vec 1 intI c6), .one (.cells 1 [[.own 2 0 c6.length]]), .one (vec 1 eLi64 a33), .one (.cells 1 [[int c7]])]⟩) (fun x e st => e = .ret ∧ Done [.t 6] (fun t s => ∃ id, t = .c (.own id 0 (List.map intI x).length) ∧ s[id]? = some (some (Blk.im 1 (List.map intI x)))) .ret st) ?_ ?_ ?_
    · try dsimp only
      exact Sub.env ⟨rfl, rfl, rfl, rfl, rfl, trivial⟩
    · intro s o h
      obtain ⟨c6, c7⟩ := s
      unfold games_attract_l2 at h
      try dsimp only at h ⊢
      refine AWP.seq ?_
      refine AWP.block ?_
      refine AWP.seq ?_
      refine AWP.region ?_
      refine AOps.makeFunc rfl rfl ?_
      refine W.alloc rfl rfl rfl rfl ?_
      refine W.store rfl rfl rfl rfl rfl ?_
      refine AOps.nil ?_
      refine thn_normal ?_
      refine AWP.seq ?_
      refine AWP.region ?_
      refine AOps.makeFunc rfl rfl ?_
      refine AOps.assign rfl rfl ?_
      refine AOps.nil ?_
      refine thn_normal ?_
      refine AWP.seq ?_
      refine AWP.region ?_
      refine AOps.assign rfl rfl ?_
      refine AOps.nil ?_
      refine thn_normal ?_
      refine AWP.seq ?_
      refine AWP.seq ?_
      refine AWP.region ?_
      refine AOps.move rfl rfl ?_
      refine S.lenO rfl rfl rfl (fun hl39 => ?_)
      refine AOps.move rfl rfl ?_
      refine AOps.nil ?_
      refine thn_normal ?_
      refine AWP.block ?_
      obtain ⟨⟨c8, changed9⟩, ho3, h⟩ := bind_some h
      try dsimp only at h
      refine AWP.forS ho3 (fun t10 (c8, changed9) => ⟨[(1, .c (int player)), (3, .c (.ptr 0 0 0)), (7, .c (.ptr 3 0 0)), (10, .c (.own 4 0 a33.length)), (11, .c (.ptr 5 0 0)), (12, .c (.ptr 6 0 0)), (13, .c (.fn 33 [.ptr 6 0 0])), (14, .c (bool changed9)), (38, .c (.own 4 0 a33.length)), (39, .c (int (a33.length : Int))), (40, .c (int t10))], [.one (.cells 2 [[row 1 intI gv.owner, row 2 eA2i64 gv.arcs]]), .dead, .one (vec 1 intI c8), .one (.cells 1 [[.own 2 0 c8.length]]), .one (vec 1 eLi64 a33), .one (.cells 1 [[int c7]]), .one (.cells 1 [[.fn 32 [.ptr 3 0 0, .ptr 5 0 0]]])]⟩) (fun (c8, changed9) e st => e = .exit 4 ∧ Sub [] st ⟨[(1, .c (int player)), (3, .c (.ptr 0 0 0)), (7, .c (.ptr 3 0 0)), (10, .c (.own 4 0 a33.length)), (11, .c (.ptr 5 0 0)), (14, .c (bool changed9))], [.one (.cells 2 [[row 1 intI gv.owner, row 2 eA2i64 gv.arcs]]), .dead, .one (vec 1 intI c8), .one (.cells 1 [[.own 2 0 c8.length]]), .one (vec 1 eLi64 a33), .one (.cells 1 [[int c7]]), .one (.cells 1 [[.fn 32 [.ptr 3 0 0, .ptr 5 0 0]]])]⟩) ?_ ?_ ?_ ?_
      · try dsimp only
        exact Sub.env ⟨rfl, rfl, rfl, rfl, rfl, rfl, rfl, rfl, rfl, rfl, rfl, trivial⟩
      · intro t10 s hlot10 hltt10 _
        obtain ⟨c8, changed9⟩ := s
        try dsimp only
        refine AWP.seq ?_
        refine AWP.region ?_
        refine AOps.lss rfl rfl rfl ?_
        refine AOps.nil ?_
        refine thn_normal ?_
        refine AWP.seq ?_
        refine AWP.condNP rfl hltt10 ?_
        refine AWP.exit ?_
        refine thn_exit ?_
        refine thn_exit ⟨rfl, ?_⟩
        exact Sub.env ⟨rfl, rfl, rfl, rfl, rfl, rfl, trivial⟩
      · intro t10 s o hlot10 hltt10 h
        obtain ⟨c8, changed9⟩ := s
        unfold games_attract_l3 at h
        try dsimp only at h ⊢
        refine AWP.seq ?_
        refine AWP.region ?_
        refine AOps.lss rfl rfl rfl ?_
        refine AOps.nil ?_
        refine thn_normal ?_
        refine AWP.seq ?_
        refine AWP.condP rfl hltt10 ?_
        refine AWP.skip ?_
        refine thn_normal ?_
        obtain ⟨⟨c11, changed12⟩, hx13, h⟩ := bind_some h
        refine AWP.seqJ (⟨[(1, .c (int player)), (3, .c (.ptr 0 0 0)), (7, .c (.ptr 3 0 0)), (10, .c (.own 4 0 a33.length)), (11, .c (.ptr 5 0 0)), (12, .c (.ptr 6 0 0)), (13, .c (.fn 33 [.ptr 6 0 0])), (14, .c (bool changed12)), (38, .c (.own 4 0 a33.length)), (39, .c (int (a33.length : Int))), (40, .c (int t10))], [.one (.cells 2 [[row 1 intI gv.owner, row 2 eA2i64 gv.arcs]]), .dead, .one (vec 1 intI c11), .one (.cells 1 [[.own 2 0 c11.length]]), .one (vec 1 eLi64 a33), .one (.cells 1 [[int c7]]), .one (.cells 1 [[.fn 32 [.ptr 3 0 0, .ptr 5 0 0]]])]⟩) ?_ ?_
        · refine AWP.block ?_
          refine AWP.seq ?_
          obtain ⟨a43, ha43, hx13⟩ := bind_some hx13
          refine AWP.region ?_
          refine AOps.move rfl rfl ?_
          refine S.idxO ha43 rfl rfl rfl rfl rfl ?_
          refine S.loadO ha43 rfl rfl rfl rfl rfl ?_
          refine AOps.assign rfl rfl ?_
          refine AOps.assign rfl rfl ?_
          refine AOps.nil ?_
          refine thn_normal ?_
          refine AWP.seq ?_
          obtain ⟨a47, ha47, hx13⟩ := bind_some hx13
          refine AWP.seqJ (⟨[(1, .c (int player)), (3, .c (.ptr 0 0 0)), (7, .c (.ptr 3 0 0)), (10, .c (.own 4 0 a33.length)), (11, .c (.ptr 5 0 0)), (12, .c (.ptr 6 0 0)), (13, .c (.fn 33 [.ptr 6 0 0])), (14, .c (bool changed9)), (15, .c (int t10)), (16, .c (row 1 intI a43)), (38, .c (.own 4 0 a33.length)), (39, .c (int (a33.length : Int))), (40, .c (int t10)), (54, .c (bool ((decide (0 ≤ a47)) || (decide ((a43.length : Int) = 0)))))], [.one (.cells 2 [[row 1 intI gv.owner, row 2 eA2i64 gv.arcs]]), .dead, .one (vec 1 intI c8), .one (.cells 1 [[.own 2 0 c8.length]]), .one (vec 1 eLi64 a33), .one (.cells 1 [[int c7]]), .one (.cells 1 [[.fn 32 [.ptr 3 0 0, .ptr 5 0 0]]])]⟩) ?_ ?_
          · rcases Bool.eq_false_or_eq_true (decide (0 ≤ a47)) with hb1 | hb1
            · refine AWP.region ?_
              refine AOps.load rfl rfl rfl rfl rfl rfl ?_
              refine AOps.move rfl rfl ?_
              refine S.idxO ha47 rfl rfl rfl rfl rfl ?_
              refine S.loadO ha47 rfl rfl rfl rfl rfl ?_
              refine AOps.geq rfl rfl rfl ?_
              refine AOps.move rfl rfl ?_
              refine AOps.guardF rfl rfl rfl hb1 ?_
              refine AOps.guardF rfl rfl rfl hb1 ?_
              refine AOps.guardF rfl rfl rfl hb1 ?_
              refine AOps.pickT rfl hb1 rfl rfl ?_
              refine AOps.nil ?_
              refine thn_normal ?_
              simp only [and_t hb1, or_t hb1]
              exact Sub.env ⟨rfl, rfl, rfl, rfl, rfl, rfl, rfl, rfl, rfl, rfl, rfl, rfl, rfl, rfl, trivial⟩
            · refine AWP.region ?_
              refine AOps.load rfl rfl rfl rfl rfl rfl ?_
              refine AOps.move rfl rfl ?_
              refine S.idxO ha47 rfl rfl rfl rfl rfl ?_
              refine S.loadO ha47 rfl rfl rfl rfl rfl ?_
              refine AOps.geq rfl rfl rfl ?_
              refine AOps.move rfl rfl ?_
              refine AOps.guardT rfl rfl rfl hb1 ?_; refine AOps.move rfl rfl ?_
              refine AOps.guardT rfl rfl rfl hb1 ?_; refine S.len rfl rfl (fun hl52 => ?_)
              refine AOps.guardT rfl rfl rfl hb1 ?_; refine AOps.eql rfl rfl rfl ?_
              refine AOps.pickF rfl hb1 rfl rfl ?_
              refine AOps.nil ?_
              refine thn_normal ?_
              simp only [and_f hb1, or_f hb1]
              exact Sub.env ⟨rfl, rfl, rfl, rfl, rfl, rfl, rfl, rfl, rfl, rfl, rfl, rfl, rfl, rfl, trivial⟩
          · refine AWP.iteB rfl hx13 (fun hc14 hx13 => ?_) (fun hc14 hx13 => ?_)
            · refine AWP.exit ?_
              refine thn_exit ?_
              refine inB_exit ?_
              have ej := Option.some.inj hx13
              simp only [Prod.mk.injEq] at ej
              obtain ⟨ej0, ej1⟩ := ej
              subst ej0
              subst ej1
              refine thn_normal ?_
              exact Sub.env ⟨rfl, rfl, rfl, rfl, rfl, rfl, rfl, rfl, rfl, rfl, rfl, trivial⟩
            · refine AWP.skip ?_
              refine thn_normal ?_
              obtain ⟨t15, hx16, hx13⟩ := bind_some hx13
              refine AWP.seqJ (⟨[(1, .c (int player)), (3, .c (.ptr 0 0 0)), (7, .c (.ptr 3 0 0)), (10, .c (.own 4 0 a33.length)), (11, .c (.ptr 5 0 0)), (12, .c (.ptr 6 0 0)), (13, .c (.fn 33 [.ptr 6 0 0])), (14, .c (bool changed9)), (15, .c (int t10)), (38, .c (.own 4 0 a33.length)), (39, .c (int (a33.length : Int))), (40, .c (int t10)), (81, .c (bool t15))], [.one (.cells 2 [[row 1 intI gv.owner, row 2 eA2i64 gv.arcs]]), .dead, .one (vec 1 intI c8), .one (.cells 1 [[.own 2 0 c8.length]]), .one (vec 1 eLi64 a33), .one (.cells 1 [[int c7]]), .one (.cells 1 [[.fn 32 [.ptr 3 0 0, .ptr 5 0 0]]])]⟩) ?_ ?_
              · obtain ⟨a58, ha58, hx16⟩ := bind_some hx16
                rcases Bool.eq_false_or_eq_true (decide (a58 = player)) with hb17 | hb17
                · replace hx16 := iteDT hb17 hx16
                  obtain ⟨a65, ha65, hx16⟩ := bind_some hx16
                  rcases Bool.eq_false_or_eq_true (a65) with hb18 | hb18
                  · replace hx16 := iteBT hb18 hx16
                    refine AWP.region ?_
                    refine W.fieldAddr rfl rfl rfl rfl ?_
                    refine AOps.load rfl rfl rfl rfl rfl rfl ?_
                    refine AOps.move rfl rfl ?_
                    refine S.idx ha58 rfl rfl rfl rfl ?_
                    refine AOps.loadI rfl rfl rfl rfl ?_
                    refine AOps.move rfl rfl ?_
                    refine AOps.eql rfl rfl rfl ?_
                    refine AOps.move rfl rfl ?_
                    refine AOps.guardT rfl rfl rfl hb17 ?_; refine AOps.move rfl rfl ?_
                    refine AOps.guardT rfl rfl rfl hb17 ?_; refine AOps.load rfl rfl rfl rfl rfl rfl ?_
                    refine AOps.guardT rfl rfl rfl hb17 ?_; refine AOps.callL rfl rfl (.cons (.c .imm) (.cons (.c (.fn (.cons (.ptr (es := [.sl 1 (List.map intI c8)]) rfl rfl (.cons (.own rfl rfl) .nil)) (.cons (.ptr (es := [.val (.int .i64 c7)]) rfl rfl (.cons .imm .nil)) .nil)))) .nil)) rfl (slices_ContainsFunc_int_int_ok rfl (fun hy => games_attract_1_ok hy) ha65) rfl ?_
                    refine AOps.pickT rfl hb17 rfl rfl ?_
                    refine AOps.move rfl rfl ?_
                    refine AOps.guardF rfl rfl rfl hb18 ?_
                    refine AOps.guardF rfl rfl rfl hb18 ?_
                    refine AOps.guardF rfl rfl rfl hb18 ?_
                    refine AOps.guardF rfl rfl rfl hb18 ?_
                    refine AOps.guardF rfl rfl rfl hb18 ?_
                    refine AOps.guardF rfl rfl rfl hb18 ?_
                    refine AOps.guardF rfl rfl rfl hb18 ?_
                    refine AOps.guardF rfl rfl rfl hb18 ?_
                    refine AOps.guardSkip rfl rfl rfl ?_
                    refine AOps.guardSkip rfl rfl rfl ?_
                    refine AOps.guardSkip rfl rfl rfl ?_
                    refine AOps.guardSkip rfl rfl rfl ?_
                    refine AOps.guardF rfl rfl rfl hb18 ?_
                    refine AOps.pickT rfl hb18 rfl rfl ?_
                    refine AOps.nil ?_
                    have ej := Option.some.inj hx16
                    subst ej
                    refine thn_normal ?_
                    exact Sub.env ⟨rfl, rfl, rfl, rfl, rfl, rfl, rfl, rfl, rfl, rfl, rfl, rfl, rfl, trivial⟩
                  · replace hx16 := iteBF hb18 hx16
                    obtain ⟨a71, ha71, hx16⟩ := bind_some hx16
                    rcases Bool.eq_false_or_eq_true (!(decide (a71 = player))) with hb19 | hb19
                    · replace hx16 := iteBT hb19 hx16
                      obtain ⟨a78, ha78, hx16⟩ := bind_some hx16
                      refine AWP.region ?_
                      refine W.fieldAddr rfl rfl rfl rfl ?_
                      refine AOps.load rfl rfl rfl rfl rfl rfl ?_
                      refine AOps.move rfl rfl ?_
                      refine S.idx ha58 rfl rfl rfl rfl ?_
                      refine AOps.loadI rfl rfl rfl rfl ?_
                      refine AOps.move rfl rfl ?_
                      refine AOps.eql rfl rfl rfl ?_
                      refine AOps.move rfl rfl ?_
                      refine AOps.guardT rfl rfl rfl hb17 ?_; refine AOps.move rfl rfl ?_
                      refine AOps.guardT rfl rfl rfl hb17 ?_; refine AOps.load rfl rfl rfl rfl rfl rfl ?_
                      refine AOps.guardT rfl rfl rfl hb17 ?_; refine AOps.callL rfl rfl (.cons (.c .imm) (.cons (.c (.fn (.cons (.ptr (es := [.sl 1 (List.map intI c8)]) rfl rfl (.cons (.own rfl rfl) .nil)) (.cons (.ptr (es := [.val (.int .i64 c7)]) rfl rfl (.cons .imm .nil)) .nil)))) .nil)) rfl (slices_ContainsFunc_int_int_ok rfl (fun hy => games_attract_1_ok hy) ha65) rfl ?_
                      refine AOps.pickT rfl hb17 rfl rfl ?_
                      refine AOps.move rfl rfl ?_
                      refine AOps.guardT rfl rfl rfl hb18 ?_; refine W.fieldAddr rfl rfl rfl rfl ?_
                      refine AOps.guardT rfl rfl rfl hb18 ?_; refine AOps.load rfl rfl rfl rfl rfl rfl ?_
                      refine AOps.guardT rfl rfl rfl hb18 ?_; refine AOps.move rfl rfl ?_
                      refine AOps.guardT rfl rfl rfl hb18 ?_; refine S.idx ha71 rfl rfl rfl rfl ?_
                      refine AOps.guardT rfl rfl rfl hb18 ?_; refine AOps.loadI rfl rfl rfl rfl ?_
                      refine AOps.guardT rfl rfl rfl hb18 ?_; refine AOps.move rfl rfl ?_
                      refine AOps.guardT rfl rfl rfl hb18 ?_; refine AOps.neq rfl rfl rfl ?_
                      refine AOps.guardT rfl rfl rfl hb18 ?_; refine AOps.move rfl rfl ?_
                      refine AOps.guardT rfl rfl rfl hb19 ?_; refine AOps.move rfl rfl ?_
                      refine AOps.guardT rfl rfl rfl hb19 ?_; refine AOps.move rfl rfl ?_
                      refine AOps.guardT rfl rfl rfl hb19 ?_; refine AOps.callL rfl rfl (.cons (.c .imm) (.cons (.c (.fn (.cons (.ptr (es := [.fn 32 [.ipt [.sl 1 (List.map intI c8)], .ipt [.val (.int .i64 c7)]]]) rfl rfl (.cons (.fnI (.cons (.ptr (es := [.sl 1 (List.map intI c8)]) rfl rfl (.cons (.own rfl rfl) .nil)) (.cons (.ptr (es := [.val (.int .i64 c7)]) rfl rfl (.cons .imm .nil)) .nil))) .nil)) .nil))) .nil)) rfl (slices_ContainsFunc_int_int_ok rfl (fun hy => games_attract_2_ok (fun hy => games_attract_1_ok hy) hy) ha78) rfl ?_
                      refine AOps.guardT rfl rfl rfl hb19 ?_; refine AOps.not rfl rfl ?_
                      refine AOps.guardT rfl rfl rfl hb18 ?_; refine AOps.pickT rfl hb19 rfl rfl ?_
                      refine AOps.pickF rfl hb18 rfl rfl ?_
                      refine AOps.nil ?_
                      have ej := Option.some.inj hx16
                      subst ej
                      refine thn_normal ?_
                      exact Sub.env ⟨rfl, rfl, rfl, rfl, rfl, rfl, rfl, rfl, rfl, rfl, rfl, rfl, rfl, trivial⟩
                    · replace hx16 := iteBF hb19 hx16
                      refine AWP.region ?_
                      refine W.fieldAddr rfl rfl rfl rfl ?_
                      refine AOps.load rfl rfl rfl rfl rfl rfl ?_
                      refine AOps.move rfl rfl ?_
                      refine S.idx ha58 rfl rfl rfl rfl ?_
                      refine AOps.loadI rfl rfl rfl rfl ?_
                      refine AOps.move rfl rfl ?_
                      refine AOps.eql rfl rfl rfl ?_
                      refine AOps.move rfl rfl ?_
                      refine AOps.guardT rfl rfl rfl hb17 ?_; refine AOps.move rfl rfl ?_
                      refine AOps.guardT rfl rfl rfl hb17 ?_; refine AOps.load rfl rfl rfl rfl rfl rfl ?_
                      refine AOps.guardT rfl rfl rfl hb17 ?_; refine AOps.callL rfl rfl (.cons (.c .imm) (.cons (.c (.fn (.cons (.ptr (es := [.sl 1 (List.map intI c8)]) rfl rfl (.cons (.own rfl rfl) .nil)) (.cons (.ptr (es := [.val (.int .i64 c7)]) rfl rfl (.cons .imm .nil)) .nil)))) .nil)) rfl (slices_ContainsFunc_int_int_ok rfl (fun hy => games_attract_1_ok hy) ha65) rfl ?_
                      refine AOps.pickT rfl hb17 rfl rfl ?_
                      refine AOps.move rfl rfl ?_
                      refine AOps.guardT rfl rfl rfl hb18 ?_; refine W.fieldAddr rfl rfl rfl rfl ?_
                      refine AOps.guardT rfl rfl rfl hb18 ?_; refine AOps.load rfl rfl rfl rfl rfl rfl ?_
                      refine AOps.guardT rfl rfl rfl hb18 ?_; refine AOps.move rfl rfl ?_
                      refine AOps.guardT rfl rfl rfl hb18 ?_; refine S.idx ha71 rfl rfl rfl rfl ?_
                      refine AOps.guardT rfl rfl rfl hb18 ?_; refine AOps.loadI rfl rfl rfl rfl ?_
                      refine AOps.guardT rfl rfl rfl hb18 ?_; refine AOps.move rfl rfl ?_
                      refine AOps.guardT rfl rfl rfl hb18 ?_; refine AOps.neq rfl rfl rfl ?_
                      refine AOps.guardT rfl rfl rfl hb18 ?_; refine AOps.move rfl rfl ?_
                      refine AOps.guardF rfl rfl rfl hb19 ?_
                      refine AOps.guardF rfl rfl rfl hb19 ?_
                      refine AOps.guardF rfl rfl rfl hb19 ?_
                      refine AOps.guardF rfl rfl rfl hb19 ?_
                      refine AOps.guardT rfl rfl rfl hb18 ?_; refine AOps.pickF rfl hb19 rfl rfl ?_
                      refine AOps.pickF rfl hb18 rfl rfl ?_
                      refine AOps.nil ?_
                      have ej := Option.some.inj hx16
                      subst ej
                      refine thn_normal ?_
                      exact Sub.env ⟨rfl, rfl, rfl, rfl, rfl, rfl, rfl, rfl, rfl, rfl, rfl, rfl, rfl, trivial⟩
                · replace hx16 := iteDF hb17 hx16
                  obtain ⟨a71, ha71, hx16⟩ := bind_some hx16
                  rcases Bool.eq_false_or_eq_true (!(decide (a71 = player))) with hb20 | hb20
                  · replace hx16 := iteBT hb20 hx16
                    obtain ⟨a78, ha78, hx16⟩ := bind_some hx16
                    refine AWP.region ?_
                    refine W.fieldAddr rfl rfl rfl rfl ?_
                    refine AOps.load rfl rfl rfl rfl rfl rfl ?_
                    refine AOps.move rfl rfl ?_
                    refine S.idx ha58 rfl rfl rfl rfl ?_
                    refine AOps.loadI rfl rfl rfl rfl ?_
                    refine AOps.move rfl rfl ?_
                    refine AOps.eql rfl rfl rfl ?_
                    refine AOps.move rfl rfl ?_
                    refine AOps.guardF rfl rfl rfl hb17 ?_
                    refine AOps.guardF rfl rfl rfl hb17 ?_
                    refine AOps.guardF rfl rfl rfl hb17 ?_
                    refine AOps.pickF rfl hb17 rfl rfl ?_
                    refine AOps.move rfl rfl ?_
                    refine AOps.guardT rfl rfl rfl rfl ?_; refine W.fieldAddr rfl rfl rfl rfl ?_
                    refine AOps.guardT rfl rfl rfl rfl ?_; refine AOps.load rfl rfl rfl rfl rfl rfl ?_
                    refine AOps.guardT rfl rfl rfl rfl ?_; refine AOps.move rfl rfl ?_
                    refine AOps.guardT rfl rfl rfl rfl ?_; refine S.idx ha71 rfl rfl rfl rfl ?_
                    refine AOps.guardT rfl rfl rfl rfl ?_; refine AOps.loadI rfl rfl rfl rfl ?_
                    refine AOps.guardT rfl rfl rfl rfl ?_; refine AOps.move rfl rfl ?_
                    refine AOps.guardT rfl rfl rfl rfl ?_; refine AOps.neq rfl rfl rfl ?_
                    refine AOps.guardT rfl rfl rfl rfl ?_; refine AOps.move rfl rfl ?_
                    refine AOps.guardT rfl rfl rfl hb20 ?_; refine AOps.move rfl rfl ?_
                    refine AOps.guardT rfl rfl rfl hb20 ?_; refine AOps.move rfl rfl ?_
                    refine AOps.guardT rfl rfl rfl hb20 ?_; refine AOps.callL rfl rfl (.cons (.c .imm) (.cons (.c (.fn (.cons (.ptr (es := [.fn 32 [.ipt [.sl 1 (List.map intI c8)], .ipt [.val (.int .i64 c7)]]]) rfl rfl (.cons (.fnI (.cons (.ptr (es := [.sl 1 (List.map intI c8)]) rfl rfl (.cons (.own rfl rfl) .nil)) (.cons (.ptr (es := [.val (.int .i64 c7)]) rfl rfl (.cons .imm .nil)) .nil))) .nil)) .nil))) .nil)) rfl (slices_ContainsFunc_int_int_ok rfl (fun hy => games_attract_2_ok (fun hy => games_attract_1_ok hy) hy) ha78) rfl ?_
                    refine AOps.guardT rfl rfl rfl hb20 ?_; refine AOps.not rfl rfl ?_
                    refine AOps.guardT rfl rfl rfl rfl ?_; refine AOps.pickT rfl hb20 rfl rfl ?_
                    refine AOps.pickF rfl rfl rfl rfl ?_
                    refine AOps.nil ?_
                    have ej := Option.some.inj hx16
                    subst ej
                    refine thn_normal ?_
                    exact Sub.env ⟨rfl, rfl, rfl, rfl, rfl, rfl, rfl, rfl, rfl, rfl, rfl, rfl, rfl, trivial⟩
                  · replace hx16 := iteBF hb20 hx16
                    refine AWP.region ?_
                    refine W.fieldAddr rfl rfl rfl rfl ?_
                    refine AOps.load rfl rfl rfl rfl rfl rfl ?_
                    refine AOps.move rfl rfl ?_
                    refine S.idx ha58 rfl rfl rfl rfl ?_
                    refine AOps.loadI rfl rfl rfl rfl ?_
                    refine AOps.move rfl rfl ?_
                    refine AOps.eql rfl rfl rfl ?_
                    refine AOps.move rfl rfl ?_
                    refine AOps.guardF rfl rfl rfl hb17 ?_
                    refine AOps.guardF rfl rfl rfl hb17 ?_
                    refine AOps.guardF rfl rfl rfl hb17 ?_
                    refine AOps.pickF rfl hb17 rfl rfl ?_
                    refine AOps.move rfl rfl ?_
                    refine AOps.guardT rfl rfl rfl rfl ?_; refine W.fieldAddr rfl rfl rfl rfl ?_
                    refine AOps.guardT rfl rfl rfl rfl ?_; refine AOps.load rfl rfl rfl rfl rfl rfl ?_
                    refine AOps.guardT rfl rfl rfl rfl ?_; refine AOps.move rfl rfl ?_
                    refine AOps.guardT rfl rfl rfl rfl ?_; refine S.idx ha71 rfl rfl rfl rfl ?_
                    refine AOps.guardT rfl rfl rfl rfl ?_; refine AOps.loadI rfl rfl rfl rfl ?_
                    refine AOps.guardT rfl rfl rfl rfl ?_; refine AOps.move rfl rfl ?_
                    refine AOps.guardT rfl rfl rfl rfl ?_; refine AOps.neq rfl rfl rfl ?_
                    refine AOps.guardT rfl rfl rfl rfl ?_; refine AOps.move rfl rfl ?_
                    refine AOps.guardF rfl rfl rfl hb20 ?_
                    refine AOps.guardF rfl rfl rfl hb20 ?_
                    refine AOps.guardF rfl rfl rfl hb20 ?_
                    refine AOps.guardF rfl rfl rfl hb20 ?_
                    refine AOps.guardT rfl rfl rfl rfl ?_; refine AOps.pickF rfl hb20 rfl rfl ?_
                    refine AOps.pickF rfl rfl rfl rfl ?_
                    refine AOps.nil ?_
                    have ej := Option.some.inj hx16
                    subst ej
                    refine thn_normal ?_
                    exact Sub.env ⟨rfl, rfl, rfl, rfl, rfl, rfl, rfl, rfl, rfl, rfl, rfl, rfl, rfl, trivial⟩
              · refine AWP.iteB rfl hx13 (fun hc21 hx13 => ?_) (fun hc21 hx13 => ?_)
                · refine AWP.seq ?_
                  obtain ⟨a85, ha85, hx13⟩ := bind_some hx13
                  refine AWP.region ?_
                  refine AOps.load rfl rfl rfl rfl rfl rfl ?_
                  refine AOps.move rfl rfl ?_
                  refine AOps.load rfl rfl rfl rfl rfl rfl ?_
                  refine S.idxO ha85 rfl rfl rfl rfl rfl ?_
                  refine S.storeO1 (f := intI) (a' := c7) (ix_lt ha85) (fun _ => ⟨_, rfl⟩) rfl rfl rfl rfl rfl ?_
                  refine AOps.nil ?_
                  refine thn_normal ?_
                  refine AWP.region ?_
                  refine AOps.assign rfl rfl ?_
                  refine AOps.nil ?_
                  refine inB_normal ?_
                  have ej := Option.some.inj hx13
                  simp only [Prod.mk.injEq] at ej
                  obtain ⟨ej0, ej1⟩ := ej
                  subst ej0
                  subst ej1
                  refine thn_normal ?_
                  exact Sub.cut ⟨rfl, rfl, rfl, rfl, rfl, rfl, rfl, rfl, rfl, rfl, rfl, trivial⟩ rfl ⟨.one rfl, .dead, .vec, (.eq rfl (by simp only [List.length_set])), .vec, .one rfl, .one rfl, trivial⟩ rfl
                · refine AWP.skip ?_
                  refine inB_normal ?_
                  have ej := Option.some.inj hx13
                  simp only [Prod.mk.injEq] at ej
                  obtain ⟨ej0, ej1⟩ := ej
                  subst ej0
                  subst ej1
                  refine thn_normal ?_
                  exact Sub.env ⟨rfl, rfl, rfl, rfl, rfl, rfl, rfl, rfl, rfl, rfl, rfl, trivial⟩
        · try dsimp only at h
          refine AWP.region ?_
          refine AOps.add rfl rfl rfl (by omega) ?_
          refine AOps.move rfl rfl ?_
          refine AOps.nil ?_
          have ej := Option.some.inj h
          subst ej
          refine thn_normal ?_
          exact Sub.env ⟨rfl, rfl, rfl, rfl, rfl, rfl, rfl, rfl, rfl, rfl, rfl, trivial⟩
      · intro e s hq
        obtain ⟨rfl, hs⟩ := hq
        refine ⟨_, hs, ?_⟩
        refine inB_exit ?_
        refine thn_normal ?_
        refine AWP.seq ?_
        refine AWP.region ?_
        refine AOps.move rfl rfl ?_
        refine AOps.not rfl rfl ?_
        refine AOps.nil ?_
        refine thn_normal ?_
        refine AWP.iteB rfl h (fun hc22 h => ?_) (fun hc22 h => ?_)
        · refine AWP.seq ?_
          refine AWP.region ?_
          refine AOps.load rfl rfl rfl rfl rfl rfl ?_
          refine AOps.assign rfl rfl ?_
          refine AOps.nil ?_
          refine thn_normal ?_
          refine AWP.ret ?_
          refine inB_ret ?_
          refine thn_ret ?_
          have ej := Option.some.inj h
          subst ej
          refine thn_ret ⟨_, rfl, rfl, ?_⟩
          exact Done.ret rfl (Fresh.mk rfl rfl)
        · refine AWP.skip ?_
          refine inB_normal ?_
          refine thn_normal ?_
          refine AWP.seq ?_
          refine AWP.seq ?_
          refine AWP.region ?_
          refine AOps.load rfl rfl rfl rfl rfl rfl ?_
          refine AOps.nil ?_
          refine thn_normal ?_
          refine AWP.region ?_
          refine W.alloc rfl rfl rfl rfl ?_
          refine W.store rfl rfl rfl rfl rfl ?_
          refine AOps.nil ?_
          refine thn_normal ?_
          refine AWP.region ?_
          refine AOps.load rfl rfl rfl rfl rfl rfl ?_
          refine S.add rfl rfl rfl ?_
          refine W.store rfl rfl rfl rfl rfl ?_
          refine AOps.nil ?_
          have ej := Option.some.inj h
          subst ej
          refine thn_normal ⟨_, rfl, ?_⟩
          exact (Sub.move (env' := [(1, .c (int player)), (3, .c (.ptr 0 0 0)), (7, .c (.ptr 3 0 0)), (10, .c (.own 4 0 a33.length)), (11, .c (.ptr 5 0 0))]) (σ' := [.one (.cells 2 [[row 1 intI gv.owner, row 2 eA2i64 gv.arcs]]), .dead, .one (vec 1 intI c8), .one (.cells 1 [[.own 2 0 c8.length]]), .one (vec 1 eLi64 a33), .one (.cells 1 [[int (w64 (c7 + 1))]]), .dead]) 5 7 rfl rfl rfl ⟨rfl, rfl, rfl, rfl, rfl, trivial⟩ rfl ⟨⟨rfl, rfl⟩, trivial, ⟨Blk.im_ok _ _ _, vec_mv rfl⟩, ⟨rfl, rfl⟩, ⟨Blk.im_ok _ _ _, vec_mv rfl⟩, ⟨rfl, rfl⟩, trivial, trivial⟩).trans (Sub.cut ⟨rfl, rfl, rfl, rfl, rfl, trivial⟩ rfl ⟨.one rfl, .dead, .vec, .one rfl, .vec, .one rfl, trivial⟩ rfl)
    · intro e s hq
      obtain ⟨rfl, hs⟩ := hq
      refine ⟨_, Sub.refl _ _, ?_⟩
      refine inB_ret ?_
      have ej := Option.some.inj h
      subst ej
      exact hs

noncomputable def games_Attractor (gv : TGame) (player : Int) (targets : List Int) : Option ((List Int) × TFault) := Option.bind (games_check gv player targets) fun a12 => if (!((decide (a12.code = 0)) && (decide (a12.index = 0)))) = true then some ([], a12) else Option.bind (games_attract gv player targets) fun a20 => some (a20, (⟨0, 0⟩ : TFault))
theorem games_Attractor_ok {gv : TGame} {player : Int} {targets : List Int} {r : (List Int) × TFault} (h : games_Attractor gv player targets = some r) : PureOk Try.prog 9 [.agg [row 1 intI gv.owner, row 2 eA2i64 gv.arcs], .c (int player), .c (row 1 intI targets)] (.tup [.c (row 1 intI r.1), .agg [int r.2.code, int r.2.index]]) := by
  unfold PureOk
  refine FnOk.enter (rs := [.t 6, .cell 7 27 2]) Try.func9 rfl Try.ntmps9 Try.results9 rfl ⟨trivial, rv _ rfl, trivial⟩ (by kernel_rfl) rfl ?_
  unfold games_Attractor at h
  refine AWP.seq ?_
  refine AWP.region ?_
  refine W.box rfl rfl rfl rfl rfl rfl ?_
  refine AOps.assign rfl rfl ?_
  refine W.alloc rfl rfl rfl rfl ?_
  refine AOps.nil ?_
  refine thn_normal ?_
  refine AWP.seq ?_
  refine AWP.seq ?_
  obtain ⟨a12, ha12, h⟩ := bind_some h
  refine AWP.region ?_
  refine W.loadAgg rfl rfl rfl rfl rfl rfl rfl ?_
  refine AOps.move rfl rfl ?_
  refine AOps.move rfl rfl ?_
  refine AOps.callR rfl rfl rfl rfl (games_check_ok ha12) rfl ?_
  refine W.alloc rfl rfl rfl rfl ?_
  refine W.storeAgg rfl rfl rfl rfl rfl rfl rfl ?_
  refine AOps.nil ?_
  refine thn_normal ?_
  refine AWP.seq ?_
  refine AWP.region ?_
  refine W.loadAgg rfl rfl rfl rfl rfl rfl rfl ?_
  refine W.build rfl rfl rfl rfl ?_
  refine AOps.neqP rfl rfl rfl rfl rfl rfl rfl ?_
  refine AOps.nil ?_
  refine thn_normal ?_
  refine AWP.iteB rfl h (fun hc4 h => ?_) (fun hc4 h => ?_)
  · refine AWP.seq ?_
    refine AWP.drawEI [2] mixed rfl rfl rfl ?_
    apply DrawSeqE.consN; exact rfl; exact rfl; intro E
    refine W.loadAgg rfl rfl rfl rfl rfl rfl rfl ?_
    exact AOps.nil ⟨rfl, rfl⟩
    exact rfl
    apply DrawSeqE.consN; exact rfl; exact rfl; intro E
    refine AOps.assign rfl rfl ?_
    exact AOps.nil ⟨rfl, rfl⟩
    exact rfl
    apply DrawSeqE.consE (v := .undef); exact rfl; exact rfl; intro E
    refine W.storeAgg rfl rfl rfl rfl rfl rfl rfl ?_
    exact AOps.nil ⟨rfl, rfl⟩
    exact rfl
    exact rfl
    refine DrawSeqE.done rfl ?_ ?_
    · apply RestI.cons; exact rfl; exact rfl
      first | refine RestK.skip rfl ?_ | (apply RestK.go; exact rfl; exact rfl; intro E; (refine W.loadAgg rfl rfl rfl rfl rfl rfl rfl ?_); exact AOps.nil ⟨rfl, rfl⟩)
      first | refine RestK.skip rfl ?_ | (apply RestK.go; exact rfl; exact rfl; intro E; (refine W.loadAgg rfl rfl rfl rfl rfl rfl rfl ?_); exact AOps.nil ⟨rfl, rfl⟩)
      exact RestK.nil
      apply RestI.cons; exact rfl; exact rfl
      first | refine RestK.skip rfl ?_ | (apply RestK.go; exact rfl; exact rfl; intro E; (refine AOps.assign rfl rfl ?_); exact AOps.nil ⟨rfl, rfl⟩)
      first | refine RestK.skip rfl ?_ | (apply RestK.go; exact rfl; exact rfl; intro E; (refine AOps.assign rfl rfl ?_); exact AOps.nil ⟨rfl, rfl⟩)
      exact RestK.nil
      refine RestI.skip rfl ?_
      exact RestI.nil
    dsimp only [envEnd]
    refine thn_normal ?_
    refine AWP.nilrow 1 6 rfl ?_
    refine AWP.ret ?_
    refine thn_ret ?_
    have ej := Option.some.inj h
    subst ej
    exact Done.ret rfl rfl
  · refine AWP.skip ?_
    refine thn_normal ?_
    refine AWP.seq ?_
    obtain ⟨a20, ha20, h⟩ := bind_some h
    refine AWP.region ?_
    refine W.loadAgg rfl rfl rfl rfl rfl rfl rfl ?_
    refine AOps.move rfl rfl ?_
    refine AOps.move rfl rfl ?_
    refine S.fresh rfl rfl rfl rfl (games_attract_ok ha20) rfl rfl ?_
    refine W.build rfl rfl rfl rfl ?_
    refine AOps.assign rfl rfl ?_
    refine W.storeAgg rfl rfl rfl rfl rfl rfl rfl ?_
    refine AOps.nil ?_
    refine thn_normal ?_
    refine AWP.frzV (env2 := [(6, .c (row 1 intI a20)), (7, .c (.ptr 1 0 0))]) (σ2 := [.one (.cells 2 [[row 1 intI gv.owner, row 2 eA2i64 gv.arcs]]), .one (.cells 2 [[int 0, int 0]]), .one (.cells 2 [[int a12.code, int a12.index]]), .dead]) rfl rfl ⟨⟨_, rfl, .inr ⟨_, rfl, rfl, rfl⟩⟩, ⟨_, rfl, .inl ⟨rfl, rfl⟩⟩, trivial⟩ rfl ⟨⟨rfl, .inl ⟨rfl, rfl⟩, .inl ⟨rfl, rfl⟩, trivial⟩, ⟨rfl, .inl ⟨rfl, rfl⟩, .inl ⟨rfl, rfl⟩, trivial⟩, ⟨rfl, .inl ⟨rfl, rfl⟩, .inl ⟨rfl, rfl⟩, trivial⟩, trivial, trivial⟩ ?_
    refine AWP.ret ?_
    have ej := Option.some.inj h
    subst ej
    exact Done.ret rfl rfl

def ref1_Has_l1 (l : List Int) (nv : Int) : Int → Unit → Option (Unit ⊕ Bool) := fun iv3 _ => Option.bind (ix l iv3) fun a14 => if a14 = nv then some (.inr true) else some (.inl ())
def ref1_Has (l : List Int) (nv : Int) : Option Bool := (Option.bind (rngX 0 (l.length : Int) (ref1_Has_l1 l nv) ()) fun | .inl _ => some false | .inr x => some x)
theorem ref1_Has_ok {l : List Int} {nv : Int} {r : Bool} (h : ref1_Has l nv = some r) : PureOk Try.prog 20 [.c (row 1 intI l), .c (int nv)] (.c (bool r)) := by
  unfold PureOk
  refine FnOk.enter (rs := [.t 4]) Try.func20 rfl Try.ntmps20 Try.results20 rfl ⟨trivial, trivial⟩ (by kernel_rfl) rfl ?_
  unfold ref1_Has at h
  refine AWP.seq ?_
  refine AWP.region ?_
  refine AOps.assign rfl rfl ?_
  refine AOps.nil ?_
  refine thn_normal ?_
  refine AWP.seq ?_
  refine AWP.seq ?_
  refine AWP.region ?_
  refine AOps.assign rfl rfl ?_
  refine AOps.nil ?_
  refine thn_normal ?_
  refine AWP.block ?_
  obtain ⟨oo, ho1, h⟩ := bind_some h
  refine AWP.rngS ho1 (fun iv3 _ => ⟨[(0, .c (row 1 intI l)), (1, .c (int nv)), (5, .c (int iv3))], []⟩) (fun o e st => match o with | .inl _ => e = .exit 0 ∧ Sub [] st ⟨[], []⟩ | .inr x => e = .ret ∧ Done [.t 4] (fun t _ => t = .c (bool x)) .ret st) ?_ ?_ ?_ ?_
  · try dsimp only
    exact Sub.env ⟨rfl, rfl, rfl, trivial⟩
  · intro iv3 s hloiv3 hltiv3 _
    try dsimp only
    refine AWP.seq ?_
    refine AWP.seq ?_
    refine AWP.region ?_
    refine AOps.move rfl rfl ?_
    refine AOps.move rfl rfl ?_
    refine S.len rfl rfl (fun hl8 => ?_)
    refine AOps.lss rfl rfl rfl ?_
    refine AOps.nil ?_
    refine thn_normal ?_
    refine AWP.condNP rfl hltiv3 ?_
    refine AWP.exit ?_
    refine thn_exit ?_
    refine thn_exit ⟨rfl, ?_⟩
    exact Sub.env trivial
  · intro iv3 s o hloiv3 hltiv3 h
    unfold ref1_Has_l1 at h
    try dsimp only at h ⊢
    refine AWP.seq ?_
    refine AWP.seq ?_
    refine AWP.region ?_
    refine AOps.move rfl rfl ?_
    refine AOps.move rfl rfl ?_
    refine S.len rfl rfl (fun hl8 => ?_)
    refine AOps.lss rfl rfl rfl ?_
    refine AOps.nil ?_
    refine thn_normal ?_
    refine AWP.condP rfl hltiv3 ?_
    refine AWP.skip ?_
    refine thn_normal ?_
    refine AWP.seq ?_
    refine AWP.block ?_
    refine AWP.seq ?_
    obtain ⟨a14, ha14, h⟩ := bind_some h
    refine AWP.region ?_
    refine AOps.move rfl rfl ?_
    refine AOps.move rfl rfl ?_
    refine S.idx ha14 rfl rfl rfl rfl ?_
    refine AOps.loadI rfl rfl rfl rfl ?_
    refine AOps.move rfl rfl ?_
    refine AOps.eql rfl rfl rfl ?_
    refine AOps.nil ?_
    refine thn_normal ?_
    refine AWP.ite rfl h (fun hc4 h => ?_) (fun hc4 h => ?_)
    · refine AWP.seq ?_
      refine AWP.region ?_
      refine AOps.assign rfl rfl ?_
      refine AOps.nil ?_
      refine thn_normal ?_
      refine AWP.ret ?_
      refine inB_ret ?_
      refine thn_ret ?_
      have ej := Option.some.inj h
      subst ej
      refine thn_ret ⟨_, rfl, rfl, ?_⟩
      exact Done.ret rfl rfl
    · refine AWP.skip ?_
      refine inB_normal ?_
      refine thn_normal ?_
      refine AWP.region ?_
      refine AOps.move rfl rfl ?_
      refine AOps.add rfl rfl rfl (by omega) ?_
      refine AOps.assign rfl rfl ?_
      refine AOps.nil ?_
      have ej := Option.some.inj h
      subst ej
      refine thn_normal ⟨_, rfl, ?_⟩
      exact Sub.env ⟨rfl, rfl, rfl, trivial⟩
  · intro e s hq
    rcases oo with u | x
    · try dsimp only at h hq
      obtain ⟨rfl, hs⟩ := hq
      refine ⟨_, hs, ?_⟩
      refine inB_exit ?_
      refine thn_normal ?_
      refine AWP.seq ?_
      refine AWP.region ?_
      refine AOps.assign rfl rfl ?_
      refine AOps.nil ?_
      refine thn_normal ?_
      refine AWP.ret ?_
      have ej := Option.some.inj h
      subst ej
      exact Done.ret rfl rfl
    · try dsimp only at h hq
      obtain ⟨rfl, hs⟩ := hq
      refine ⟨_, Sub.refl _ _, ?_⟩
      refine inB_ret ?_
      refine thn_ret ?_
      have ej := Option.some.inj h
      subst ej
      exact hs

def ref1_Subset_l1 (part : List Int) (l : List Int) : Int → Unit → Option (Unit ⊕ Bool) := fun iv3 _ => Option.bind (ix part iv3) fun a15 => Option.bind (ref1_Has l a15) fun a17 => if (!a17) = true then some (.inr false) else some (.inl ())
def ref1_Subset (part : List Int) (l : List Int) : Option Bool := (Option.bind (rngX 0 (part.length : Int) (ref1_Subset_l1 part l) ()) fun | .inl _ => some true | .inr x => some x)
theorem ref1_Subset_ok {part : List Int} {l : List Int} {r : Bool} (h : ref1_Subset part l = some r) : PureOk Try.prog 10 [.c (row 1 intI part), .c (row 1 intI l)] (.c (bool r)) := by
  unfold PureOk
  refine FnOk.enter (rs := [.t 4]) Try.func10 rfl Try.ntmps10 Try.results10 rfl ⟨trivial, trivial⟩ (by kernel_rfl) rfl ?_
  unfold ref1_Subset at h
  refine AWP.seq ?_
  refine AWP.region ?_
  refine AOps.assign rfl rfl ?_
  refine AOps.nil ?_
  refine thn_normal ?_
  refine AWP.seq ?_
  refine AWP.seq ?_
  refine AWP.region ?_
  refine AOps.assign rfl rfl ?_
  refine AOps.nil ?_
  refine thn_normal ?_
  refine AWP.block ?_
  obtain ⟨oo, ho1, h⟩ := bind_some h
  refine AWP.rngS ho1 (fun iv3 _ => ⟨[(0, .c (row 1 intI part)), (1, .c (row 1 intI l)), (5, .c (int iv3))], []⟩) (fun o e st => match o with | .inl _ => e = .exit 0 ∧ Sub [] st ⟨[], []⟩ | .inr x => e = .ret ∧ Done [.t 4] (fun t _ => t = .c (bool x)) .ret st) ?_ ?_ ?_ ?_
  · try dsimp only
    exact Sub.env ⟨rfl, rfl, rfl, trivial⟩
  · intro iv3 s hloiv3 hltiv3 _
    try dsimp only
    refine AWP.seq ?_
    refine AWP.seq ?_
    refine AWP.region ?_
    refine AOps.move rfl rfl ?_
    refine AOps.move rfl rfl ?_
    refine S.len rfl rfl (fun hl8 => ?_)
    refine AOps.lss rfl rfl rfl ?_
    refine AOps.nil ?_
    refine thn_normal ?_
    refine AWP.condNP rfl hltiv3 ?_
    refine AWP.exit ?_
    refine thn_exit ?_
    refine thn_exit ⟨rfl, ?_⟩
    exact Sub.env trivial
  · intro iv3 s o hloiv3 hltiv3 h
    unfold ref1_Subset_l1 at h
    try dsimp only at h ⊢
    refine AWP.seq ?_
    refine AWP.seq ?_
    refine AWP.region ?_
    refine AOps.move rfl rfl ?_
    refine AOps.move rfl rfl ?_
    refine S.len rfl rfl (fun hl8 => ?_)
    refine AOps.lss rfl rfl rfl ?_
    refine AOps.nil ?_
    refine thn_normal ?_
    refine AWP.condP rfl hltiv3 ?_
    refine AWP.skip ?_
    refine thn_normal ?_
    refine AWP.seq ?_
    refine AWP.block ?_
    refine AWP.seq ?_
    obtain ⟨a15, ha15, h⟩ := bind_some h
    obtain ⟨a17, ha17, h⟩ := bind_some h
    refine AWP.region ?_
    refine AOps.move rfl rfl ?_
    refine AOps.move rfl rfl ?_
    refine AOps.move rfl rfl ?_
    refine S.idx ha15 rfl rfl rfl rfl ?_
    refine AOps.loadI rfl rfl rfl rfl ?_
    refine AOps.callR rfl rfl rfl rfl (ref1_Has_ok ha17) rfl ?_
    refine AOps.not rfl rfl ?_
    refine AOps.nil ?_
    refine thn_normal ?_
    refine AWP.iteB rfl h (fun hc4 h => ?_) (fun hc4 h => ?_)
    · refine AWP.seq ?_
      refine AWP.region ?_
      refine AOps.assign rfl rfl ?_
      refine AOps.nil ?_
      refine thn_normal ?_
      refine AWP.ret ?_
      refine inB_ret ?_
      refine thn_ret ?_
      have ej := Option.some.inj h
      subst ej
      refine thn_ret ⟨_, rfl, rfl, ?_⟩
      exact Done.ret rfl rfl
    · refine AWP.skip ?_
      refine inB_normal ?_
      refine thn_normal ?_
      refine AWP.region ?_
      refine AOps.move rfl rfl ?_
      refine AOps.add rfl rfl rfl (by omega) ?_
      refine AOps.assign rfl rfl ?_
      refine AOps.nil ?_
      have ej := Option.some.inj h
      subst ej
      refine thn_normal ⟨_, rfl, ?_⟩
      exact Sub.env ⟨rfl, rfl, rfl, trivial⟩
  · intro e s hq
    rcases oo with u | x
    · try dsimp only at h hq
      obtain ⟨rfl, hs⟩ := hq
      refine ⟨_, hs, ?_⟩
      refine inB_exit ?_
      refine thn_normal ?_
      refine AWP.seq ?_
      refine AWP.region ?_
      refine AOps.assign rfl rfl ?_
      refine AOps.nil ?_
      refine thn_normal ?_
      refine AWP.ret ?_
      have ej := Option.some.inj h
      subst ej
      exact Done.ret rfl rfl
    · try dsimp only at h hq
      obtain ⟨rfl, hs⟩ := hq
      refine ⟨_, Sub.refl _ _, ?_⟩
      refine inB_ret ?_
      refine thn_ret ?_
      have ej := Option.some.inj h
      subst ej
      exact hs

def games_Strategy_1 (q : Int) (c2 : List Int) (c3 : Int) : Option Bool := Option.bind (ix c2 q) fun a7 => Option.bind (ix c2 c3) fun a11 => some (decide (a7 = w64 (a11 - 1)))
theorem games_Strategy_1_ok {q : Int} {c2 : List Int} {c3 : Int} {r : Bool} (h : games_Strategy_1 q c2 c3 = some r) : PureOk Try.prog 29 [.c (int q), .c (.imm (.ipt [.sl 1 (List.map intI c2)])), .c (.imm (.ipt [.val (.int .i64 c3)]))] (.c (bool r)) := by
  unfold PureOk
  refine FnOk.enter (rs := [.t 4]) Try.func29 rfl Try.ntmps29 Try.results29 rfl ⟨trivial, trivial⟩ (by kernel_rfl) rfl ?_
  unfold games_Strategy_1 at h
  refine AWP.seq ?_
  refine AWP.region ?_
  refine AOps.assign rfl rfl ?_
  refine AOps.nil ?_
  refine thn_normal ?_
  refine AWP.seq ?_
  obtain ⟨a7, ha7, h⟩ := bind_some h
  obtain ⟨a11, ha11, h⟩ := bind_some h
  refine AWP.drawI mixed rfl ?_
  apply DrawSeq.consF; exact rfl; intro E
  refine AOps.loadI rfl rfl rfl rfl ?_
  exact AOps.nil ⟨rfl, rfl⟩
  exact rfl
  apply DrawSeq.consF; exact rfl; intro E
  refine AOps.move rfl rfl ?_
  exact AOps.nil ⟨rfl, rfl⟩
  exact rfl
  apply DrawSeq.consF; exact rfl; intro E
  refine S.idx ha7 rfl rfl rfl rfl ?_
  exact AOps.nil ⟨rfl, rfl⟩
  exact rfl
  apply DrawSeq.consF; exact rfl; intro E
  refine AOps.loadI rfl rfl rfl rfl ?_
  exact AOps.nil ⟨rfl, rfl⟩
  exact rfl
  apply DrawSeq.consF; exact rfl; intro E
  refine AOps.loadI rfl rfl rfl rfl ?_
  exact AOps.nil ⟨rfl, rfl⟩
  exact rfl
  apply DrawSeq.consF; exact rfl; intro E
  refine AOps.loadI rfl rfl rfl rfl ?_
  exact AOps.nil ⟨rfl, rfl⟩
  exact rfl
  apply DrawSeq.consF; exact rfl; intro E
  refine S.idx ha11 rfl rfl rfl rfl ?_
  exact AOps.nil ⟨rfl, rfl⟩
  exact rfl
  apply DrawSeq.consF; exact rfl; intro E
  refine AOps.loadI rfl rfl rfl rfl ?_
  exact AOps.nil ⟨rfl, rfl⟩
  exact rfl
  apply DrawSeq.consF; exact rfl; intro E
  refine S.sub rfl rfl rfl ?_
  exact AOps.nil ⟨rfl, rfl⟩
  exact rfl
  apply DrawSeq.consF; exact rfl; intro E
  refine AOps.eql rfl rfl rfl ?_
  exact AOps.nil ⟨rfl, rfl⟩
  exact rfl
  apply DrawSeq.consF; exact rfl; intro E
  refine AOps.assign rfl rfl ?_
  exact AOps.nil ⟨rfl, rfl⟩
  exact rfl
  refine DrawSeq.done ?_
  dsimp only [envEnd]
  refine thn_normal ?_
  refine AWP.ret ?_
  have ej := Option.some.inj h
  subst ej
  exact Done.ret rfl rfl

def games_Strategy_l1 (gv : TGame) (player : Int) (a25 : (List Int)) (a31 : (List (List Int))) : Int → (List Int) → Option (List Int) := fun t6 c5 => Option.bind (Option.bind (ix a31 t6) fun a36 => Option.bind (Option.bind (ix gv.owner t6) fun a41 => if (!(decide (a41 = player))) = true then some true else Option.bind (ix a25 t6) fun a48 => some (decide (a48 < 1))) fun t9 => if t9 = true then some c5 else Option.bind (slices_IndexFunc_int_int a36 (fun y1 => games_Strategy_1 y1 a25 t6)) fun a54 => Option.bind (ix a36 a54) fun a59 => Option.bind (ix c5 t6) fun a61 => some (c5.set t6.toNat a59)) fun c7 => some c7
noncomputable def games_Strategy (gv : TGame) (player : Int) (targets : List Int) : Option ((List Int) × TFault) := Option.bind (games_check gv player targets) fun a17 => if (!((decide (a17.code = 0)) && (decide (a17.index = 0)))) = true then some ([], a17) else Option.bind (games_attract gv player targets) fun a25 => Option.bind (slices_Repeat_int_int [-1] (a25.length : Int)) fun a29 => Option.bind (games_moves gv) fun a31 => (Option.bind (forR 0 (a31.length : Int) (games_Strategy_l1 gv player a25 a31) a29) fun c5 => some (c5, (⟨0, 0⟩ : TFault)))
theorem games_Strategy_ok {gv : TGame} {player : Int} {targets : List Int} {r : (List Int) × TFault} (h : games_Strategy gv player targets = some r) : PureOk Try.prog 12 [.agg [row 1 intI gv.owner, row 2 eA2i64 gv.arcs], .c (int player), .c (row 1 intI targets)] (.tup [.c (row 1 intI r.1), .agg [int r.2.code, int r.2.index]]) := by
  unfold PureOk
  refine FnOk.enter (rs := [.t 6, .cell 7 27 2]) Try.func12 rfl Try.ntmps12 Try.results12 rfl ⟨trivial, rv _ rfl, trivial⟩ (by kernel_rfl) rfl ?_
  unfold games_Strategy at h
  refine AWP.seq ?_
  refine AWP.region ?_
  refine W.box rfl rfl rfl rfl rfl rfl ?_
  refine AOps.assign rfl rfl ?_
  refine W.alloc rfl rfl rfl rfl ?_
  refine AOps.nil ?_
  refine thn_normal ?_
  refine AWP.seq ?_
  refine AWP.seq ?_
  obtain ⟨a17, ha17, h⟩ := bind_some h
  refine AWP.region ?_
  refine W.loadAgg rfl rfl rfl rfl rfl rfl rfl ?_
  refine AOps.move rfl rfl ?_
  refine AOps.move rfl rfl ?_
  refine AOps.callR rfl rfl rfl rfl (games_check_ok ha17) rfl ?_
  refine W.alloc rfl rfl rfl rfl ?_
  refine W.storeAgg rfl rfl rfl rfl rfl rfl rfl ?_
  refine AOps.nil ?_
  refine thn_normal ?_
  refine AWP.seq ?_
  refine AWP.region ?_
  refine W.loadAgg rfl rfl rfl rfl rfl rfl rfl ?_
  refine W.build rfl rfl rfl rfl ?_
  refine AOps.neqP rfl rfl rfl rfl rfl rfl rfl ?_
  refine AOps.nil ?_
  refine thn_normal ?_
  refine AWP.iteB rfl h (fun hc4 h => ?_) (fun hc4 h => ?_)
  · refine AWP.seq ?_
    refine AWP.drawEI [2] mixed rfl rfl rfl ?_
    apply DrawSeqE.consN; exact rfl; exact rfl; intro E
    refine W.loadAgg rfl rfl rfl rfl rfl rfl rfl ?_
    exact AOps.nil ⟨rfl, rfl⟩
    exact rfl
    apply DrawSeqE.consN; exact rfl; exact rfl; intro E
    refine AOps.assign rfl rfl ?_
    exact AOps.nil ⟨rfl, rfl⟩
    exact rfl
    apply DrawSeqE.consE (v := .undef); exact rfl; exact rfl; intro E
    refine W.storeAgg rfl rfl rfl rfl rfl rfl rfl ?_
    exact AOps.nil ⟨rfl, rfl⟩
    exact rfl
    exact rfl
    refine DrawSeqE.done rfl ?_ ?_
    · apply RestI.cons; exact rfl; exact rfl
      first | refine RestK.skip rfl ?_ | (apply RestK.go; exact rfl; exact rfl; intro E; (refine W.loadAgg rfl rfl rfl rfl rfl rfl rfl ?_); exact AOps.nil ⟨rfl, rfl⟩)
      first | refine RestK.skip rfl ?_ | (apply RestK.go; exact rfl; exact rfl; intro E; (refine W.loadAgg rfl rfl rfl rfl rfl rfl rfl ?_); exact AOps.nil ⟨rfl, rfl⟩)
      exact RestK.nil
      apply RestI.cons; exact rfl; exact rfl
      first | refine RestK.skip rfl ?_ | (apply RestK.go; exact rfl; exact rfl; intro E; (refine AOps.assign rfl rfl ?_); exact AOps.nil ⟨rfl, rfl⟩)
      first | refine RestK.skip rfl ?_ | (apply RestK.go; exact rfl; exact rfl; intro E; (refine AOps.assign rfl rfl ?_); exact AOps.nil ⟨rfl, rfl⟩)
      exact RestK.nil
      refine RestI.skip rfl ?_
      exact RestI.nil
    dsimp only [envEnd]
    refine thn_normal ?_
    refine AWP.nilrow 1 6 rfl ?_
    refine AWP.ret ?_
    refine thn_ret ?_
    have ej := Option.some.inj h
    subst ej
    exact Done.ret rfl rfl
  · refine AWP.skip ?_
    refine thn_normal ?_
    refine AWP.seq ?_
    obtain ⟨a25, ha25, h⟩ := bind_some h
    refine AWP.region ?_
    refine W.loadAgg rfl rfl rfl rfl rfl rfl rfl ?_
    refine AOps.move rfl rfl ?_
    refine AOps.move rfl rfl ?_
    refine S.fresh rfl rfl rfl rfl (games_attract_ok ha25) rfl rfl ?_
    refine W.alloc rfl rfl rfl rfl ?_
    refine W.store rfl rfl rfl rfl rfl ?_
    refine AOps.nil ?_
    refine thn_normal ?_
    refine AWP.seq ?_
    obtain ⟨a29, ha29, h⟩ := bind_some h
    refine AWP.region ?_
    refine S.lit (f := intI) (l := [-1]) (ess := [[int (-1)]]) rfl rfl rfl rfl rfl rfl rfl ⟨⟨.inl rfl, trivial⟩, trivial⟩ rfl rfl rfl ?_
    refine AOps.load rfl rfl rfl rfl rfl rfl ?_
    refine S.lenO rfl rfl rfl (fun hl28 => ?_)
    refine AOps.frzV (env2 := [(1, .c (int player)), (3, .c (.ptr 0 0 0)), (7, .c (.ptr 1 0 0)), (9, .c (.ptr 4 0 0)), (26, .c (row 1 intI [-1])), (28, .c (int (a25.length : Int)))]) (σ2 := [.one (.cells 2 [[row 1 intI gv.owner, row 2 eA2i64 gv.arcs]]), .one (.cells 2 [[int 0, int 0]]), .one (.cells 2 [[int a17.code, int a17.index]]), .one (vec 1 intI a25), .one (.cells 1 [[.own 3 0 a25.length]]), .dead]) rfl rfl ⟨⟨_, rfl, .inl ⟨rfl, rfl⟩⟩, ⟨_, rfl, .inl ⟨rfl, rfl⟩⟩, ⟨_, rfl, .inl ⟨rfl, rfl⟩⟩, ⟨_, rfl, .inl ⟨rfl, rfl⟩⟩, ⟨_, rfl, .inr ⟨_, rfl, (by simp only [List.length_set]), rfl⟩⟩, ⟨_, rfl, .inl ⟨rfl, rfl⟩⟩, trivial⟩ rfl ⟨⟨rfl, .inl ⟨rfl, rfl⟩, .inl ⟨rfl, rfl⟩, trivial⟩, ⟨rfl, .inl ⟨rfl, rfl⟩, .inl ⟨rfl, rfl⟩, trivial⟩, ⟨rfl, .inl ⟨rfl, rfl⟩, .inl ⟨rfl, rfl⟩, trivial⟩, FrzB.vec, ⟨rfl, .inl ⟨rfl, rfl⟩, trivial⟩, trivial, trivial⟩ ?_; refine S.fresh rfl rfl rfl rfl (slices_Repeat_int_int_ok ha29) rfl rfl ?_
    refine AOps.assign rfl rfl ?_
    refine AOps.nil ?_
    refine thn_normal ?_
    refine AWP.seq ?_
    refine AWP.seq ?_
    obtain ⟨a31, ha31, h⟩ := bind_some h
    refine AWP.region ?_
    refine W.loadAgg rfl rfl rfl rfl rfl rfl rfl ?_
    refine S.fresh rfl rfl rfl rfl (games_moves_ok ha31) rfl rfl ?_
    refine S.lenO rfl rfl rfl (fun hl32 => ?_)
    refine AOps.move rfl rfl ?_
    refine AOps.nil ?_
    refine thn_normal ?_
    refine AWP.block ?_
    obtain ⟨c5, ho1, h⟩ := bind_some h
    refine AWP.forS ho1 (fun t6 c5 => ⟨[(1, .c (int player)), (3, .c (.ptr 0 0 0)), (7, .c (.ptr 1 0 0)), (9, .c (.ptr 4 0 0)), (10, .c (.own 6 0 c5.length)), (31, .c (.own 7 0 a31.length)), (32, .c (int (a31.length : Int))), (33, .c (int t6))], [.one (.cells 2 [[row 1 intI gv.owner, row 2 eA2i64 gv.arcs]]), .one (.cells 2 [[int 0, int 0]]), .dead, .one (vec 1 intI a25), .one (.cells 1 [[.own 3 0 a25.length]]), .dead, .one (vec 1 intI c5), .one (vec 1 eLi64 a31)]⟩) (fun c5 e st => e = .exit 0 ∧ Sub [] st ⟨[(7, .c (.ptr 1 0 0)), (10, .c (.own 6 0 c5.length))], [.one (.cells 2 [[row 1 intI gv.owner, row 2 eA2i64 gv.arcs]]), .one (.cells 2 [[int 0, int 0]]), .dead, .one (vec 1 intI a25), .one (.cells 1 [[.own 3 0 a25.length]]), .dead, .one (vec 1 intI c5), .one (vec 1 eLi64 a31)]⟩) ?_ ?_ ?_ ?_
    · try dsimp only
      exact Sub.cut ⟨rfl, rfl, rfl, rfl, rfl, rfl, rfl, rfl, trivial⟩ rfl ⟨.one rfl, .one rfl, .dead, .vec, .one rfl, .dead, .vec, .vec, trivial⟩ rfl
    · intro t6 c5 hlot6 hltt6 _
      try dsimp only
      refine AWP.seq ?_
      refine AWP.region ?_
      refine AOps.lss rfl rfl rfl ?_
      refine AOps.nil ?_
      refine thn_normal ?_
      refine AWP.seq ?_
      refine AWP.condNP rfl hltt6 ?_
      refine AWP.exit ?_
      refine thn_exit ?_
      refine thn_exit ⟨rfl, ?_⟩
      exact Sub.env ⟨rfl, rfl, trivial⟩
    · intro t6 c5 o hlot6 hltt6 h
      unfold games_Strategy_l1 at h
      try dsimp only at h ⊢
      refine AWP.seq ?_
      refine AWP.region ?_
      refine AOps.lss rfl rfl rfl ?_
      refine AOps.nil ?_
      refine thn_normal ?_
      refine AWP.seq ?_
      refine AWP.condP rfl hltt6 ?_
      refine AWP.skip ?_
      refine thn_normal ?_
      obtain ⟨c7, hx8, h⟩ := bind_some h
      refine AWP.seqJ (⟨[(1, .c (int player)), (3, .c (.ptr 0 0 0)), (7, .c (.ptr 1 0 0)), (9, .c (.ptr 4 0 0)), (10, .c (.own 6 0 c7.length)), (31, .c (.own 7 0 a31.length)), (32, .c (int (a31.length : Int))), (33, .c (int t6))], [.one (.cells 2 [[row 1 intI gv.owner, row 2 eA2i64 gv.arcs]]), .one (.cells 2 [[int 0, int 0]]), .dead, .one (vec 1 intI a25), .one (.cells 1 [[.own 3 0 a25.length]]), .dead, .one (vec 1 intI c7), .one (vec 1 eLi64 a31)]⟩) ?_ ?_
      · refine AWP.block ?_
        refine AWP.seq ?_
        obtain ⟨a36, ha36, hx8⟩ := bind_some hx8
        refine AWP.region ?_
        refine AOps.move rfl rfl ?_
        refine S.idxO ha36 rfl rfl rfl rfl rfl ?_
        refine S.loadO ha36 rfl rfl rfl rfl rfl ?_
        refine W.alloc rfl rfl rfl rfl ?_
        refine W.store rfl rfl rfl rfl rfl ?_
        refine AOps.assign rfl rfl ?_
        refine AOps.nil ?_
        refine thn_normal ?_
        refine AWP.seq ?_
        obtain ⟨t9, hx10, hx8⟩ := bind_some hx8
        refine AWP.seqJ (⟨[(1, .c (int player)), (3, .c (.ptr 0 0 0)), (7, .c (.ptr 1 0 0)), (9, .c (.ptr 4 0 0)), (10, .c (.own 6 0 c5.length)), (11, .c (.ptr 8 0 0)), (12, .c (row 1 intI a36)), (31, .c (.own 7 0 a31.length)), (32, .c (int (a31.length : Int))), (33, .c (int t6)), (51, .c (bool t9))], [.one (.cells 2 [[row 1 intI gv.owner, row 2 eA2i64 gv.arcs]]), .one (.cells 2 [[int 0, int 0]]), .dead, .one (vec 1 intI a25), .one (.cells 1 [[.own 3 0 a25.length]]), .dead, .one (vec 1 intI c5), .one (vec 1 eLi64 a31), .one (.cells 1 [[int t6]])]⟩) ?_ ?_
        · obtain ⟨a41, ha41, hx10⟩ := bind_some hx10
          rcases Bool.eq_false_or_eq_true (!(decide (a41 = player))) with hb11 | hb11
          · replace hx10 := iteBT hb11 hx10
            refine AWP.region ?_
            refine W.fieldAddr rfl rfl rfl rfl ?_
            refine AOps.load rfl rfl rfl rfl rfl rfl ?_
            refine AOps.load rfl rfl rfl rfl rfl rfl ?_
            refine S.idx ha41 rfl rfl rfl rfl ?_
            refine AOps.loadI rfl rfl rfl rfl ?_
            refine AOps.move rfl rfl ?_
            refine AOps.neq rfl rfl rfl ?_
            refine AOps.move rfl rfl ?_
            refine AOps.guardF rfl rfl rfl hb11 ?_
            refine AOps.guardF rfl rfl rfl hb11 ?_
            refine AOps.guardF rfl rfl rfl hb11 ?_
            refine AOps.guardF rfl rfl rfl hb11 ?_
            refine AOps.guardF rfl rfl rfl hb11 ?_
            refine AOps.pickT rfl hb11 rfl rfl ?_
            refine AOps.nil ?_
            have ej := Option.some.inj hx10
            subst ej
            refine thn_normal ?_
            exact Sub.env ⟨rfl, rfl, rfl, rfl, rfl, rfl, rfl, rfl, rfl, rfl, rfl, trivial⟩
          · replace hx10 := iteBF hb11 hx10
            obtain ⟨a48, ha48, hx10⟩ := bind_some hx10
            refine AWP.region ?_
            refine W.fieldAddr rfl rfl rfl rfl ?_
            refine AOps.load rfl rfl rfl rfl rfl rfl ?_
            refine AOps.load rfl rfl rfl rfl rfl rfl ?_
            refine S.idx ha41 rfl rfl rfl rfl ?_
            refine AOps.loadI rfl rfl rfl rfl ?_
            refine AOps.move rfl rfl ?_
            refine AOps.neq rfl rfl rfl ?_
            refine AOps.move rfl rfl ?_
            refine AOps.guardT rfl rfl rfl hb11 ?_; refine AOps.load rfl rfl rfl rfl rfl rfl ?_
            refine AOps.guardT rfl rfl rfl hb11 ?_; refine AOps.load rfl rfl rfl rfl rfl rfl ?_
            refine AOps.guardT rfl rfl rfl hb11 ?_; refine S.idxO ha48 rfl rfl rfl rfl rfl ?_
            refine AOps.guardT rfl rfl rfl hb11 ?_; refine S.loadO ha48 rfl rfl rfl rfl rfl ?_
            refine AOps.guardT rfl rfl rfl hb11 ?_; refine AOps.lss rfl rfl rfl ?_
            refine AOps.pickF rfl hb11 rfl rfl ?_
            refine AOps.nil ?_
            have ej := Option.some.inj hx10
            subst ej
            refine thn_normal ?_
            exact Sub.env ⟨rfl, rfl, rfl, rfl, rfl, rfl, rfl, rfl, rfl, rfl, rfl, trivial⟩
        · refine AWP.iteB rfl hx8 (fun hc12 hx8 => ?_) (fun hc12 hx8 => ?_)
          · refine AWP.exit ?_
            refine thn_exit ?_
            refine inB_exit ?_
            have ej := Option.some.inj hx8
            subst ej
            refine thn_normal ?_
            exact Sub.cut ⟨rfl, rfl, rfl, rfl, rfl, rfl, rfl, rfl, trivial⟩ rfl ⟨.one rfl, .one rfl, .dead, .vec, .one rfl, .dead, .vec, .vec, trivial⟩ rfl
          · refine AWP.skip ?_
            refine thn_normal ?_
            refine AWP.seq ?_
            obtain ⟨a54, ha54, hx8⟩ := bind_some hx8
            refine AWP.region ?_
            refine AOps.move rfl rfl ?_
            refine AOps.makeFunc rfl rfl ?_
            refine AOps.callL rfl rfl (.cons (.c .imm) (.cons (.c (.fn (.cons (.ptr (es := [.sl 1 (List.map intI a25)]) rfl rfl (.cons (.own rfl rfl) .nil)) (.cons (.ptr (es := [.val (.int .i64 t6)]) rfl rfl (.cons .imm .nil)) .nil)))) .nil)) rfl (slices_IndexFunc_int_int_ok rfl (fun hy => games_Strategy_1_ok hy) ha54) rfl ?_
            refine AOps.assign rfl rfl ?_
            refine AOps.nil ?_
            refine thn_normal ?_
            obtain ⟨a59, ha59, hx8⟩ := bind_some hx8
            obtain ⟨a61, ha61, hx8⟩ := bind_some hx8
            refine AWP.drawEI [7] mixed rfl rfl rfl ?_
            apply DrawSeqE.consN; exact rfl; exact rfl; intro E
            refine AOps.move rfl rfl ?_
            exact AOps.nil ⟨rfl, rfl⟩
            exact rfl
            apply DrawSeqE.consN; exact rfl; exact rfl; intro E
            refine AOps.load rfl rfl rfl rfl rfl rfl ?_
            exact AOps.nil ⟨rfl, rfl⟩
            exact rfl
            apply DrawSeqE.consN; exact rfl; exact rfl; intro E
            refine AOps.move rfl rfl ?_
            exact AOps.nil ⟨rfl, rfl⟩
            exact rfl
            apply DrawSeqE.consN; exact rfl; exact rfl; intro E
            refine AOps.move rfl rfl ?_
            exact AOps.nil ⟨rfl, rfl⟩
            exact rfl
            apply DrawSeqE.consN; exact rfl; exact rfl; intro E
            refine S.idx ha59 rfl rfl rfl rfl ?_
            exact AOps.nil ⟨rfl, rfl⟩
            exact rfl
            apply DrawSeqE.consN; exact rfl; exact rfl; intro E
            refine AOps.loadI rfl rfl rfl rfl ?_
            exact AOps.nil ⟨rfl, rfl⟩
            exact rfl
            apply DrawSeqE.consN; exact rfl; exact rfl; intro E
            refine S.idxO ha61 rfl rfl rfl rfl rfl ?_
            exact AOps.nil ⟨rfl, rfl⟩
            exact rfl
            apply DrawSeqE.consE (v := .undef); exact rfl; exact rfl; intro E
            refine S.storeO1 (f := intI) (a' := a59) (ix_lt ha61) (fun _ => ⟨_, rfl⟩) rfl rfl rfl rfl rfl ?_
            exact AOps.nil ⟨rfl, rfl⟩
            exact rfl
            exact rfl
            refine DrawSeqE.done rfl ?_ ?_
            · apply RestI.cons; exact rfl; exact rfl
              first | refine RestK.skip rfl ?_ | (apply RestK.go; exact rfl; exact rfl; intro E; (refine AOps.move rfl rfl ?_); exact AOps.nil ⟨rfl, rfl⟩)
              first | refine RestK.skip rfl ?_ | (apply RestK.go; exact rfl; exact rfl; intro E; (refine AOps.move rfl rfl ?_); exact AOps.nil ⟨rfl, rfl⟩)
              exact RestK.nil
              apply RestI.cons; exact rfl; exact rfl
              first | refine RestK.skip rfl ?_ | (apply RestK.go; exact rfl; exact rfl; intro E; (refine AOps.load rfl rfl rfl rfl rfl rfl ?_); exact AOps.nil ⟨rfl, rfl⟩)
              first | refine RestK.skip rfl ?_ | (apply RestK.go; exact rfl; exact rfl; intro E; (refine AOps.load rfl rfl rfl rfl rfl rfl ?_); exact AOps.nil ⟨rfl, rfl⟩)
              exact RestK.nil
              apply RestI.cons; exact rfl; exact rfl
              first | refine RestK.skip rfl ?_ | (apply RestK.go; exact rfl; exact rfl; intro E; (refine AOps.move rfl rfl ?_); exact AOps.nil ⟨rfl, rfl⟩)
              first | refine RestK.skip rfl ?_ | (apply RestK.go; exact rfl; exact rfl; intro E; (refine AOps.move rfl rfl ?_); exact AOps.nil ⟨rfl, rfl⟩)
              exact RestK.nil
              apply RestI.cons; exact rfl; exact rfl
              first | refine RestK.skip rfl ?_ | (apply RestK.go; exact rfl; exact rfl; intro E; (refine AOps.move rfl rfl ?_); exact AOps.nil ⟨rfl, rfl⟩)
              first | refine RestK.skip rfl ?_ | (apply RestK.go; exact rfl; exact rfl; intro E; (refine AOps.move rfl rfl ?_); exact AOps.nil ⟨rfl, rfl⟩)
              exact RestK.nil
              apply RestI.cons; exact rfl; exact rfl
              first | refine RestK.skip rfl ?_ | (apply RestK.go; exact rfl; exact rfl; intro E; (refine S.idx ha59 rfl rfl rfl rfl ?_); exact AOps.nil ⟨rfl, rfl⟩)
              first | refine RestK.skip rfl ?_ | (apply RestK.go; exact rfl; exact rfl; intro E; (refine S.idx ha59 rfl rfl rfl rfl ?_); exact AOps.nil ⟨rfl, rfl⟩)
              exact RestK.nil
              apply RestI.cons; exact rfl; exact rfl
              first | refine RestK.skip rfl ?_ | (apply RestK.go; exact rfl; exact rfl; intro E; (refine AOps.loadI rfl rfl rfl rfl ?_); exact AOps.nil ⟨rfl, rfl⟩)
              first | refine RestK.skip rfl ?_ | (apply RestK.go; exact rfl; exact rfl; intro E; (refine AOps.loadI rfl rfl rfl rfl ?_); exact AOps.nil ⟨rfl, rfl⟩)
              exact RestK.nil
              apply RestI.cons; exact rfl; exact rfl
              first | refine RestK.skip rfl ?_ | (apply RestK.go; exact rfl; exact rfl; intro E; (refine S.idxO ha61 rfl rfl rfl rfl rfl ?_); exact AOps.nil ⟨rfl, rfl⟩)
              first | refine RestK.skip rfl ?_ | (apply RestK.go; exact rfl; exact rfl; intro E; (refine S.idxO ha61 rfl rfl rfl rfl rfl ?_); exact AOps.nil ⟨rfl, rfl⟩)
              exact RestK.nil
              refine RestI.skip rfl ?_
              exact RestI.nil
            dsimp only [envEnd]
            refine inB_normal ?_
            have ej := Option.some.inj hx8
            subst ej
            refine thn_normal ?_
            exact Sub.cut ⟨rfl, rfl, rfl, rfl, (own_len (by first | rfl | simp only [List.length_set])), rfl, rfl, rfl, trivial⟩ rfl ⟨.one rfl, .one rfl, .dead, .vec, .one rfl, .dead, .vec, .vec, trivial⟩ rfl
      · refine AWP.region ?_
        refine AOps.add rfl rfl rfl (by omega) ?_
        refine AOps.move rfl rfl ?_
        refine AOps.nil ?_
        have ej := Option.some.inj h
        subst ej
        refine thn_normal ?_
        exact Sub.env ⟨rfl, rfl, rfl, rfl, rfl, rfl, rfl, rfl, trivial⟩
    · intro e s hq
      obtain ⟨rfl, hs⟩ := hq
      refine ⟨_, hs, ?_⟩
      refine inB_exit ?_
      refine thn_normal ?_
      refine AWP.seq ?_
      refine AWP.region ?_
      refine AOps.move rfl rfl ?_
      refine W.build rfl rfl rfl rfl ?_
      refine AOps.assign rfl rfl ?_
      refine W.storeAgg rfl rfl rfl rfl rfl rfl rfl ?_
      refine AOps.nil ?_
      refine thn_normal ?_
      refine AWP.frzV (env2 := [(6, .c (row 1 intI c5)), (7, .c (.ptr 1 0 0))]) (σ2 := [.one (.cells 2 [[row 1 intI gv.owner, row 2 eA2i64 gv.arcs]]), .one (.cells 2 [[int 0, int 0]]), .dead, .one (vec 1 intI a25), .one (.cells 1 [[.own 3 0 a25.length]]), .dead, .dead, .one (vec 1 eLi64 a31)]) rfl rfl ⟨⟨_, rfl, .inr ⟨_, rfl, rfl, rfl⟩⟩, ⟨_, rfl, .inl ⟨rfl, rfl⟩⟩, trivial⟩ rfl ⟨⟨rfl, .inl ⟨rfl, rfl⟩, .inl ⟨rfl, rfl⟩, trivial⟩, ⟨rfl, .inl ⟨rfl, rfl⟩, .inl ⟨rfl, rfl⟩, trivial⟩, trivial, FrzB.vec, ⟨rfl, .inl ⟨rfl, rfl⟩, trivial⟩, trivial, trivial, FrzB.vec, trivial⟩ ?_
      refine AWP.ret ?_
      have ej := Option.some.inj h
      subst ej
      exact Done.ret rfl rfl

def equal_Numbers_l1 (av : List Int) (bv : List Int) : Int → Unit → Option (Unit ⊕ Bool) := fun iv4 _ => Option.bind (ix av iv4) fun a19 => Option.bind (ix bv iv4) fun a23 => if a19 = a23 then some (.inl ()) else some (.inr false)
def equal_Numbers (av : List Int) (bv : List Int) : Option Bool := if (av.length : Int) = (bv.length : Int) then (Option.bind (rngX 0 (av.length : Int) (equal_Numbers_l1 av bv) ()) fun | .inl _ => some true | .inr x => some x) else some false
theorem equal_Numbers_ok {av : List Int} {bv : List Int} {r : Bool} (h : equal_Numbers av bv = some r) : PureOk Try.prog 18 [.c (row 1 intI av), .c (row 1 intI bv)] (.c (bool r)) := by
  unfold PureOk
  refine FnOk.enter (rs := [.t 4]) Try.func18 rfl Try.ntmps18 Try.results18 rfl ⟨trivial, trivial⟩ (by kernel_rfl) rfl ?_
  unfold equal_Numbers at h
  refine AWP.seq ?_
  refine AWP.region ?_
  refine AOps.assign rfl rfl ?_
  refine AOps.nil ?_
  refine thn_normal ?_
  refine AWP.seq ?_
  refine AWP.seq ?_
  refine AWP.region ?_
  refine AOps.move rfl rfl ?_
  refine S.len rfl rfl (fun hl7 => ?_)
  refine AOps.move rfl rfl ?_
  refine S.len rfl rfl (fun hl9 => ?_)
  refine AOps.neq rfl rfl rfl ?_
  refine AOps.nil ?_
  refine thn_normal ?_
  refine AWP.iteN rfl h (fun hc3 h => ?_) (fun hc3 h => ?_)
  · refine AWP.seq ?_
    refine AWP.region ?_
    refine AOps.assign rfl rfl ?_
    refine AOps.nil ?_
    refine thn_normal ?_
    refine AWP.ret ?_
    refine thn_ret ?_
    have ej := Option.some.inj h
    subst ej
    exact Done.ret rfl rfl
  · refine AWP.skip ?_
    refine thn_normal ?_
    refine AWP.seq ?_
    refine AWP.seq ?_
    refine AWP.region ?_
    refine AOps.assign rfl rfl ?_
    refine AOps.nil ?_
    refine thn_normal ?_
    refine AWP.block ?_
    obtain ⟨oo, ho1, h⟩ := bind_some h
    refine AWP.rngS ho1 (fun iv4 _ => ⟨[(0, .c (row 1 intI av)), (1, .c (row 1 intI bv)), (5, .c (int iv4))], []⟩) (fun o e st => match o with | .inl _ => e = .exit 0 ∧ Sub [] st ⟨[], []⟩ | .inr x => e = .ret ∧ Done [.t 4] (fun t _ => t = .c (bool x)) .ret st) ?_ ?_ ?_ ?_
    · try dsimp only
      exact Sub.env ⟨rfl, rfl, rfl, trivial⟩
    · intro iv4 s hloiv4 hltiv4 _
      try dsimp only
      refine AWP.seq ?_
      refine AWP.seq ?_
      refine AWP.region ?_
      refine AOps.move rfl rfl ?_
      refine AOps.move rfl rfl ?_
      refine S.len rfl rfl (fun hl13 => ?_)
      refine AOps.lss rfl rfl rfl ?_
      refine AOps.nil ?_
      refine thn_normal ?_
      refine AWP.condNP rfl hltiv4 ?_
      refine AWP.exit ?_
      refine thn_exit ?_
      refine thn_exit ⟨rfl, ?_⟩
      exact Sub.env trivial
    · intro iv4 s o hloiv4 hltiv4 h
      unfold equal_Numbers_l1 at h
      try dsimp only at h ⊢
      refine AWP.seq ?_
      refine AWP.seq ?_
      refine AWP.region ?_
      refine AOps.move rfl rfl ?_
      refine AOps.move rfl rfl ?_
      refine S.len rfl rfl (fun hl13 => ?_)
      refine AOps.lss rfl rfl rfl ?_
      refine AOps.nil ?_
      refine thn_normal ?_
      refine AWP.condP rfl hltiv4 ?_
      refine AWP.skip ?_
      refine thn_normal ?_
      refine AWP.seq ?_
      refine AWP.block ?_
      refine AWP.seq ?_
      obtain ⟨a19, ha19, h⟩ := bind_some h
      obtain ⟨a23, ha23, h⟩ := bind_some h
      refine AWP.drawI mixed rfl ?_
      apply DrawSeq.consF; exact rfl; intro E
      refine AOps.move rfl rfl ?_
      exact AOps.nil ⟨rfl, rfl⟩
      exact rfl
      apply DrawSeq.consF; exact rfl; intro E
      refine AOps.move rfl rfl ?_
      exact AOps.nil ⟨rfl, rfl⟩
      exact rfl
      apply DrawSeq.consF; exact rfl; intro E
      refine S.idx ha19 rfl rfl rfl rfl ?_
      exact AOps.nil ⟨rfl, rfl⟩
      exact rfl
      apply DrawSeq.consF; exact rfl; intro E
      refine AOps.loadI rfl rfl rfl rfl ?_
      exact AOps.nil ⟨rfl, rfl⟩
      exact rfl
      apply DrawSeq.consF; exact rfl; intro E
      refine AOps.move rfl rfl ?_
      exact AOps.nil ⟨rfl, rfl⟩
      exact rfl
      apply DrawSeq.consF; exact rfl; intro E
      refine AOps.move rfl rfl ?_
      exact AOps.nil ⟨rfl, rfl⟩
      exact rfl
      apply DrawSeq.consF; exact rfl; intro E
      refine S.idx ha23 rfl rfl rfl rfl ?_
      exact AOps.nil ⟨rfl, rfl⟩
      exact rfl
      apply DrawSeq.consF; exact rfl; intro E
      refine AOps.loadI rfl rfl rfl rfl ?_
      exact AOps.nil ⟨rfl, rfl⟩
      exact rfl
      apply DrawSeq.consF; exact rfl; intro E
      refine AOps.neq rfl rfl rfl ?_
      exact AOps.nil ⟨rfl, rfl⟩
      exact rfl
      refine DrawSeq.done ?_
      dsimp only [envEnd]
      refine thn_normal ?_
      refine AWP.iteN rfl h (fun hc5 h => ?_) (fun hc5 h => ?_)
      · refine AWP.seq ?_
        refine AWP.region ?_
        refine AOps.assign rfl rfl ?_
        refine AOps.nil ?_
        refine thn_normal ?_
        refine AWP.ret ?_
        refine inB_ret ?_
        refine thn_ret ?_
        have ej := Option.some.inj h
        subst ej
        refine thn_ret ⟨_, rfl, rfl, ?_⟩
        exact Done.ret rfl rfl
      · refine AWP.skip ?_
        refine inB_normal ?_
        refine thn_normal ?_
        refine AWP.region ?_
        refine AOps.move rfl rfl ?_
        refine AOps.add rfl rfl rfl (by omega) ?_
        refine AOps.assign rfl rfl ?_
        refine AOps.nil ?_
        have ej := Option.some.inj h
        subst ej
        refine thn_normal ⟨_, rfl, ?_⟩
        exact Sub.env ⟨rfl, rfl, rfl, trivial⟩
    · intro e s hq
      rcases oo with u | x
      · try dsimp only at h hq
        obtain ⟨rfl, hs⟩ := hq
        refine ⟨_, hs, ?_⟩
        refine inB_exit ?_
        refine thn_normal ?_
        refine AWP.seq ?_
        refine AWP.region ?_
        refine AOps.assign rfl rfl ?_
        refine AOps.nil ?_
        refine thn_normal ?_
        refine AWP.ret ?_
        have ej := Option.some.inj h
        subst ej
        exact Done.ret rfl rfl
      · try dsimp only at h hq
        obtain ⟨rfl, hs⟩ := hq
        refine ⟨_, Sub.refl _ _, ?_⟩
        refine inB_ret ?_
        refine thn_ret ?_
        have ej := Option.some.inj h
        subst ej
        exact hs

noncomputable def law8_forced : Option Bool := Option.bind (games_Attractor (⟨[0, 0], [(0, 1)]⟩ : TGame) 0 [1]) fun a13 => Option.bind (games_Strategy (⟨[0, 0], [(0, 1)]⟩ : TGame) 0 [1]) fun a19 => Option.bind (if a13.2.code = 0 then if a19.2.code = 0 then Option.bind (equal_Numbers a13.1 [1, 0]) fun a33 => if a33 = true then Option.bind (equal_Numbers a19.1 [1, -1]) fun a38 => some a38 else some false else some false else some false) fun t1 => some t1
theorem law8_forced_ok {r : Bool} (h : law8_forced = some r) : PureOk Try.prog 11 [] (.c (bool r)) := by
  unfold PureOk
  refine FnOk.enter (rs := [.t 0]) Try.func11 rfl Try.ntmps11 Try.results11 rfl ⟨trivial, trivial⟩ (by kernel_rfl) rfl ?_
  unfold law8_forced at h
  refine AWP.seq ?_
  refine AWP.region ?_
  refine AOps.assign rfl rfl ?_
  refine AOps.nil ?_
  refine thn_normal ?_
  refine AWP.seq ?_
  refine AWP.region ?_
  refine S.lit (f := intI) (l := [0, 0]) (ess := [[int 0], [int 0]]) rfl rfl rfl rfl rfl rfl rfl ⟨⟨.inl rfl, trivial⟩, ⟨.inl rfl, trivial⟩, trivial⟩ rfl rfl rfl ?_
  refine AOps.buildA rfl rfl rfl rfl ?_
  refine S.lit (f := eA2i64) (l := [(0, 1)]) (ess := [[int 0, int 1]]) rfl rfl rfl rfl rfl rfl rfl ⟨⟨.inl rfl, .inl rfl, trivial⟩, trivial⟩ rfl rfl rfl ?_
  refine W.build rfl rfl rfl rfl ?_
  refine W.alloc rfl rfl rfl rfl ?_
  refine W.storeAgg rfl rfl rfl rfl rfl rfl rfl ?_
  refine AOps.nil ?_
  refine thn_normal ?_
  refine AWP.seq ?_
  obtain ⟨a13, ha13, h⟩ := bind_some h
  refine AWP.region ?_
  refine W.loadAgg rfl rfl rfl rfl rfl rfl rfl ?_
  refine S.lit (f := intI) (l := [1]) (ess := [[int 1]]) rfl rfl rfl rfl rfl rfl rfl ⟨⟨.inl rfl, trivial⟩, trivial⟩ rfl rfl rfl ?_
  refine AOps.frzV (env2 := [(1, .c (.ptr 2 0 0)), (11, .agg [row 1 intI [0, 0], .own 1 0 (([(0, 1)] : List (Int × Int)).length)]), (12, .c (.own 3 0 (([1] : List Int).length)))]) (σ2 := [.dead, .one (vec 2 eA2i64 [(0, 1)]), .one (.cells 2 [[row 1 intI [0, 0], .own 1 0 (([(0, 1)] : List (Int × Int)).length)]]), .one (vec 1 intI [1])]) rfl rfl ⟨⟨_, rfl, .inl ⟨rfl, rfl⟩⟩, ⟨_, rfl, ⟨.inr ⟨_, rfl, (by simp only [List.length_set]), rfl⟩, .inl ⟨rfl, rfl⟩, trivial⟩⟩, ⟨_, rfl, .inl ⟨rfl, rfl⟩⟩, trivial⟩ rfl ⟨trivial, FrzB.vec, ⟨rfl, .inr ⟨_, rfl, (by simp only [List.length_set]), rfl⟩, .inl ⟨rfl, rfl⟩, trivial⟩, FrzB.vec, trivial⟩ ?_; refine AOps.frzV (env2 := [(1, .c (.ptr 2 0 0)), (11, .agg [row 1 intI [0, 0], row 2 eA2i64 [(0, 1)]]), (12, .c (.own 3 0 (([1] : List Int).length)))]) (σ2 := [.dead, .dead, .one (.cells 2 [[row 1 intI [0, 0], row 2 eA2i64 [(0, 1)]]]), .one (vec 1 intI [1])]) rfl rfl ⟨⟨_, rfl, .inl ⟨rfl, rfl⟩⟩, ⟨_, rfl, ⟨.inl ⟨rfl, rfl⟩, .inr ⟨_, rfl, (by simp only [List.length_set]), rfl⟩, trivial⟩⟩, ⟨_, rfl, .inl ⟨rfl, rfl⟩⟩, trivial⟩ rfl ⟨trivial, trivial, ⟨rfl, .inl ⟨rfl, rfl⟩, .inr ⟨_, rfl, (by simp only [List.length_set]), rfl⟩, trivial⟩, FrzB.vec, trivial⟩ ?_; refine AOps.frzV (env2 := [(1, .c (.ptr 2 0 0)), (11, .agg [row 1 intI [0, 0], row 2 eA2i64 [(0, 1)]]), (12, .c (row 1 intI [1]))]) (σ2 := [.dead, .dead, .one (.cells 2 [[row 1 intI [0, 0], row 2 eA2i64 [(0, 1)]]]), .dead]) rfl rfl ⟨⟨_, rfl, .inl ⟨rfl, rfl⟩⟩, ⟨_, rfl, ⟨.inl ⟨rfl, rfl⟩, .inl ⟨rfl, rfl⟩, trivial⟩⟩, ⟨_, rfl, .inr ⟨_, rfl, (by simp only [List.length_set]), rfl⟩⟩, trivial⟩ rfl ⟨trivial, trivial, ⟨rfl, .inl ⟨rfl, rfl⟩, .inl ⟨rfl, rfl⟩, trivial⟩, trivial, trivial⟩ ?_; refine AOps.callR rfl rfl rfl rfl (games_Attractor_ok ha13) rfl ?_
  refine AOps.move rfl rfl ?_
  refine AOps.extract rfl rfl rfl ?_
  refine AOps.extract rfl rfl rfl ?_
  refine W.alloc rfl rfl rfl rfl ?_
  refine AOps.assign rfl rfl ?_
  refine W.storeAgg rfl rfl rfl rfl rfl rfl rfl ?_
  refine AOps.nil ?_
  refine thn_normal ?_
  refine AWP.seq ?_
  obtain ⟨a19, ha19, h⟩ := bind_some h
  refine AWP.region ?_
  refine W.loadAgg rfl rfl rfl rfl rfl rfl rfl ?_
  refine S.lit (f := intI) (l := [1]) (ess := [[int 1]]) rfl rfl rfl rfl rfl rfl rfl ⟨⟨.inl rfl, trivial⟩, trivial⟩ rfl rfl rfl ?_
  refine AOps.frzV (env2 := [(2, .c (row 1 intI a13.1)), (3, .c (.ptr 4 0 0)), (17, .agg [row 1 intI [0, 0], row 2 eA2i64 [(0, 1)]]), (18, .c (row 1 intI [1]))]) (σ2 := [.dead, .dead, .one (.cells 2 [[row 1 intI [0, 0], row 2 eA2i64 [(0, 1)]]]), .dead, .one (.cells 2 [[int a13.2.code, int a13.2.index]]), .dead]) rfl rfl ⟨⟨_, rfl, .inl ⟨rfl, rfl⟩⟩, ⟨_, rfl, .inl ⟨rfl, rfl⟩⟩, ⟨_, rfl, ⟨.inl ⟨rfl, rfl⟩, .inl ⟨rfl, rfl⟩, trivial⟩⟩, ⟨_, rfl, .inr ⟨_, rfl, (by simp only [List.length_set]), rfl⟩⟩, trivial⟩ rfl ⟨trivial, trivial, ⟨rfl, .inl ⟨rfl, rfl⟩, .inl ⟨rfl, rfl⟩, trivial⟩, trivial, ⟨rfl, .inl ⟨rfl, rfl⟩, .inl ⟨rfl, rfl⟩, trivial⟩, trivial, trivial⟩ ?_; refine AOps.callR rfl rfl rfl rfl (games_Strategy_ok ha19) rfl ?_
  refine AOps.move rfl rfl ?_
  refine AOps.extract rfl rfl rfl ?_
  refine AOps.extract rfl rfl rfl ?_
  refine W.alloc rfl rfl rfl rfl ?_
  refine AOps.assign rfl rfl ?_
  refine W.storeAgg rfl rfl rfl rfl rfl rfl rfl ?_
  refine AOps.nil ?_
  refine thn_normal ?_
  obtain ⟨t1, hx2, h⟩ := bind_some h
  refine AWP.seqJ (⟨[(0, .c (bool t1))], []⟩) ?_ ?_
  · rcases Bool.eq_false_or_eq_true (decide (a13.2.code = 0)) with hb3 | hb3
    · replace hx2 := iteDT hb3 hx2
      rcases Bool.eq_false_or_eq_true (decide (a19.2.code = 0)) with hb4 | hb4
      · replace hx2 := iteDT hb4 hx2
        obtain ⟨a33, ha33, hx2⟩ := bind_some hx2
        rcases Bool.eq_false_or_eq_true (a33) with hb5 | hb5
        · replace hx2 := iteBT hb5 hx2
          obtain ⟨a38, ha38, hx2⟩ := bind_some hx2
          refine AWP.region ?_
          refine W.fieldAddr rfl rfl rfl rfl ?_
          refine AOps.load rfl rfl rfl rfl rfl rfl ?_
          refine AOps.eql rfl rfl rfl ?_
          refine AOps.move rfl rfl ?_
          refine AOps.guardT rfl rfl rfl hb3 ?_; refine W.fieldAddr rfl rfl rfl rfl ?_
          refine AOps.guardT rfl rfl rfl hb3 ?_; refine AOps.load rfl rfl rfl rfl rfl rfl ?_
          refine AOps.guardT rfl rfl rfl hb3 ?_; refine AOps.eql rfl rfl rfl ?_
          refine AOps.pickT rfl hb3 rfl rfl ?_
          refine AOps.move rfl rfl ?_
          refine AOps.guardT rfl rfl rfl hb4 ?_; refine AOps.move rfl rfl ?_
          refine AOps.guardT rfl rfl rfl hb4 ?_; refine S.lit (f := intI) (l := [1, 0]) (ess := [[int 1], [int 0]]) rfl rfl rfl rfl rfl rfl rfl ⟨⟨.inl rfl, trivial⟩, ⟨.inl rfl, trivial⟩, trivial⟩ rfl rfl rfl ?_
          refine AOps.guardT rfl rfl rfl hb4 ?_; refine AOps.callL rfl rfl (.cons (.c .imm) (.cons (.c (.own rfl (by simp only [List.length_set]))) .nil)) rfl (equal_Numbers_ok ha33) rfl ?_
          refine AOps.pickT rfl hb4 rfl rfl ?_
          refine AOps.move rfl rfl ?_
          refine AOps.guardT rfl rfl rfl hb5 ?_; refine AOps.move rfl rfl ?_
          refine AOps.guardT rfl rfl rfl hb5 ?_; refine S.lit (f := intI) (l := [1, -1]) (ess := [[int 1], [int (-1)]]) rfl rfl rfl rfl rfl rfl rfl ⟨⟨.inl rfl, trivial⟩, ⟨.inl rfl, trivial⟩, trivial⟩ rfl rfl rfl ?_
          refine AOps.guardT rfl rfl rfl hb5 ?_; refine AOps.callL rfl rfl (.cons (.c .imm) (.cons (.c (.own rfl (by simp only [List.length_set]))) .nil)) rfl (equal_Numbers_ok ha38) rfl ?_
          refine AOps.pickT rfl hb5 rfl rfl ?_
          refine AOps.assign rfl rfl ?_
          refine AOps.nil ?_
          have ej := Option.some.inj hx2
          subst ej
          refine thn_normal ?_
          exact Sub.cut ⟨rfl, trivial⟩ rfl trivial rfl
        · replace hx2 := iteBF hb5 hx2
          refine AWP.region ?_
          refine W.fieldAddr rfl rfl rfl rfl ?_
          refine AOps.load rfl rfl rfl rfl rfl rfl ?_
          refine AOps.eql rfl rfl rfl ?_
          refine AOps.move rfl rfl ?_
          refine AOps.guardT rfl rfl rfl hb3 ?_; refine W.fieldAddr rfl rfl rfl rfl ?_
          refine AOps.guardT rfl rfl rfl hb3 ?_; refine AOps.load rfl rfl rfl rfl rfl rfl ?_
          refine AOps.guardT rfl rfl rfl hb3 ?_; refine AOps.eql rfl rfl rfl ?_
          refine AOps.pickT rfl hb3 rfl rfl ?_
          refine AOps.move rfl rfl ?_
          refine AOps.guardT rfl rfl rfl hb4 ?_; refine AOps.move rfl rfl ?_
          refine AOps.guardT rfl rfl rfl hb4 ?_; refine S.lit (f := intI) (l := [1, 0]) (ess := [[int 1], [int 0]]) rfl rfl rfl rfl rfl rfl rfl ⟨⟨.inl rfl, trivial⟩, ⟨.inl rfl, trivial⟩, trivial⟩ rfl rfl rfl ?_
          refine AOps.guardT rfl rfl rfl hb4 ?_; refine AOps.callL rfl rfl (.cons (.c .imm) (.cons (.c (.own rfl (by simp only [List.length_set]))) .nil)) rfl (equal_Numbers_ok ha33) rfl ?_
          refine AOps.pickT rfl hb4 rfl rfl ?_
          refine AOps.move rfl rfl ?_
          refine AOps.guardF rfl rfl rfl hb5 ?_
          refine AOps.guardF rfl rfl rfl hb5 ?_
          refine AOps.guardF rfl rfl rfl hb5 ?_
          refine AOps.pickF rfl hb5 rfl rfl ?_
          refine AOps.assign rfl rfl ?_
          refine AOps.nil ?_
          have ej := Option.some.inj hx2
          subst ej
          refine thn_normal ?_
          exact Sub.cut ⟨rfl, trivial⟩ rfl trivial rfl
      · replace hx2 := iteDF hb4 hx2
        refine AWP.region ?_
        refine W.fieldAddr rfl rfl rfl rfl ?_
        refine AOps.load rfl rfl rfl rfl rfl rfl ?_
        refine AOps.eql rfl rfl rfl ?_
        refine AOps.move rfl rfl ?_
        refine AOps.guardT rfl rfl rfl hb3 ?_; refine W.fieldAddr rfl rfl rfl rfl ?_
        refine AOps.guardT rfl rfl rfl hb3 ?_; refine AOps.load rfl rfl rfl rfl rfl rfl ?_
        refine AOps.guardT rfl rfl rfl hb3 ?_; refine AOps.eql rfl rfl rfl ?_
        refine AOps.pickT rfl hb3 rfl rfl ?_
        refine AOps.move rfl rfl ?_
        refine AOps.guardF rfl rfl rfl hb4 ?_
        refine AOps.guardF rfl rfl rfl hb4 ?_
        refine AOps.guardF rfl rfl rfl hb4 ?_
        refine AOps.pickF rfl hb4 rfl rfl ?_
        refine AOps.move rfl rfl ?_
        refine AOps.guardF rfl rfl rfl rfl ?_
        refine AOps.guardF rfl rfl rfl rfl ?_
        refine AOps.guardF rfl rfl rfl rfl ?_
        refine AOps.pickF rfl rfl rfl rfl ?_
        refine AOps.assign rfl rfl ?_
        refine AOps.nil ?_
        have ej := Option.some.inj hx2
        subst ej
        refine thn_normal ?_
        exact Sub.cut ⟨rfl, trivial⟩ rfl trivial rfl
    · replace hx2 := iteDF hb3 hx2
      refine AWP.region ?_
      refine W.fieldAddr rfl rfl rfl rfl ?_
      refine AOps.load rfl rfl rfl rfl rfl rfl ?_
      refine AOps.eql rfl rfl rfl ?_
      refine AOps.move rfl rfl ?_
      refine AOps.guardF rfl rfl rfl hb3 ?_
      refine AOps.guardF rfl rfl rfl hb3 ?_
      refine AOps.guardF rfl rfl rfl hb3 ?_
      refine AOps.pickF rfl hb3 rfl rfl ?_
      refine AOps.move rfl rfl ?_
      refine AOps.guardF rfl rfl rfl rfl ?_
      refine AOps.guardF rfl rfl rfl rfl ?_
      refine AOps.guardF rfl rfl rfl rfl ?_
      refine AOps.pickF rfl rfl rfl rfl ?_
      refine AOps.move rfl rfl ?_
      refine AOps.guardF rfl rfl rfl rfl ?_
      refine AOps.guardF rfl rfl rfl rfl ?_
      refine AOps.guardF rfl rfl rfl rfl ?_
      refine AOps.pickF rfl rfl rfl rfl ?_
      refine AOps.assign rfl rfl ?_
      refine AOps.nil ?_
      have ej := Option.some.inj hx2
      subst ej
      refine thn_normal ?_
      exact Sub.cut ⟨rfl, trivial⟩ rfl trivial rfl
  · refine AWP.ret ?_
    have ej := Option.some.inj h
    subst ej
    exact Done.ret rfl rfl

def law8_GamesMoreTargets_l1 (a18 : (List Int) × TFault) (a25 : (List Int) × TFault) : Int → Unit → Option (Unit ⊕ Bool) := fun p11 _ => Option.bind (Option.bind (ix a18.1 p11) fun a56 => if 0 ≤ a56 then Option.bind (ix a25.1 p11) fun a62 => if a62 < 0 then some true else Option.bind (ix a25.1 p11) fun a68 => Option.bind (ix a18.1 p11) fun a72 => some (decide (a72 < a68)) else some false) fun t12 => if t12 = true then some (.inr false) else some (.inl ())
noncomputable def law8_GamesMoreTargets (gv : TGame) (player : Int) (targets : List Int) (more : List Int) : Option Bool := Option.bind (games_Attractor gv player targets) fun a18 => Option.bind (games_Attractor gv player more) fun a25 => Option.bind (if (!(decide (a18.2.code = 0))) = true then some true else if (!(decide (a25.2.code = 0))) = true then some true else Option.bind (ref1_Subset targets more) fun a39 => some (!a39)) fun t5 => if t5 = true then Option.bind (law8_forced) fun a42 => some a42 else if (a18.1.length : Int) = (a25.1.length : Int) then (Option.bind (rngX 0 (a18.1.length : Int) (law8_GamesMoreTargets_l1 a18 a25) ()) fun | .inl _ => Option.bind (law8_forced) fun a77 => some a77 | .inr x => some x) else some false
theorem law8_GamesMoreTargets_ok {gv : TGame} {player : Int} {targets : List Int} {more : List Int} {r : Bool} (h : law8_GamesMoreTargets gv player targets more = some r) : PureOk Try.prog 3 [.agg [row 1 intI gv.owner, row 2 eA2i64 gv.arcs], .c (int player), .c (row 1 intI targets), .c (row 1 intI more)] (.c (bool r)) := by
  unfold PureOk
  refine FnOk.enter (rs := [.t 8]) Try.func3 rfl Try.ntmps3 Try.results3 rfl ⟨trivial, trivial⟩ (by kernel_rfl) rfl ?_
  unfold law8_GamesMoreTargets at h
  refine AWP.seq ?_
  refine AWP.region ?_
  refine W.box rfl rfl rfl rfl rfl rfl ?_
  refine AOps.assign rfl rfl ?_
  refine AOps.nil ?_
  refine thn_normal ?_
  refine AWP.seq ?_
  obtain ⟨a18, ha18, h⟩ := bind_some h
  refine AWP.region ?_
  refine W.loadAgg rfl rfl rfl rfl rfl rfl rfl ?_
  refine AOps.move rfl rfl ?_
  refine AOps.move rfl rfl ?_
  refine AOps.callR rfl rfl rfl rfl (games_Attractor_ok ha18) rfl ?_
  refine AOps.move rfl rfl ?_
  refine AOps.extract rfl rfl rfl ?_
  refine AOps.extract rfl rfl rfl ?_
  refine W.alloc rfl rfl rfl rfl ?_
  refine AOps.assign rfl rfl ?_
  refine W.storeAgg rfl rfl rfl rfl rfl rfl rfl ?_
  refine AOps.nil ?_
  refine thn_normal ?_
  refine AWP.seq ?_
  obtain ⟨a25, ha25, h⟩ := bind_some h
  refine AWP.region ?_
  refine W.loadAgg rfl rfl rfl rfl rfl rfl rfl ?_
  refine AOps.move rfl rfl ?_
  refine AOps.move rfl rfl ?_
  refine AOps.callR rfl rfl rfl rfl (games_Attractor_ok ha25) rfl ?_
  refine AOps.move rfl rfl ?_
  refine AOps.extract rfl rfl rfl ?_
  refine AOps.extract rfl rfl rfl ?_
  refine W.alloc rfl rfl rfl rfl ?_
  refine AOps.assign rfl rfl ?_
  refine W.storeAgg rfl rfl rfl rfl rfl rfl rfl ?_
  refine AOps.nil ?_
  refine thn_normal ?_
  refine AWP.seq ?_
  obtain ⟨t5, hx6, h⟩ := bind_some h
  refine AWP.seqJ (⟨[(9, .c (row 1 intI a18.1)), (11, .c (row 1 intI a25.1)), (41, .c (bool t5))], []⟩) ?_ ?_
  · rcases Bool.eq_false_or_eq_true (!(decide (a18.2.code = 0))) with hb7 | hb7
    · replace hx6 := iteBT hb7 hx6
      refine AWP.region ?_
      refine W.fieldAddr rfl rfl rfl rfl ?_
      refine AOps.load rfl rfl rfl rfl rfl rfl ?_
      refine AOps.neq rfl rfl rfl ?_
      refine AOps.move rfl rfl ?_
      refine AOps.guardF rfl rfl rfl hb7 ?_
      refine AOps.guardF rfl rfl rfl hb7 ?_
      refine AOps.guardF rfl rfl rfl hb7 ?_
      refine AOps.pickT rfl hb7 rfl rfl ?_
      refine AOps.move rfl rfl ?_
      refine AOps.guardF rfl rfl rfl rfl ?_
      refine AOps.guardF rfl rfl rfl rfl ?_
      refine AOps.guardF rfl rfl rfl rfl ?_
      refine AOps.guardF rfl rfl rfl rfl ?_
      refine AOps.pickT rfl rfl rfl rfl ?_
      refine AOps.nil ?_
      have ej := Option.some.inj hx6
      subst ej
      refine thn_normal ?_
      exact Sub.cut ⟨rfl, rfl, rfl, trivial⟩ rfl trivial rfl
    · replace hx6 := iteBF hb7 hx6
      rcases Bool.eq_false_or_eq_true (!(decide (a25.2.code = 0))) with hb8 | hb8
      · replace hx6 := iteBT hb8 hx6
        refine AWP.region ?_
        refine W.fieldAddr rfl rfl rfl rfl ?_
        refine AOps.load rfl rfl rfl rfl rfl rfl ?_
        refine AOps.neq rfl rfl rfl ?_
        refine AOps.move rfl rfl ?_
        refine AOps.guardT rfl rfl rfl hb7 ?_; refine W.fieldAddr rfl rfl rfl rfl ?_
        refine AOps.guardT rfl rfl rfl hb7 ?_; refine AOps.load rfl rfl rfl rfl rfl rfl ?_
        refine AOps.guardT rfl rfl rfl hb7 ?_; refine AOps.neq rfl rfl rfl ?_
        refine AOps.pickF rfl hb7 rfl rfl ?_
        refine AOps.move rfl rfl ?_
        refine AOps.guardF rfl rfl rfl hb8 ?_
        refine AOps.guardF rfl rfl rfl hb8 ?_
        refine AOps.guardF rfl rfl rfl hb8 ?_
        refine AOps.guardF rfl rfl rfl hb8 ?_
        refine AOps.pickT rfl hb8 rfl rfl ?_
        refine AOps.nil ?_
        have ej := Option.some.inj hx6
        subst ej
        refine thn_normal ?_
        exact Sub.cut ⟨rfl, rfl, rfl, trivial⟩ rfl trivial rfl
      · replace hx6 := iteBF hb8 hx6
        obtain ⟨a39, ha39, hx6⟩ := bind_some hx6
        refine AWP.region ?_
        refine W.fieldAddr rfl rfl rfl rfl ?_
        refine AOps.load rfl rfl rfl rfl rfl rfl ?_
        refine AOps.neq rfl rfl rfl ?_
        refine AOps.move rfl rfl ?_
        refine AOps.guardT rfl rfl rfl hb7 ?_; refine W.fieldAddr rfl rfl rfl rfl ?_
        refine AOps.guardT rfl rfl rfl hb7 ?_; refine AOps.load rfl rfl rfl rfl rfl rfl ?_
        refine AOps.guardT rfl rfl rfl hb7 ?_; refine AOps.neq rfl rfl rfl ?_
        refine AOps.pickF rfl hb7 rfl rfl ?_
        refine AOps.move rfl rfl ?_
        refine AOps.guardT rfl rfl rfl hb8 ?_; refine AOps.move rfl rfl ?_
        refine AOps.guardT rfl rfl rfl hb8 ?_; refine AOps.move rfl rfl ?_
        refine AOps.guardT rfl rfl rfl hb8 ?_; refine AOps.callR rfl rfl rfl rfl (ref1_Subset_ok ha39) rfl ?_
        refine AOps.guardT rfl rfl rfl hb8 ?_; refine AOps.not rfl rfl ?_
        refine AOps.pickF rfl hb8 rfl rfl ?_
        refine AOps.nil ?_
        have ej := Option.some.inj hx6
        subst ej
        refine thn_normal ?_
        exact Sub.cut ⟨rfl, rfl, rfl, trivial⟩ rfl trivial rfl
  · refine AWP.iteB rfl h (fun hc9 h => ?_) (fun hc9 h => ?_)
    · refine AWP.seq ?_
      obtain ⟨a42, ha42, h⟩ := bind_some h
      refine AWP.region ?_
      refine AOps.callR rfl rfl rfl rfl (law8_forced_ok ha42) rfl ?_
      refine AOps.assign rfl rfl ?_
      refine AOps.nil ?_
      refine thn_normal ?_
      refine AWP.ret ?_
      refine thn_ret ?_
      have ej := Option.some.inj h
      subst ej
      exact Done.ret rfl rfl
    · refine AWP.skip ?_
      refine thn_normal ?_
      refine AWP.seq ?_
      refine AWP.seq ?_
      refine AWP.region ?_
      refine AOps.move rfl rfl ?_
      refine S.len rfl rfl (fun hl44 => ?_)
      refine AOps.move rfl rfl ?_
      refine S.len rfl rfl (fun hl46 => ?_)
      refine AOps.neq rfl rfl rfl ?_
      refine AOps.nil ?_
      refine thn_normal ?_
      refine AWP.iteN rfl h (fun hc10 h => ?_) (fun hc10 h => ?_)
      · refine AWP.seq ?_
        refine AWP.region ?_
        refine AOps.assign rfl rfl ?_
        refine AOps.nil ?_
        refine thn_normal ?_
        refine AWP.ret ?_
        refine thn_ret ?_
        have ej := Option.some.inj h
        subst ej
        exact Done.ret rfl rfl
      · refine AWP.skip ?_
        refine thn_normal ?_
        refine AWP.seq ?_
        refine AWP.seq ?_
        refine AWP.region ?_
        refine AOps.assign rfl rfl ?_
        refine AOps.nil ?_
        refine thn_normal ?_
        refine AWP.block ?_
        obtain ⟨oo, ho1, h⟩ := bind_some h
        refine AWP.rngS ho1 (fun p11 _ => ⟨[(9, .c (row 1 intI a18.1)), (11, .c (row 1 intI a25.1)), (13, .c (int p11))], []⟩) (fun o e st => match o with | .inl _ => e = .exit 0 ∧ Sub [] st ⟨[], []⟩ | .inr x => e = .ret ∧ Done [.t 8] (fun t _ => t = .c (bool x)) .ret st) ?_ ?_ ?_ ?_
        · try dsimp only
          exact Sub.env ⟨rfl, rfl, rfl, trivial⟩
        · intro p11 s hlop11 hltp11 _
          try dsimp only
          refine AWP.seq ?_
          refine AWP.seq ?_
          refine AWP.region ?_
          refine AOps.move rfl rfl ?_
          refine AOps.move rfl rfl ?_
          refine S.len rfl rfl (fun hl50 => ?_)
          refine AOps.lss rfl rfl rfl ?_
          refine AOps.nil ?_
          refine thn_normal ?_
          refine AWP.condNP rfl hltp11 ?_
          refine AWP.exit ?_
          refine thn_exit ?_
          refine thn_exit ⟨rfl, ?_⟩
          exact Sub.env trivial
        · intro p11 s o hlop11 hltp11 h
          unfold law8_GamesMoreTargets_l1 at h
          try dsimp only at h ⊢
          refine AWP.seq ?_
          refine AWP.seq ?_
          refine AWP.region ?_
          refine AOps.move rfl rfl ?_
          refine AOps.move rfl rfl ?_
          refine S.len rfl rfl (fun hl50 => ?_)
          refine AOps.lss rfl rfl rfl ?_
          refine AOps.nil ?_
          refine thn_normal ?_
          refine AWP.condP rfl hltp11 ?_
          refine AWP.skip ?_
          refine thn_normal ?_
          refine AWP.seq ?_
          refine AWP.block ?_
          obtain ⟨t12, hx13, h⟩ := bind_some h
          refine AWP.seqJ (⟨[(9, .c (row 1 intI a18.1)), (11, .c (row 1 intI a25.1)), (13, .c (int p11)), (76, .c (bool t12))], []⟩) ?_ ?_
          · obtain ⟨a56, ha56, hx13⟩ := bind_some hx13
            rcases Bool.eq_false_or_eq_true (decide (0 ≤ a56)) with hb14 | hb14
            · replace hx13 := iteDT hb14 hx13
              obtain ⟨a62, ha62, hx13⟩ := bind_some hx13
              rcases Bool.eq_false_or_eq_true (decide (a62 < 0)) with hb15 | hb15
              · replace hx13 := iteDT hb15 hx13
                refine AWP.drawI mixed rfl ?_
                apply DrawSeq.consF; exact rfl; intro E
                refine AOps.move rfl rfl ?_
                exact AOps.nil ⟨rfl, rfl⟩
                exact rfl
                apply DrawSeq.consF; exact rfl; intro E
                refine AOps.move rfl rfl ?_
                exact AOps.nil ⟨rfl, rfl⟩
                exact rfl
                apply DrawSeq.consF; exact rfl; intro E
                refine S.idx ha56 rfl rfl rfl rfl ?_
                exact AOps.nil ⟨rfl, rfl⟩
                exact rfl
                apply DrawSeq.consF; exact rfl; intro E
                refine AOps.loadI rfl rfl rfl rfl ?_
                exact AOps.nil ⟨rfl, rfl⟩
                exact rfl
                apply DrawSeq.consF; exact rfl; intro E
                refine AOps.geq rfl rfl rfl ?_
                exact AOps.nil ⟨rfl, rfl⟩
                exact rfl
                apply DrawSeq.consF; exact rfl; intro E
                refine AOps.move rfl rfl ?_
                exact AOps.nil ⟨rfl, rfl⟩
                exact rfl
                apply DrawSeq.consF; exact rfl; intro E
                refine AOps.guardT rfl rfl rfl hb14 ?_; refine AOps.move rfl rfl ?_
                exact AOps.nil ⟨rfl, rfl⟩
                exact rfl
                apply DrawSeq.consF; exact rfl; intro E
                refine AOps.guardT rfl rfl rfl hb14 ?_; refine AOps.move rfl rfl ?_
                exact AOps.nil ⟨rfl, rfl⟩
                exact rfl
                apply DrawSeq.consF; exact rfl; intro E
                refine AOps.guardT rfl rfl rfl hb14 ?_; refine S.idx ha62 rfl rfl rfl rfl ?_
                exact AOps.nil ⟨rfl, rfl⟩
                exact rfl
                apply DrawSeq.consF; exact rfl; intro E
                refine AOps.guardT rfl rfl rfl hb14 ?_; refine AOps.loadI rfl rfl rfl rfl ?_
                exact AOps.nil ⟨rfl, rfl⟩
                exact rfl
                apply DrawSeq.consF; exact rfl; intro E
                refine AOps.guardT rfl rfl rfl hb14 ?_; refine AOps.lss rfl rfl rfl ?_
                exact AOps.nil ⟨rfl, rfl⟩
                exact rfl
                apply DrawSeq.consF; exact rfl; intro E
                refine AOps.guardT rfl rfl rfl hb14 ?_; refine AOps.move rfl rfl ?_
                exact AOps.nil ⟨rfl, rfl⟩
                exact rfl
                apply DrawSeq.consF; exact rfl; intro E
                refine AOps.guardF rfl rfl rfl hb15 ?_
                exact AOps.nil ⟨rfl, rfl⟩
                exact rfl
                apply DrawSeq.consF; exact rfl; intro E
                refine AOps.guardF rfl rfl rfl hb15 ?_
                exact AOps.nil ⟨rfl, rfl⟩
                exact rfl
                apply DrawSeq.consF; exact rfl; intro E
                refine AOps.guardF rfl rfl rfl hb15 ?_
                exact AOps.nil ⟨rfl, rfl⟩
                exact rfl
                apply DrawSeq.consF; exact rfl; intro E
                refine AOps.guardF rfl rfl rfl hb15 ?_
                exact AOps.nil ⟨rfl, rfl⟩
                exact rfl
                apply DrawSeq.consF; exact rfl; intro E
                refine AOps.guardF rfl rfl rfl hb15 ?_
                exact AOps.nil ⟨rfl, rfl⟩
                exact rfl
                apply DrawSeq.consF; exact rfl; intro E
                refine AOps.guardF rfl rfl rfl hb15 ?_
                exact AOps.nil ⟨rfl, rfl⟩
                exact rfl
                apply DrawSeq.consF; exact rfl; intro E
                refine AOps.guardF rfl rfl rfl hb15 ?_
                exact AOps.nil ⟨rfl, rfl⟩
                exact rfl
                apply DrawSeq.consF; exact rfl; intro E
                refine AOps.guardF rfl rfl rfl hb15 ?_
                exact AOps.nil ⟨rfl, rfl⟩
                exact rfl
                apply DrawSeq.consF; exact rfl; intro E
                refine AOps.guardF rfl rfl rfl hb15 ?_
                exact AOps.nil ⟨rfl, rfl⟩
                exact rfl
                apply DrawSeq.consF; exact rfl; intro E
                refine AOps.guardT rfl rfl rfl hb14 ?_; refine AOps.pickT rfl hb15 rfl rfl ?_
                exact AOps.nil ⟨rfl, rfl⟩
                exact rfl
                apply DrawSeq.consF; exact rfl; intro E
                refine AOps.pickT rfl hb14 rfl rfl ?_
                exact AOps.nil ⟨rfl, rfl⟩
                exact rfl
                refine DrawSeq.done ?_
                dsimp only [envEnd]
                have ej := Option.some.inj hx13
                subst ej
                refine thn_normal ?_
                exact Sub.env ⟨rfl, rfl, rfl, rfl, trivial⟩
              · replace hx13 := iteDF hb15 hx13
                obtain ⟨a68, ha68, hx13⟩ := bind_some hx13
                obtain ⟨a72, ha72, hx13⟩ := bind_some hx13
                refine AWP.drawI mixed rfl ?_
                apply DrawSeq.consF; exact rfl; intro E
                refine AOps.move rfl rfl ?_
                exact AOps.nil ⟨rfl, rfl⟩
                exact rfl
                apply DrawSeq.consF; exact rfl; intro E
                refine AOps.move rfl rfl ?_
                exact AOps.nil ⟨rfl, rfl⟩
                exact rfl
                apply DrawSeq.consF; exact rfl; intro E
                refine S.idx ha56 rfl rfl rfl rfl ?_
                exact AOps.nil ⟨rfl, rfl⟩
                exact rfl
                apply DrawSeq.consF; exact rfl; intro E
                refine AOps.loadI rfl rfl rfl rfl ?_
                exact AOps.nil ⟨rfl, rfl⟩
                exact rfl
                apply DrawSeq.consF; exact rfl; intro E
                refine AOps.geq rfl rfl rfl ?_
                exact AOps.nil ⟨rfl, rfl⟩
                exact rfl
                apply DrawSeq.consF; exact rfl; intro E
                refine AOps.move rfl rfl ?_
                exact AOps.nil ⟨rfl, rfl⟩
                exact rfl
                apply DrawSeq.consF; exact rfl; intro E
                refine AOps.guardT rfl rfl rfl hb14 ?_; refine AOps.move rfl rfl ?_
                exact AOps.nil ⟨rfl, rfl⟩
                exact rfl
                apply DrawSeq.consF; exact rfl; intro E
                refine AOps.guardT rfl rfl rfl hb14 ?_; refine AOps.move rfl rfl ?_
                exact AOps.nil ⟨rfl, rfl⟩
                exact rfl
                apply DrawSeq.consF; exact rfl; intro E
                refine AOps.guardT rfl rfl rfl hb14 ?_; refine S.idx ha62 rfl rfl rfl rfl ?_
                exact AOps.nil ⟨rfl, rfl⟩
                exact rfl
                apply DrawSeq.consF; exact rfl; intro E
                refine AOps.guardT rfl rfl rfl hb14 ?_; refine AOps.loadI rfl rfl rfl rfl ?_
                exact AOps.nil ⟨rfl, rfl⟩
                exact rfl
                apply DrawSeq.consF; exact rfl; intro E
                refine AOps.guardT rfl rfl rfl hb14 ?_; refine AOps.lss rfl rfl rfl ?_
                exact AOps.nil ⟨rfl, rfl⟩
                exact rfl
                apply DrawSeq.consF; exact rfl; intro E
                refine AOps.guardT rfl rfl rfl hb14 ?_; refine AOps.move rfl rfl ?_
                exact AOps.nil ⟨rfl, rfl⟩
                exact rfl
                apply DrawSeq.consF; exact rfl; intro E
                refine AOps.guardT rfl rfl rfl hb15 ?_; refine AOps.move rfl rfl ?_
                exact AOps.nil ⟨rfl, rfl⟩
                exact rfl
                apply DrawSeq.consF; exact rfl; intro E
                refine AOps.guardT rfl rfl rfl hb15 ?_; refine AOps.move rfl rfl ?_
                exact AOps.nil ⟨rfl, rfl⟩
                exact rfl
                apply DrawSeq.consF; exact rfl; intro E
                refine AOps.guardT rfl rfl rfl hb15 ?_; refine S.idx ha68 rfl rfl rfl rfl ?_
                exact AOps.nil ⟨rfl, rfl⟩
                exact rfl
                apply DrawSeq.consF; exact rfl; intro E
                refine AOps.guardT rfl rfl rfl hb15 ?_; refine AOps.loadI rfl rfl rfl rfl ?_
                exact AOps.nil ⟨rfl, rfl⟩
                exact rfl
                apply DrawSeq.consF; exact rfl; intro E
                refine AOps.guardT rfl rfl rfl hb15 ?_; refine AOps.move rfl rfl ?_
                exact AOps.nil ⟨rfl, rfl⟩
                exact rfl
                apply DrawSeq.consF; exact rfl; intro E
                refine AOps.guardT rfl rfl rfl hb15 ?_; refine AOps.move rfl rfl ?_
                exact AOps.nil ⟨rfl, rfl⟩
                exact rfl
                apply DrawSeq.consF; exact rfl; intro E
                refine AOps.guardT rfl rfl rfl hb15 ?_; refine S.idx ha72 rfl rfl rfl rfl ?_
                exact AOps.nil ⟨rfl, rfl⟩
                exact rfl
                apply DrawSeq.consF; exact rfl; intro E
                refine AOps.guardT rfl rfl rfl hb15 ?_; refine AOps.loadI rfl rfl rfl rfl ?_
                exact AOps.nil ⟨rfl, rfl⟩
                exact rfl
                apply DrawSeq.consF; exact rfl; intro E
                refine AOps.guardT rfl rfl rfl hb15 ?_; refine AOps.gtr rfl rfl rfl ?_
                exact AOps.nil ⟨rfl, rfl⟩
                exact rfl
                apply DrawSeq.consF; exact rfl; intro E
                refine AOps.guardT rfl rfl rfl hb14 ?_; refine AOps.pickF rfl hb15 rfl rfl ?_
                exact AOps.nil ⟨rfl, rfl⟩
                exact rfl
                apply DrawSeq.consF; exact rfl; intro E
                refine AOps.pickT rfl hb14 rfl rfl ?_
                exact AOps.nil ⟨rfl, rfl⟩
                exact rfl
                refine DrawSeq.done ?_
                dsimp only [envEnd]
                have ej := Option.some.inj hx13
                subst ej
                refine thn_normal ?_
                exact Sub.env ⟨rfl, rfl, rfl, rfl, trivial⟩
            · replace hx13 := iteDF hb14 hx13
              refine AWP.drawI mixed rfl ?_
              apply DrawSeq.consF; exact rfl; intro E
              refine AOps.move rfl rfl ?_
              exact AOps.nil ⟨rfl, rfl⟩
              exact rfl
              apply DrawSeq.consF; exact rfl; intro E
              refine AOps.move rfl rfl ?_
              exact AOps.nil ⟨rfl, rfl⟩
              exact rfl
              apply DrawSeq.consF; exact rfl; intro E
              refine S.idx ha56 rfl rfl rfl rfl ?_
              exact AOps.nil ⟨rfl, rfl⟩
              exact rfl
              apply DrawSeq.consF; exact rfl; intro E
              refine AOps.loadI rfl rfl rfl rfl ?_
              exact AOps.nil ⟨rfl, rfl⟩
              exact rfl
              apply DrawSeq.consF; exact rfl; intro E
              refine AOps.geq rfl rfl rfl ?_
              exact AOps.nil ⟨rfl, rfl⟩
              exact rfl
              apply DrawSeq.consF; exact rfl; intro E
              refine AOps.move rfl rfl ?_
              exact AOps.nil ⟨rfl, rfl⟩
              exact rfl
              apply DrawSeq.consF; exact rfl; intro E
              refine AOps.guardF rfl rfl rfl hb14 ?_
              exact AOps.nil ⟨rfl, rfl⟩
              exact rfl
              apply DrawSeq.consF; exact rfl; intro E
              refine AOps.guardF rfl rfl rfl hb14 ?_
              exact AOps.nil ⟨rfl, rfl⟩
              exact rfl
              apply DrawSeq.consF; exact rfl; intro E
              refine AOps.guardF rfl rfl rfl hb14 ?_
              exact AOps.nil ⟨rfl, rfl⟩
              exact rfl
              apply DrawSeq.consF; exact rfl; intro E
              refine AOps.guardF rfl rfl rfl hb14 ?_
              exact AOps.nil ⟨rfl, rfl⟩
              exact rfl
              apply DrawSeq.consF; exact rfl; intro E
              refine AOps.guardF rfl rfl rfl hb14 ?_
              exact AOps.nil ⟨rfl, rfl⟩
              exact rfl
              apply DrawSeq.consF; exact rfl; intro E
              refine AOps.guardF rfl rfl rfl hb14 ?_
              exact AOps.nil ⟨rfl, rfl⟩
              exact rfl
              apply DrawSeq.consF; exact rfl; intro E
              refine AOps.guardSkip rfl rfl rfl ?_
              exact AOps.nil ⟨rfl, rfl⟩
              exact rfl
              apply DrawSeq.consF; exact rfl; intro E
              refine AOps.guardSkip rfl rfl rfl ?_
              exact AOps.nil ⟨rfl, rfl⟩
              exact rfl
              apply DrawSeq.consF; exact rfl; intro E
              refine AOps.guardSkip rfl rfl rfl ?_
              exact AOps.nil ⟨rfl, rfl⟩
              exact rfl
              apply DrawSeq.consF; exact rfl; intro E
              refine AOps.guardSkip rfl rfl rfl ?_
              exact AOps.nil ⟨rfl, rfl⟩
              exact rfl
              apply DrawSeq.consF; exact rfl; intro E
              refine AOps.guardSkip rfl rfl rfl ?_
              exact AOps.nil ⟨rfl, rfl⟩
              exact rfl
              apply DrawSeq.consF; exact rfl; intro E
              refine AOps.guardSkip rfl rfl rfl ?_
              exact AOps.nil ⟨rfl, rfl⟩
              exact rfl
              apply DrawSeq.consF; exact rfl; intro E
              refine AOps.guardSkip rfl rfl rfl ?_
              exact AOps.nil ⟨rfl, rfl⟩
              exact rfl
              apply DrawSeq.consF; exact rfl; intro E
              refine AOps.guardSkip rfl rfl rfl ?_
              exact AOps.nil ⟨rfl, rfl⟩
              exact rfl
              apply DrawSeq.consF; exact rfl; intro E
              refine AOps.guardSkip rfl rfl rfl ?_
              exact AOps.nil ⟨rfl, rfl⟩
              exact rfl
              apply DrawSeq.consF; exact rfl; intro E
              refine AOps.guardF rfl rfl rfl hb14 ?_
              exact AOps.nil ⟨rfl, rfl⟩
              exact rfl
              apply DrawSeq.consF; exact rfl; intro E
              refine AOps.pickF rfl hb14 rfl rfl ?_
              exact AOps.nil ⟨rfl, rfl⟩
              exact rfl
              refine DrawSeq.done ?_
              dsimp only [envEnd]
              have ej := Option.some.inj hx13
              subst ej
              refine thn_normal ?_
              exact Sub.env ⟨rfl, rfl, rfl, rfl, trivial⟩
          · refine AWP.iteB rfl h (fun hc16 h => ?_) (fun hc16 h => ?_)
            · refine AWP.seq ?_
              refine AWP.region ?_
              refine AOps.assign rfl rfl ?_
              refine AOps.nil ?_
              refine thn_normal ?_
              refine AWP.ret ?_
              refine inB_ret ?_
              refine thn_ret ?_
              have ej := Option.some.inj h
              subst ej
              refine thn_ret ⟨_, rfl, rfl, ?_⟩
              exact Done.ret rfl rfl
            · refine AWP.skip ?_
              refine inB_normal ?_
              refine thn_normal ?_
              refine AWP.region ?_
              refine AOps.move rfl rfl ?_
              refine AOps.add rfl rfl rfl (by omega) ?_
              refine AOps.assign rfl rfl ?_
              refine AOps.nil ?_
              have ej := Option.some.inj h
              subst ej
              refine thn_normal ⟨_, rfl, ?_⟩
              exact Sub.env ⟨rfl, rfl, rfl, trivial⟩
        · intro e s hq
          rcases oo with u | x
          · try dsimp only at h hq
            obtain ⟨rfl, hs⟩ := hq
            refine ⟨_, hs, ?_⟩
            refine inB_exit ?_
            refine thn_normal ?_
            refine AWP.seq ?_
            obtain ⟨a77, ha77, h⟩ := bind_some h
            refine AWP.region ?_
            refine AOps.callR rfl rfl rfl rfl (law8_forced_ok ha77) rfl ?_
            refine AOps.assign rfl rfl ?_
            refine AOps.nil ?_
            refine thn_normal ?_
            refine AWP.ret ?_
            have ej := Option.some.inj h
            subst ej
            exact Done.ret rfl rfl
          · try dsimp only at h hq
            obtain ⟨rfl, hs⟩ := hq
            refine ⟨_, Sub.refl _ _, ?_⟩
            refine inB_ret ?_
            refine thn_ret ?_
            have ej := Option.some.inj h
            subst ej
            exact hs

def games_Safe_l1 (a24 : (List Int)) : Int → (List Int) → Option (List Int) := fun t6 c5 => Option.bind (Option.bind (ix a24 t6) fun a29 => if a29 < 0 then Option.bind (app 8 c5 [t6]) fun a36 => some a36 else some c5) fun c7 => some c7
noncomputable def games_Safe (gv : TGame) (player : Int) (bad : List Int) : Option ((List Int) × TFault) := Option.bind (games_check gv player bad) fun a15 => if (!((decide (a15.code = 0)) && (decide (a15.index = 0)))) = true then some ([], a15) else Option.bind (games_attract gv (w64 (1 - player)) bad) fun a24 => (Option.bind (forR 0 (a24.length : Int) (games_Safe_l1 a24) []) fun c5 => some (c5, (⟨0, 0⟩ : TFault)))
theorem games_Safe_ok {gv : TGame} {player : Int} {bad : List Int} {r : (List Int) × TFault} (h : games_Safe gv player bad = some r) : PureOk Try.prog 13 [.agg [row 1 intI gv.owner, row 2 eA2i64 gv.arcs], .c (int player), .c (row 1 intI bad)] (.tup [.c (row 1 intI r.1), .agg [int r.2.code, int r.2.index]]) := by
  unfold PureOk
  refine FnOk.enter (rs := [.t 6, .cell 7 27 2]) Try.func13 rfl Try.ntmps13 Try.results13 rfl ⟨trivial, rv _ rfl, trivial⟩ (by kernel_rfl) rfl ?_
  unfold games_Safe at h
  refine AWP.seq ?_
  refine AWP.region ?_
  refine W.box rfl rfl rfl rfl rfl rfl ?_
  refine AOps.assign rfl rfl ?_
  refine W.alloc rfl rfl rfl rfl ?_
  refine AOps.nil ?_
  refine thn_normal ?_
  refine AWP.seq ?_
  refine AWP.seq ?_
  obtain ⟨a15, ha15, h⟩ := bind_some h
  refine AWP.region ?_
  refine W.loadAgg rfl rfl rfl rfl rfl rfl rfl ?_
  refine AOps.move rfl rfl ?_
  refine AOps.move rfl rfl ?_
  refine AOps.callR rfl rfl rfl rfl (games_check_ok ha15) rfl ?_
  refine W.alloc rfl rfl rfl rfl ?_
  refine W.storeAgg rfl rfl rfl rfl rfl rfl rfl ?_
  refine AOps.nil ?_
  refine thn_normal ?_
  refine AWP.seq ?_
  refine AWP.region ?_
  refine W.loadAgg rfl rfl rfl rfl rfl rfl rfl ?_
  refine W.build rfl rfl rfl rfl ?_
  refine AOps.neqP rfl rfl rfl rfl rfl rfl rfl ?_
  refine AOps.nil ?_
  refine thn_normal ?_
  refine AWP.iteB rfl h (fun hc4 h => ?_) (fun hc4 h => ?_)
  · refine AWP.seq ?_
    refine AWP.drawEI [2] mixed rfl rfl rfl ?_
    apply DrawSeqE.consN; exact rfl; exact rfl; intro E
    refine W.loadAgg rfl rfl rfl rfl rfl rfl rfl ?_
    exact AOps.nil ⟨rfl, rfl⟩
    exact rfl
    apply DrawSeqE.consN; exact rfl; exact rfl; intro E
    refine AOps.assign rfl rfl ?_
    exact AOps.nil ⟨rfl, rfl⟩
    exact rfl
    apply DrawSeqE.consE (v := .undef); exact rfl; exact rfl; intro E
    refine W.storeAgg rfl rfl rfl rfl rfl rfl rfl ?_
    exact AOps.nil ⟨rfl, rfl⟩
    exact rfl
    exact rfl
    refine DrawSeqE.done rfl ?_ ?_
    · apply RestI.cons; exact rfl; exact rfl
      first | refine RestK.skip rfl ?_ | (apply RestK.go; exact rfl; exact rfl; intro E; (refine W.loadAgg rfl rfl rfl rfl rfl rfl rfl ?_); exact AOps.nil ⟨rfl, rfl⟩)
      first | refine RestK.skip rfl ?_ | (apply RestK.go; exact rfl; exact rfl; intro E; (refine W.loadAgg rfl rfl rfl rfl rfl rfl rfl ?_); exact AOps.nil ⟨rfl, rfl⟩)
      exact RestK.nil
      apply RestI.cons; exact rfl; exact rfl
      first | refine RestK.skip rfl ?_ | (apply RestK.go; exact rfl; exact rfl; intro E; (refine AOps.assign rfl rfl ?_); exact AOps.nil ⟨rfl, rfl⟩)
      first | refine RestK.skip rfl ?_ | (apply RestK.go; exact rfl; exact rfl; intro E; (refine AOps.assign rfl rfl ?_); exact AOps.nil ⟨rfl, rfl⟩)
      exact RestK.nil
      refine RestI.skip rfl ?_
      exact RestI.nil
    dsimp only [envEnd]
    refine thn_normal ?_
    refine AWP.nilrow 1 6 rfl ?_
    refine AWP.ret ?_
    refine thn_ret ?_
    have ej := Option.some.inj h
    subst ej
    exact Done.ret rfl rfl
  · refine AWP.skip ?_
    refine thn_normal ?_
    refine AWP.seq ?_
    refine AWP.region ?_
    refine AOps.assign rfl rfl ?_
    refine AOps.nil ?_
    refine thn_normal ?_
    refine AWP.seq ?_
    refine AWP.seq ?_
    obtain ⟨a24, ha24, h⟩ := bind_some h
    refine AWP.region ?_
    refine W.loadAgg rfl rfl rfl rfl rfl rfl rfl ?_
    refine AOps.move rfl rfl ?_
    refine S.sub rfl rfl rfl ?_
    refine AOps.move rfl rfl ?_
    refine S.fresh rfl rfl rfl rfl (games_attract_ok ha24) rfl rfl ?_
    refine S.lenO rfl rfl rfl (fun hl25 => ?_)
    refine AOps.move rfl rfl ?_
    refine AOps.nil ?_
    refine thn_normal ?_
    refine AWP.block ?_
    refine AWP.virtV 1 intI 9 rfl rfl rfl ?_
    obtain ⟨c5, ho1, h⟩ := bind_some h
    refine AWP.forS ho1 (fun t6 c5 => ⟨[(7, .c (.ptr 1 0 0)), (9, .c (.own 4 0 c5.length)), (24, .c (.own 3 0 a24.length)), (25, .c (int (a24.length : Int))), (26, .c (int t6))], [.dead, .one (.cells 2 [[int 0, int 0]]), .dead, .one (vec 1 intI a24), .one (vec 1 intI c5)]⟩) (fun c5 e st => e = .exit 0 ∧ Sub [] st ⟨[(7, .c (.ptr 1 0 0)), (9, .c (.own 4 0 c5.length))], [.dead, .one (.cells 2 [[int 0, int 0]]), .dead, .one (vec 1 intI a24), .one (vec 1 intI c5)]⟩) ?_ ?_ ?_ ?_
    · try dsimp only
      exact Sub.cut ⟨rfl, (own_len (by first | rfl | simp only [List.length_set])), rfl, rfl, rfl, trivial⟩ rfl ⟨.dead, .one rfl, .dead, .vec, .vec, trivial⟩ rfl
    · intro t6 c5 hlot6 hltt6 _
      try dsimp only
      refine AWP.seq ?_
      refine AWP.region ?_
      refine AOps.lss rfl rfl rfl ?_
      refine AOps.nil ?_
      refine thn_normal ?_
      refine AWP.seq ?_
      refine AWP.condNP rfl hltt6 ?_
      refine AWP.exit ?_
      refine thn_exit ?_
      refine thn_exit ⟨rfl, ?_⟩
      exact Sub.env ⟨rfl, rfl, trivial⟩
    · intro t6 c5 o hlot6 hltt6 h
      unfold games_Safe_l1 at h
      try dsimp only at h ⊢
      refine AWP.seq ?_
      refine AWP.region ?_
      refine AOps.lss rfl rfl rfl ?_
      refine AOps.nil ?_
      refine thn_normal ?_
      refine AWP.seq ?_
      refine AWP.condP rfl hltt6 ?_
      refine AWP.skip ?_
      refine thn_normal ?_
      obtain ⟨c7, hx8, h⟩ := bind_some h
      refine AWP.seqJ (⟨[(7, .c (.ptr 1 0 0)), (9, .c (.own 6 0 c7.length)), (24, .c (.own 3 0 a24.length)), (25, .c (int (a24.length : Int))), (26, .c (int t6))], [.dead, .one (.cells 2 [[int 0, int 0]]), .dead, .one (vec 1 intI a24), .dead, .dead, .one (vec 1 intI c7)]⟩) ?_ ?_
      · refine AWP.block ?_
        refine AWP.seq ?_
        obtain ⟨a29, ha29, hx8⟩ := bind_some hx8
        refine AWP.region ?_
        refine AOps.move rfl rfl ?_
        refine S.idxO ha29 rfl rfl rfl rfl rfl ?_
        refine S.loadO ha29 rfl rfl rfl rfl rfl ?_
        refine AOps.assign rfl rfl ?_
        refine AOps.assign rfl rfl ?_
        refine AOps.nil ?_
        refine thn_normal ?_
        refine AWP.seq ?_
        refine AWP.region ?_
        refine AOps.move rfl rfl ?_
        refine AOps.lss rfl rfl rfl ?_
        refine AOps.nil ?_
        refine thn_normal ?_
        refine AWP.ite rfl hx8 (fun hc9 hx8 => ?_) (fun hc9 hx8 => ?_)
        · obtain ⟨a36, ha36, hx8⟩ := bind_some hx8
          refine AWP.region ?_
          refine AOps.move rfl rfl ?_
          refine AOps.move rfl rfl ?_
          refine S.lit (f := intI) (l := [t6]) (ess := [[int t6]]) rfl rfl rfl rfl rfl rfl rfl ⟨⟨.inl rfl, trivial⟩, trivial⟩ rfl rfl rfl ?_
          refine S.append (f := intI) ha36 rfl rfl rfl rfl rfl rfl (.own rfl (by simp only [List.length_set])) rfl rfl rfl rfl ?_
          refine AOps.assign rfl rfl ?_
          refine AOps.nil ?_
          refine inB_normal ?_
          have ej := Option.some.inj hx8
          subst ej
          refine thn_normal ?_
          exact Sub.cut ⟨rfl, rfl, rfl, rfl, rfl, trivial⟩ rfl ⟨.dead, .one rfl, .dead, .vec, .dead, .dead, .vec, trivial⟩ rfl
        · refine AWP.skip ?_
          refine inB_normal ?_
          have ej := Option.some.inj hx8
          subst ej
          refine thn_normal ?_
          exact (Sub.move (env' := [(7, .c (.ptr 1 0 0)), (9, .c (.own 6 0 c5.length)), (24, .c (.own 3 0 a24.length)), (25, .c (int (a24.length : Int))), (26, .c (int t6))]) (σ' := [.dead, .one (.cells 2 [[int 0, int 0]]), .dead, .one (vec 1 intI a24), .dead, .dead, .one (vec 1 intI c5)]) 6 4 rfl rfl rfl ⟨rfl, rfl, rfl, rfl, rfl, trivial⟩ rfl ⟨trivial, ⟨rfl, rfl⟩, trivial, ⟨Blk.im_ok _ _ _, vec_mv rfl⟩, trivial, trivial, ⟨Blk.im_ok _ _ _, vec_mv rfl⟩, trivial⟩).trans (Sub.env ⟨rfl, rfl, rfl, rfl, rfl, trivial⟩)
      · refine AWP.region ?_
        refine AOps.add rfl rfl rfl (by omega) ?_
        refine AOps.move rfl rfl ?_
        refine AOps.nil ?_
        have ej := Option.some.inj h
        subst ej
        refine thn_normal ?_
        exact (Sub.move (env' := [(7, .c (.ptr 1 0 0)), (9, .c (.own 4 0 c7.length)), (24, .c (.own 3 0 a24.length)), (25, .c (int (a24.length : Int))), (26, .c (int (t6 + 1)))]) (σ' := [.dead, .one (.cells 2 [[int 0, int 0]]), .dead, .one (vec 1 intI a24), .one (vec 1 intI c7), .dead]) 4 6 rfl rfl rfl ⟨rfl, rfl, rfl, rfl, rfl, trivial⟩ rfl ⟨trivial, ⟨rfl, rfl⟩, trivial, ⟨Blk.im_ok _ _ _, vec_mv rfl⟩, ⟨Blk.im_ok _ _ _, vec_mv rfl⟩, trivial, trivial⟩).trans (Sub.cut ⟨rfl, rfl, rfl, rfl, rfl, trivial⟩ rfl ⟨.dead, .one rfl, .dead, .vec, .vec, trivial⟩ rfl)
    · intro e s hq
      obtain ⟨rfl, hs⟩ := hq
      refine ⟨_, hs, ?_⟩
      refine inB_exit ?_
      refine thn_normal ?_
      refine AWP.seq ?_
      refine AWP.region ?_
      refine AOps.move rfl rfl ?_
      refine W.build rfl rfl rfl rfl ?_
      refine AOps.assign rfl rfl ?_
      refine W.storeAgg rfl rfl rfl rfl rfl rfl rfl ?_
      refine AOps.nil ?_
      refine thn_normal ?_
      refine AWP.frzV (env2 := [(6, .c (row 1 intI c5)), (7, .c (.ptr 1 0 0))]) (σ2 := [.dead, .one (.cells 2 [[int 0, int 0]]), .dead, .one (vec 1 intI a24), .dead]) rfl rfl ⟨⟨_, rfl, .inr ⟨_, rfl, rfl, rfl⟩⟩, ⟨_, rfl, .inl ⟨rfl, rfl⟩⟩, trivial⟩ rfl ⟨trivial, ⟨rfl, .inl ⟨rfl, rfl⟩, .inl ⟨rfl, rfl⟩, trivial⟩, trivial, FrzB.vec, trivial, trivial⟩ ?_
      refine AWP.ret ?_
      have ej := Option.some.inj h
      subst ej
      exact Done.ret rfl rfl

def ref1_In (nv : Int) (low : Int) (high : Int) : Option Bool := some ((decide (low ≤ nv)) && (decide (nv ≤ high)))
theorem ref1_In_ok {nv : Int} {low : Int} {high : Int} {r : Bool} (h : ref1_In nv low high = some r) : PureOk Try.prog 23 [.c (int nv), .c (int low), .c (int high)] (.c (bool r)) := by
  unfold PureOk
  refine FnOk.enter (rs := [.t 6]) Try.func23 rfl Try.ntmps23 Try.results23 rfl ⟨trivial, trivial⟩ (by kernel_rfl) rfl ?_
  unfold ref1_In at h
  refine AWP.seq ?_
  refine AWP.region ?_
  refine AOps.assign rfl rfl ?_
  refine AOps.nil ?_
  refine thn_normal ?_
  refine AWP.seqJ (⟨[(6, .c (bool ((decide (low ≤ nv)) && (decide (nv ≤ high)))))], []⟩) ?_ ?_
  · rcases Bool.eq_false_or_eq_true (decide (low ≤ nv)) with hb1 | hb1
    · refine AWP.region ?_
      refine AOps.move rfl rfl ?_
      refine AOps.move rfl rfl ?_
      refine AOps.geq rfl rfl rfl ?_
      refine AOps.move rfl rfl ?_
      refine AOps.guardT rfl rfl rfl hb1 ?_; refine AOps.move rfl rfl ?_
      refine AOps.guardT rfl rfl rfl hb1 ?_; refine AOps.move rfl rfl ?_
      refine AOps.guardT rfl rfl rfl hb1 ?_; refine AOps.leq rfl rfl rfl ?_
      refine AOps.pickT rfl hb1 rfl rfl ?_
      refine AOps.assign rfl rfl ?_
      refine AOps.nil ?_
      refine thn_normal ?_
      simp only [and_t hb1, or_t hb1]
      exact Sub.env ⟨rfl, trivial⟩
    · refine AWP.region ?_
      refine AOps.move rfl rfl ?_
      refine AOps.move rfl rfl ?_
      refine AOps.geq rfl rfl rfl ?_
      refine AOps.move rfl rfl ?_
      refine AOps.guardF rfl rfl rfl hb1 ?_
      refine AOps.guardF rfl rfl rfl hb1 ?_
      refine AOps.guardF rfl rfl rfl hb1 ?_
      refine AOps.pickF rfl hb1 rfl rfl ?_
      refine AOps.assign rfl rfl ?_
      refine AOps.nil ?_
      refine thn_normal ?_
      simp only [and_f hb1, or_f hb1]
      exact Sub.env ⟨rfl, trivial⟩
  · refine AWP.ret ?_
    have ej := Option.some.inj h
    subst ej
    exact Done.ret rfl rfl

def ref1_At (code : Int) (index : Int) : Option TFault := some (⟨code, index⟩ : TFault)
theorem ref1_At_ok {code : Int} {index : Int} {r : TFault} (h : ref1_At code index = some r) : PureOk Try.prog 22 [.c (int code), .c (int index)] (.agg [int r.code, int r.index]) := by
  unfold PureOk
  refine FnOk.enter (rs := [.cell 4 27 2]) Try.func22 rfl Try.ntmps22 Try.results22 rfl ⟨rv _ rfl, trivial⟩ (by kernel_rfl) rfl ?_
  unfold ref1_At at h
  refine AWP.seq ?_
  refine AWP.region ?_
  refine W.alloc rfl rfl rfl rfl ?_
  refine AOps.nil ?_
  refine thn_normal ?_
  refine AWP.seq ?_
  refine AWP.region ?_
  refine AOps.move rfl rfl ?_
  refine AOps.move rfl rfl ?_
  refine W.build rfl rfl rfl rfl ?_
  refine W.storeAgg rfl rfl rfl rfl rfl rfl rfl ?_
  refine AOps.nil ?_
  refine thn_normal ?_
  refine AWP.ret ?_
  have ej := Option.some.inj h
  subst ej
  exact Done.ret rfl rfl

def ref8_GameFault_l1 (gv : TGame) : Int → Unit → Option (Unit ⊕ TFault) := fun iv4 _ => Option.bind (ix gv.owner iv4) fun a27 => Option.bind (ref1_In a27 0 1) fun a29 => if (!a29) = true then Option.bind (ref1_At 3 ((-2) - iv4)) fun a33 => some (.inr a33) else some (.inl ())
def ref8_GameFault_l2 (gv : TGame) : Int → Unit → Option (Unit ⊕ TFault) := fun iv6 _ => Option.bind (ix gv.arcs iv6) fun a44 => Option.bind (Option.bind (ref1_In a44.1 0 ((gv.owner.length : Int) - 1)) fun a50 => if (!a50) = true then some true else Option.bind (ref1_In a44.2 0 ((gv.owner.length : Int) - 1)) fun a57 => some (!a57)) fun t7 => if t7 = true then Option.bind (ref1_At 3 iv6) fun a61 => some (.inr a61) else Option.bind (if 0 < iv6 then Option.bind (ix gv.arcs (iv6 - 1)) fun a75 => Option.bind (ix gv.arcs (iv6 - 1)) fun a83 => some (decide (w64 ((w64 (100 * a44.1)) + a44.2) ≤ w64 ((w64 (100 * a75.1)) + a83.2))) else some false) fun t11 => if t11 = true then Option.bind (ref1_At 5 iv6) fun a90 => some (.inr a90) else some (.inl ())
def ref8_GameFault (gv : TGame) : Option TFault := Option.bind (ref1_In (gv.owner.length : Int) 1 24) fun a11 => if (!a11) = true then Option.bind (ref1_At 9 (-1)) fun a13 => some a13 else if 60 < (gv.arcs.length : Int) then Option.bind (ref1_At 2 (-1)) fun a18 => some a18 else (Option.bind (rngX 0 (gv.owner.length : Int) (ref8_GameFault_l1 gv) ()) fun | .inl _ => (Option.bind (rngX 0 (gv.arcs.length : Int) (ref8_GameFault_l2 gv) ()) fun | .inl _ => some (⟨0, 0⟩ : TFault) | .inr x => some x) | .inr x => some x)
theorem ref8_GameFault_ok {gv : TGame} {r : TFault} (h : ref8_GameFault gv = some r) : PureOk Try.prog 16 [.agg [row 1 intI gv.owner, row 2 eA2i64 gv.arcs]] (.agg [int r.code, int r.index]) := by
  unfold PureOk
  refine FnOk.enter (rs := [.cell 2 27 2]) Try.func16 rfl Try.ntmps16 Try.results16 rfl ⟨rv _ rfl, trivial⟩ (by kernel_rfl) rfl ?_
  unfold ref8_GameFault at h
  refine AWP.seq ?_
  refine AWP.region ?_
  refine W.box rfl rfl rfl rfl rfl rfl ?_
  refine W.alloc rfl rfl rfl rfl ?_
  refine AOps.nil ?_
  refine thn_normal ?_
  refine AWP.seq ?_
  refine AWP.region ?_
  refine W.fieldAddr rfl rfl rfl rfl ?_
  refine AOps.load rfl rfl rfl rfl rfl rfl ?_
  refine S.len rfl rfl (fun hl9 => ?_)
  refine AOps.assign rfl rfl ?_
  refine AOps.nil ?_
  refine thn_normal ?_
  refine AWP.seq ?_
  refine AWP.seq ?_
  obtain ⟨a11, ha11, h⟩ := bind_some h
  refine AWP.region ?_
  refine AOps.move rfl rfl ?_
  refine AOps.callR rfl rfl rfl rfl (ref1_In_ok ha11) rfl ?_
  refine AOps.not rfl rfl ?_
  refine AOps.nil ?_
  refine thn_normal ?_
  refine AWP.iteB rfl h (fun hc2 h => ?_) (fun hc2 h => ?_)
  · refine AWP.seq ?_
    obtain ⟨a13, ha13, h⟩ := bind_some h
    refine AWP.region ?_
    refine AOps.callR rfl rfl rfl rfl (ref1_At_ok ha13) rfl ?_
    refine W.storeAgg rfl rfl rfl rfl rfl rfl rfl ?_
    refine AOps.nil ?_
    refine thn_normal ?_
    refine AWP.ret ?_
    refine thn_ret ?_
    have ej := Option.some.inj h
    subst ej
    exact Done.ret rfl rfl
  · refine AWP.skip ?_
    refine thn_normal ?_
    refine AWP.seq ?_
    refine AWP.seq ?_
    refine AWP.region ?_
    refine W.fieldAddr rfl rfl rfl rfl ?_
    refine AOps.load rfl rfl rfl rfl rfl rfl ?_
    refine S.len rfl rfl (fun hl16 => ?_)
    refine AOps.gtr rfl rfl rfl ?_
    refine AOps.nil ?_
    refine thn_normal ?_
    refine AWP.ite rfl h (fun hc3 h => ?_) (fun hc3 h => ?_)
    · refine AWP.seq ?_
      obtain ⟨a18, ha18, h⟩ := bind_some h
      refine AWP.region ?_
      refine AOps.callR rfl rfl rfl rfl (ref1_At_ok ha18) rfl ?_
      refine W.storeAgg rfl rfl rfl rfl rfl rfl rfl ?_
      refine AOps.nil ?_
      refine thn_normal ?_
      refine AWP.ret ?_
      refine thn_ret ?_
      have ej := Option.some.inj h
      subst ej
      exact Done.ret rfl rfl
    · refine AWP.skip ?_
      refine thn_normal ?_
      refine AWP.seq ?_
      refine AWP.seq ?_
      refine AWP.region ?_
      refine AOps.assign rfl rfl ?_
      refine AOps.nil ?_
      refine thn_normal ?_
      refine AWP.block ?_
      obtain ⟨oo, ho1, h⟩ := bind_some h
      refine AWP.rngS ho1 (fun iv4 _ => ⟨[(1, .c (.ptr 0 0 0)), (2, .c (.ptr 1 0 0)), (3, .c (int (gv.owner.length : Int))), (4, .c (int iv4))], [.one (.cells 2 [[row 1 intI gv.owner, row 2 eA2i64 gv.arcs]]), .one (.cells 2 [[int 0, int 0]])]⟩) (fun o e st => match o with | .inl _ => e = .exit 0 ∧ Sub [] st ⟨[(1, .c (.ptr 0 0 0)), (2, .c (.ptr 1 0 0)), (3, .c (int (gv.owner.length : Int)))], [.one (.cells 2 [[row 1 intI gv.owner, row 2 eA2i64 gv.arcs]]), .one (.cells 2 [[int 0, int 0]])]⟩ | .inr x => e = .ret ∧ Done [.cell 2 27 2] (fun t _ => t = .agg [int x.code, int x.index]) .ret st) ?_ ?_ ?_ ?_
      · try dsimp only
        exact Sub.env ⟨rfl, rfl, rfl, rfl, trivial⟩
      · intro iv4 s hloiv4 hltiv4 _
        try dsimp only
        refine AWP.seq ?_
        refine AWP.seq ?_
        refine AWP.region ?_
        refine AOps.move rfl rfl ?_
        refine AOps.move rfl rfl ?_
        refine AOps.lss rfl rfl rfl ?_
        refine AOps.nil ?_
        refine thn_normal ?_
        refine AWP.condNP rfl hltiv4 ?_
        refine AWP.exit ?_
        refine thn_exit ?_
        refine thn_exit ⟨rfl, ?_⟩
        exact Sub.env ⟨rfl, rfl, rfl, trivial⟩
      · intro iv4 s o hloiv4 hltiv4 h
        unfold ref8_GameFault_l1 at h
        try dsimp only at h ⊢
        refine AWP.seq ?_
        refine AWP.seq ?_
        refine AWP.region ?_
        refine AOps.move rfl rfl ?_
        refine AOps.move rfl rfl ?_
        refine AOps.lss rfl rfl rfl ?_
        refine AOps.nil ?_
        refine thn_normal ?_
        refine AWP.condP rfl hltiv4 ?_
        refine AWP.skip ?_
        refine thn_normal ?_
        refine AWP.seq ?_
        refine AWP.block ?_
        refine AWP.seq ?_
        obtain ⟨a27, ha27, h⟩ := bind_some h
        obtain ⟨a29, ha29, h⟩ := bind_some h
        refine AWP.region ?_
        refine W.fieldAddr rfl rfl rfl rfl ?_
        refine AOps.load rfl rfl rfl rfl rfl rfl ?_
        refine AOps.move rfl rfl ?_
        refine S.idx ha27 rfl rfl rfl rfl ?_
        refine AOps.loadI rfl rfl rfl rfl ?_
        refine AOps.callR rfl rfl rfl rfl (ref1_In_ok ha29) rfl ?_
        refine AOps.not rfl rfl ?_
        refine AOps.nil ?_
        refine thn_normal ?_
        refine AWP.iteB rfl h (fun hc5 h => ?_) (fun hc5 h => ?_)
        · refine AWP.seq ?_
          obtain ⟨a33, ha33, h⟩ := bind_some h
          refine AWP.region ?_
          refine AOps.move rfl rfl ?_
          refine AOps.sub' rfl rfl rfl (by omega) ?_
          refine AOps.callR rfl rfl rfl rfl (ref1_At_ok ha33) rfl ?_
          refine W.storeAgg rfl rfl rfl rfl rfl rfl rfl ?_
          refine AOps.nil ?_
          refine thn_normal ?_
          refine AWP.ret ?_
          refine inB_ret ?_
          refine thn_ret ?_
          have ej := Option.some.inj h
          subst ej
          refine thn_ret ⟨_, rfl, rfl, ?_⟩
          exact Done.ret rfl rfl
        · refine AWP.skip ?_
          refine inB_normal ?_
          refine thn_normal ?_
          refine AWP.region ?_
          refine AOps.move rfl rfl ?_
          refine AOps.add rfl rfl rfl (by omega) ?_
          refine AOps.assign rfl rfl ?_
          refine AOps.nil ?_
          have ej := Option.some.inj h
          subst ej
          refine thn_normal ⟨_, rfl, ?_⟩
          exact Sub.env ⟨rfl, rfl, rfl, rfl, trivial⟩
      · intro e s hq
        rcases oo with u | x
        · try dsimp only at h hq
          obtain ⟨rfl, hs⟩ := hq
          refine ⟨_, hs, ?_⟩
          refine inB_exit ?_
          refine thn_normal ?_
          refine AWP.seq ?_
          refine AWP.seq ?_
          refine AWP.region ?_
          refine AOps.assign rfl rfl ?_
          refine AOps.nil ?_
          refine thn_normal ?_
          refine AWP.block ?_
          obtain ⟨oo, ho2, h⟩ := bind_some h
          refine AWP.rngS ho2 (fun iv6 _ => ⟨[(1, .c (.ptr 0 0 0)), (2, .c (.ptr 1 0 0)), (3, .c (int (gv.owner.length : Int))), (5, .c (int iv6))], [.one (.cells 2 [[row 1 intI gv.owner, row 2 eA2i64 gv.arcs]]), .one (.cells 2 [[int 0, int 0]])]⟩) (fun o e st => match o with | .inl _ => e = .exit 2 ∧ Sub [] st ⟨[(2, .c (.ptr 1 0 0))], [.one (.cells 2 [[row 1 intI gv.owner, row 2 eA2i64 gv.arcs]]), .one (.cells 2 [[int 0, int 0]])]⟩ | .inr x => e = .ret ∧ Done [.cell 2 27 2] (fun t _ => t = .agg [int x.code, int x.index]) .ret st) ?_ ?_ ?_ ?_
          · try dsimp only
            exact Sub.env ⟨rfl, rfl, rfl, rfl, trivial⟩
          · intro iv6 s hloiv6 hltiv6 _
            try dsimp only
            refine AWP.seq ?_
            refine AWP.seq ?_
            refine AWP.region ?_
            refine AOps.move rfl rfl ?_
            refine W.fieldAddr rfl rfl rfl rfl ?_
            refine AOps.load rfl rfl rfl rfl rfl rfl ?_
            refine S.len rfl rfl (fun hl37 => ?_)
            refine AOps.lss rfl rfl rfl ?_
            refine AOps.nil ?_
            refine thn_normal ?_
            refine AWP.condNP rfl hltiv6 ?_
            refine AWP.exit ?_
            refine thn_exit ?_
            refine thn_exit ⟨rfl, ?_⟩
            exact Sub.env ⟨rfl, trivial⟩
          · intro iv6 s o hloiv6 hltiv6 h
            unfold ref8_GameFault_l2 at h
            try dsimp only at h ⊢
            refine AWP.seq ?_
            refine AWP.seq ?_
            refine AWP.region ?_
            refine AOps.move rfl rfl ?_
            refine W.fieldAddr rfl rfl rfl rfl ?_
            refine AOps.load rfl rfl rfl rfl rfl rfl ?_
            refine S.len rfl rfl (fun hl37 => ?_)
            refine AOps.lss rfl rfl rfl ?_
            refine AOps.nil ?_
            refine thn_normal ?_
            refine AWP.condP rfl hltiv6 ?_
            refine AWP.skip ?_
            refine thn_normal ?_
            refine AWP.seq ?_
            refine AWP.block ?_
            refine AWP.seq ?_
            obtain ⟨a44, ha44, h⟩ := bind_some h
            refine AWP.region ?_
            refine W.fieldAddr rfl rfl rfl rfl ?_
            refine AOps.load rfl rfl rfl rfl rfl rfl ?_
            refine AOps.move rfl rfl ?_
            refine S.idx ha44 rfl rfl rfl rfl ?_
            refine W.loadIAgg rfl rfl rfl rfl rfl ?_
            refine W.alloc rfl rfl rfl rfl ?_
            refine W.storeAgg rfl rfl rfl rfl rfl rfl rfl ?_
            refine AOps.nil ?_
            refine thn_normal ?_
            refine AWP.seq ?_
            obtain ⟨t7, hx8, h⟩ := bind_some h
            refine AWP.seqJ (⟨[(1, .c (.ptr 0 0 0)), (2, .c (.ptr 1 0 0)), (3, .c (int (gv.owner.length : Int))), (5, .c (int iv6)), (6, .c (.ptr 2 0 0)), (59, .c (bool t7))], [.one (.cells 2 [[row 1 intI gv.owner, row 2 eA2i64 gv.arcs]]), .one (.cells 2 [[int 0, int 0]]), .one (.cells 2 [[int a44.1, int a44.2]])]⟩) ?_ ?_
            · obtain ⟨a50, ha50, hx8⟩ := bind_some hx8
              rcases Bool.eq_false_or_eq_true (!a50) with hb9 | hb9
              · replace hx8 := iteBT hb9 hx8
                refine AWP.region ?_
                refine W.idxArr rfl rfl rfl rfl (Nat.le_of_ble_eq_true rfl) rfl ?_
                refine AOps.load rfl rfl rfl rfl rfl rfl ?_
                refine AOps.move rfl rfl ?_
                refine AOps.sub' rfl rfl rfl (by omega) ?_
                refine AOps.callR rfl rfl rfl rfl (ref1_In_ok ha50) rfl ?_
                refine AOps.not rfl rfl ?_
                refine AOps.move rfl rfl ?_
                refine AOps.guardF rfl rfl rfl hb9 ?_
                refine AOps.guardF rfl rfl rfl hb9 ?_
                refine AOps.guardF rfl rfl rfl hb9 ?_
                refine AOps.guardF rfl rfl rfl hb9 ?_
                refine AOps.guardF rfl rfl rfl hb9 ?_
                refine AOps.guardF rfl rfl rfl hb9 ?_
                refine AOps.pickT rfl hb9 rfl rfl ?_
                refine AOps.nil ?_
                have ej := Option.some.inj hx8
                subst ej
                refine thn_normal ?_
                exact Sub.env ⟨rfl, rfl, rfl, rfl, rfl, rfl, trivial⟩
              · replace hx8 := iteBF hb9 hx8
                obtain ⟨a57, ha57, hx8⟩ := bind_some hx8
                refine AWP.region ?_
                refine W.idxArr rfl rfl rfl rfl (Nat.le_of_ble_eq_true rfl) rfl ?_
                refine AOps.load rfl rfl rfl rfl rfl rfl ?_
                refine AOps.move rfl rfl ?_
                refine AOps.sub' rfl rfl rfl (by omega) ?_
                refine AOps.callR rfl rfl rfl rfl (ref1_In_ok ha50) rfl ?_
                refine AOps.not rfl rfl ?_
                refine AOps.move rfl rfl ?_
                refine AOps.guardT rfl rfl rfl hb9 ?_; refine W.idxArr rfl rfl rfl rfl (Nat.le_of_ble_eq_true rfl) rfl ?_
                refine AOps.guardT rfl rfl rfl hb9 ?_; refine AOps.load rfl rfl rfl rfl rfl rfl ?_
                refine AOps.guardT rfl rfl rfl hb9 ?_; refine AOps.move rfl rfl ?_
                refine AOps.guardT rfl rfl rfl hb9 ?_; refine AOps.sub' rfl rfl rfl (by omega) ?_
                refine AOps.guardT rfl rfl rfl hb9 ?_; refine AOps.callR rfl rfl rfl rfl (ref1_In_ok ha57) rfl ?_
                refine AOps.guardT rfl rfl rfl hb9 ?_; refine AOps.not rfl rfl ?_
                refine AOps.pickF rfl hb9 rfl rfl ?_
                refine AOps.nil ?_
                have ej := Option.some.inj hx8
                subst ej
                refine thn_normal ?_
                exact Sub.env ⟨rfl, rfl, rfl, rfl, rfl, rfl, trivial⟩
            · refine AWP.iteB rfl h (fun hc10 h => ?_) (fun hc10 h => ?_)
              · refine AWP.seq ?_
                obtain ⟨a61, ha61, h⟩ := bind_some h
                refine AWP.region ?_
                refine AOps.move rfl rfl ?_
                refine AOps.callR rfl rfl rfl rfl (ref1_At_ok ha61) rfl ?_
                refine W.storeAgg rfl rfl rfl rfl rfl rfl rfl ?_
                refine AOps.nil ?_
                refine thn_normal ?_
                refine AWP.ret ?_
                refine thn_ret ?_
                refine inB_ret ?_
                refine thn_ret ?_
                have ej := Option.some.inj h
                subst ej
                refine thn_ret ⟨_, rfl, rfl, ?_⟩
                exact Done.ret rfl rfl
              · refine AWP.skip ?_
                refine thn_normal ?_
                obtain ⟨t11, hx12, h⟩ := bind_some h
                refine AWP.seqJ (⟨[(1, .c (.ptr 0 0 0)), (2, .c (.ptr 1 0 0)), (3, .c (int (gv.owner.length : Int))), (5, .c (int iv6)), (88, .c (bool t11))], [.one (.cells 2 [[row 1 intI gv.owner, row 2 eA2i64 gv.arcs]]), .one (.cells 2 [[int 0, int 0]])]⟩) ?_ ?_
                · rcases Bool.eq_false_or_eq_true (decide (0 < iv6)) with hb13 | hb13
                  · replace hx12 := iteDT hb13 hx12
                    obtain ⟨a75, ha75, hx12⟩ := bind_some hx12
                    obtain ⟨a83, ha83, hx12⟩ := bind_some hx12
                    refine AWP.drawI mixed rfl ?_
                    apply DrawSeq.consF; exact rfl; intro E
                    refine AOps.move rfl rfl ?_
                    exact AOps.nil ⟨rfl, rfl⟩
                    exact rfl
                    apply DrawSeq.consF; exact rfl; intro E
                    refine AOps.gtr rfl rfl rfl ?_
                    exact AOps.nil ⟨rfl, rfl⟩
                    exact rfl
                    apply DrawSeq.consF; exact rfl; intro E
                    refine AOps.move rfl rfl ?_
                    exact AOps.nil ⟨rfl, rfl⟩
                    exact rfl
                    apply DrawSeq.consF; exact rfl; intro E
                    refine AOps.guardT rfl rfl rfl hb13 ?_; refine W.idxArr rfl rfl rfl rfl (Nat.le_of_ble_eq_true rfl) rfl ?_
                    exact AOps.nil ⟨rfl, rfl⟩
                    exact rfl
                    apply DrawSeq.consF; exact rfl; intro E
                    refine AOps.guardT rfl rfl rfl hb13 ?_; refine AOps.load rfl rfl rfl rfl rfl rfl ?_
                    exact AOps.nil ⟨rfl, rfl⟩
                    exact rfl
                    apply DrawSeq.consF; exact rfl; intro E
                    refine AOps.guardT rfl rfl rfl hb13 ?_; refine S.mul rfl rfl rfl ?_
                    exact AOps.nil ⟨rfl, rfl⟩
                    exact rfl
                    apply DrawSeq.consF; exact rfl; intro E
                    refine AOps.guardT rfl rfl rfl hb13 ?_; refine W.idxArr rfl rfl rfl rfl (Nat.le_of_ble_eq_true rfl) rfl ?_
                    exact AOps.nil ⟨rfl, rfl⟩
                    exact rfl
                    apply DrawSeq.consF; exact rfl; intro E
                    refine AOps.guardT rfl rfl rfl hb13 ?_; refine AOps.load rfl rfl rfl rfl rfl rfl ?_
                    exact AOps.nil ⟨rfl, rfl⟩
                    exact rfl
                    apply DrawSeq.consF; exact rfl; intro E
                    refine AOps.guardT rfl rfl rfl hb13 ?_; refine S.add rfl rfl rfl ?_
                    exact AOps.nil ⟨rfl, rfl⟩
                    exact rfl
                    apply DrawSeq.consF; exact rfl; intro E
                    refine AOps.guardT rfl rfl rfl hb13 ?_; refine W.fieldAddr rfl rfl rfl rfl ?_
                    exact AOps.nil ⟨rfl, rfl⟩
                    exact rfl
                    apply DrawSeq.consF; exact rfl; intro E
                    refine AOps.guardT rfl rfl rfl hb13 ?_; refine AOps.load rfl rfl rfl rfl rfl rfl ?_
                    exact AOps.nil ⟨rfl, rfl⟩
                    exact rfl
                    apply DrawSeq.consF; exact rfl; intro E
                    refine AOps.guardT rfl rfl rfl hb13 ?_; refine AOps.move rfl rfl ?_
                    exact AOps.nil ⟨rfl, rfl⟩
                    exact rfl
                    apply DrawSeq.consF; exact rfl; intro E
                    refine AOps.guardT rfl rfl rfl hb13 ?_; refine AOps.sub' rfl rfl rfl (by omega) ?_
                    exact AOps.nil ⟨rfl, rfl⟩
                    exact rfl
                    apply DrawSeq.consF; exact rfl; intro E
                    refine AOps.guardT rfl rfl rfl hb13 ?_; refine S.idx ha75 rfl rfl rfl rfl ?_
                    exact AOps.nil ⟨rfl, rfl⟩
                    exact rfl
                    apply DrawSeq.consF; exact rfl; intro E
                    refine AOps.guardT rfl rfl rfl hb13 ?_; refine W.idxArrI rfl rfl rfl (Nat.le_of_ble_eq_true rfl) rfl rfl ?_
                    exact AOps.nil ⟨rfl, rfl⟩
                    exact rfl
                    apply DrawSeq.consF; exact rfl; intro E
                    refine AOps.guardT rfl rfl rfl hb13 ?_; refine AOps.loadI rfl rfl rfl rfl ?_
                    exact AOps.nil ⟨rfl, rfl⟩
                    exact rfl
                    apply DrawSeq.consF; exact rfl; intro E
                    refine AOps.guardT rfl rfl rfl hb13 ?_; refine S.mul rfl rfl rfl ?_
                    exact AOps.nil ⟨rfl, rfl⟩
                    exact rfl
                    apply DrawSeq.consF; exact rfl; intro E
                    refine AOps.guardT rfl rfl rfl hb13 ?_; refine W.fieldAddr rfl rfl rfl rfl ?_
                    exact AOps.nil ⟨rfl, rfl⟩
                    exact rfl
                    apply DrawSeq.consF; exact rfl; intro E
                    refine AOps.guardT rfl rfl rfl hb13 ?_; refine AOps.load rfl rfl rfl rfl rfl rfl ?_
                    exact AOps.nil ⟨rfl, rfl⟩
                    exact rfl
                    apply DrawSeq.consF; exact rfl; intro E
                    refine AOps.guardT rfl rfl rfl hb13 ?_; refine AOps.move rfl rfl ?_
                    exact AOps.nil ⟨rfl, rfl⟩
                    exact rfl
                    apply DrawSeq.consF; exact rfl; intro E
                    refine AOps.guardT rfl rfl rfl hb13 ?_; refine AOps.sub' rfl rfl rfl (by omega) ?_
                    exact AOps.nil ⟨rfl, rfl⟩
                    exact rfl
                    apply DrawSeq.consF; exact rfl; intro E
                    refine AOps.guardT rfl rfl rfl hb13 ?_; refine S.idx ha83 rfl rfl rfl rfl ?_
                    exact AOps.nil ⟨rfl, rfl⟩
                    exact rfl
                    apply DrawSeq.consF; exact rfl; intro E
                    refine AOps.guardT rfl rfl rfl hb13 ?_; refine W.idxArrI rfl rfl rfl (Nat.le_of_ble_eq_true rfl) rfl rfl ?_
                    exact AOps.nil ⟨rfl, rfl⟩
                    exact rfl
                    apply DrawSeq.consF; exact rfl; intro E
                    refine AOps.guardT rfl rfl rfl hb13 ?_; refine AOps.loadI rfl rfl rfl rfl ?_
                    exact AOps.nil ⟨rfl, rfl⟩
                    exact rfl
                    apply DrawSeq.consF; exact rfl; intro E
                    refine AOps.guardT rfl rfl rfl hb13 ?_; refine S.add rfl rfl rfl ?_
                    exact AOps.nil ⟨rfl, rfl⟩
                    exact rfl
                    apply DrawSeq.consF; exact rfl; intro E
                    refine AOps.guardT rfl rfl rfl hb13 ?_; refine AOps.leq rfl rfl rfl ?_
                    exact AOps.nil ⟨rfl, rfl⟩
                    exact rfl
                    apply DrawSeq.consF; exact rfl; intro E
                    refine AOps.pickT rfl hb13 rfl rfl ?_
                    exact AOps.nil ⟨rfl, rfl⟩
                    exact rfl
                    refine DrawSeq.done ?_
                    dsimp only [envEnd]
                    have ej := Option.some.inj hx12
                    subst ej
                    refine thn_normal ?_
                    exact Sub.cut ⟨rfl, rfl, rfl, rfl, rfl, trivial⟩ rfl ⟨.one rfl, .one rfl, trivial⟩ rfl
                  · replace hx12 := iteDF hb13 hx12
                    refine AWP.drawI mixed rfl ?_
                    apply DrawSeq.consF; exact rfl; intro E
                    refine AOps.move rfl rfl ?_
                    exact AOps.nil ⟨rfl, rfl⟩
                    exact rfl
                    apply DrawSeq.consF; exact rfl; intro E
                    refine AOps.gtr rfl rfl rfl ?_
                    exact AOps.nil ⟨rfl, rfl⟩
                    exact rfl
                    apply DrawSeq.consF; exact rfl; intro E
                    refine AOps.move rfl rfl ?_
                    exact AOps.nil ⟨rfl, rfl⟩
                    exact rfl
                    apply DrawSeq.consF; exact rfl; intro E
                    refine AOps.guardF rfl rfl rfl hb13 ?_
                    exact AOps.nil ⟨rfl, rfl⟩
                    exact rfl
                    apply DrawSeq.consF; exact rfl; intro E
                    refine AOps.guardF rfl rfl rfl hb13 ?_
                    exact AOps.nil ⟨rfl, rfl⟩
                    exact rfl
                    apply DrawSeq.consF; exact rfl; intro E
                    refine AOps.guardF rfl rfl rfl hb13 ?_
                    exact AOps.nil ⟨rfl, rfl⟩
                    exact rfl
                    apply DrawSeq.consF; exact rfl; intro E
                    refine AOps.guardF rfl rfl rfl hb13 ?_
                    exact AOps.nil ⟨rfl, rfl⟩
                    exact rfl
                    apply DrawSeq.consF; exact rfl; intro E
                    refine AOps.guardF rfl rfl rfl hb13 ?_
                    exact AOps.nil ⟨rfl, rfl⟩
                    exact rfl
                    apply DrawSeq.consF; exact rfl; intro E
                    refine AOps.guardF rfl rfl rfl hb13 ?_
                    exact AOps.nil ⟨rfl, rfl⟩
                    exact rfl
                    apply DrawSeq.consF; exact rfl; intro E
                    refine AOps.guardF rfl rfl rfl hb13 ?_
                    exact AOps.nil ⟨rfl, rfl⟩
                    exact rfl
                    apply DrawSeq.consF; exact rfl; intro E
                    refine AOps.guardF rfl rfl rfl hb13 ?_
                    exact AOps.nil ⟨rfl, rfl⟩
                    exact rfl
                    apply DrawSeq.consF; exact rfl; intro E
                    refine AOps.guardF rfl rfl rfl hb13 ?_
                    exact AOps.nil ⟨rfl, rfl⟩
                    exact rfl
                    apply DrawSeq.consF; exact rfl; intro E
                    refine AOps.guardF rfl rfl rfl hb13 ?_
                    exact AOps.nil ⟨rfl, rfl⟩
                    exact rfl
                    apply DrawSeq.consF; exact rfl; intro E
                    refine AOps.guardF rfl rfl rfl hb13 ?_
                    exact AOps.nil ⟨rfl, rfl⟩
                    exact rfl
                    apply DrawSeq.consF; exact rfl; intro E
                    refine AOps.guardF rfl rfl rfl hb13 ?_
                    exact AOps.nil ⟨rfl, rfl⟩
                    exact rfl
                    apply DrawSeq.consF; exact rfl; intro E
                    refine AOps.guardF rfl rfl rfl hb13 ?_
                    exact AOps.nil ⟨rfl, rfl⟩
                    exact rfl
                    apply DrawSeq.consF; exact rfl; intro E
                    refine AOps.guardF rfl rfl rfl hb13 ?_
                    exact AOps.nil ⟨rfl, rfl⟩
                    exact rfl
                    apply DrawSeq.consF; exact rfl; intro E
                    refine AOps.guardF rfl rfl rfl hb13 ?_
                    exact AOps.nil ⟨rfl, rfl⟩
                    exact rfl
                    apply DrawSeq.consF; exact rfl; intro E
                    refine AOps.guardF rfl rfl rfl hb13 ?_
                    exact AOps.nil ⟨rfl, rfl⟩
                    exact rfl
                    apply DrawSeq.consF; exact rfl; intro E
                    refine AOps.guardF rfl rfl rfl hb13 ?_
                    exact AOps.nil ⟨rfl, rfl⟩
                    exact rfl
                    apply DrawSeq.consF; exact rfl; intro E
                    refine AOps.guardF rfl rfl rfl hb13 ?_
                    exact AOps.nil ⟨rfl, rfl⟩
                    exact rfl
                    apply DrawSeq.consF; exact rfl; intro E
                    refine AOps.guardF rfl rfl rfl hb13 ?_
                    exact AOps.nil ⟨rfl, rfl⟩
                    exact rfl
                    apply DrawSeq.consF; exact rfl; intro E
                    refine AOps.guardF rfl rfl rfl hb13 ?_
                    exact AOps.nil ⟨rfl, rfl⟩
                    exact rfl
                    apply DrawSeq.consF; exact rfl; intro E
                    refine AOps.guardF rfl rfl rfl hb13 ?_
                    exact AOps.nil ⟨rfl, rfl⟩
                    exact rfl
                    apply DrawSeq.consF; exact rfl; intro E
                    refine AOps.guardF rfl rfl rfl hb13 ?_
                    exact AOps.nil ⟨rfl, rfl⟩
                    exact rfl
                    apply DrawSeq.consF; exact rfl; intro E
                    refine AOps.guardF rfl rfl rfl hb13 ?_
                    exact AOps.nil ⟨rfl, rfl⟩
                    exact rfl
                    apply DrawSeq.consF; exact rfl; intro E
                    refine AOps.pickF rfl hb13 rfl rfl ?_
                    exact AOps.nil ⟨rfl, rfl⟩
                    exact rfl
                    refine DrawSeq.done ?_
                    dsimp only [envEnd]
                    have ej := Option.some.inj hx12
                    subst ej
                    refine thn_normal ?_
                    exact Sub.cut ⟨rfl, rfl, rfl, rfl, rfl, trivial⟩ rfl ⟨.one rfl, .one rfl, trivial⟩ rfl
                · refine AWP.iteB rfl h (fun hc14 h => ?_) (fun hc14 h => ?_)
                  · refine AWP.seq ?_
                    obtain ⟨a90, ha90, h⟩ := bind_some h
                    refine AWP.region ?_
                    refine AOps.move rfl rfl ?_
                    refine AOps.callR rfl rfl rfl rfl (ref1_At_ok ha90) rfl ?_
                    refine W.storeAgg rfl rfl rfl rfl rfl rfl rfl ?_
                    refine AOps.nil ?_
                    refine thn_normal ?_
                    refine AWP.ret ?_
                    refine inB_ret ?_
                    refine thn_ret ?_
                    have ej := Option.some.inj h
                    subst ej
                    refine thn_ret ⟨_, rfl, rfl, ?_⟩
                    exact Done.ret rfl rfl
                  · refine AWP.skip ?_
                    refine inB_normal ?_
                    refine thn_normal ?_
                    refine AWP.region ?_
                    refine AOps.move rfl rfl ?_
                    refine AOps.add rfl rfl rfl (by omega) ?_
                    refine AOps.assign rfl rfl ?_
                    refine AOps.nil ?_
                    have ej := Option.some.inj h
                    subst ej
                    refine thn_normal ⟨_, rfl, ?_⟩
                    exact Sub.env ⟨rfl, rfl, rfl, rfl, trivial⟩
          · intro e s hq
            rcases oo with u | x
            · try dsimp only at h hq
              obtain ⟨rfl, hs⟩ := hq
              refine ⟨_, hs, ?_⟩
              refine inB_exit ?_
              refine thn_normal ?_
              refine AWP.seq ?_
              refine AWP.region ?_
              refine W.build rfl rfl rfl rfl ?_
              refine W.storeAgg rfl rfl rfl rfl rfl rfl rfl ?_
              refine AOps.nil ?_
              refine thn_normal ?_
              refine AWP.ret ?_
              have ej := Option.some.inj h
              subst ej
              exact Done.ret rfl rfl
            · try dsimp only at h hq
              obtain ⟨rfl, hs⟩ := hq
              refine ⟨_, Sub.refl _ _, ?_⟩
              refine inB_ret ?_
              refine thn_ret ?_
              have ej := Option.some.inj h
              subst ej
              exact hs
        · try dsimp only at h hq
          obtain ⟨rfl, hs⟩ := hq
          refine ⟨_, Sub.refl _ _, ?_⟩
          refine inB_ret ?_
          refine thn_ret ?_
          have ej := Option.some.inj h
          subst ej
          exact hs

def ref8_PlayerFault_l1 (gv : TGame) (l : List Int) : (Int × Int × Int) → Option ((Int × Int × Int) ⊕ (Int × Int)) := fun (c11, c12, iv13) => if ((decide (iv13 < (l.length : Int))) && (decide (c11 = 0))) = true then Option.bind (Option.bind (ix l iv13) fun a33 => Option.bind (ref1_In a33 0 (w64 ((gv.owner.length : Int) - 1))) fun a39 => if (!a39) = true then Option.bind (ref1_At 3 (-31)) fun a41 => some (a41.code, a41.index) else Option.bind (if 0 < iv13 then Option.bind (ix l iv13) fun a47 => Option.bind (ix l (w64 (iv13 - 1))) fun a52 => some (decide (a47 ≤ a52)) else some false) fun t21 => if t21 = true then Option.bind (ref1_At 5 (-31)) fun a56 => some (a56.code, a56.index) else some (c11, c12)) fun ⟨c17, c18⟩ => some (.inl (c17, c18, w64 (iv13 + 1))) else some (.inr (c11, c12))
noncomputable def ref8_PlayerFault (gv : TGame) (player : Int) (l : List Int) : Option TFault := Option.bind (ref8_GameFault gv) fun a10 => Option.bind (Option.bind (if a10.code = 0 then Option.bind (ref1_In player 0 1) fun a16 => some (!a16) else some false) fun t7 => if t7 = true then Option.bind (ref1_At 3 (-30)) fun a19 => some (a19.code, a19.index) else some (a10.code, a10.index)) fun ⟨c4, c5⟩ => Option.bind (Loop (ref8_PlayerFault_l1 gv l) (c4, c5, 0)) fun ⟨c14, c15⟩ => some (⟨c14, c15⟩ : TFault)
theorem ref8_PlayerFault_ok {gv : TGame} {player : Int} {l : List Int} {r : TFault} (h : ref8_PlayerFault gv player l = some r) : PureOk Try.prog 14 [.agg [row 1 intI gv.owner, row 2 eA2i64 gv.arcs], .c (int player), .c (row 1 intI l)] (.agg [int r.code, int r.index]) := by
  unfold PureOk
  refine FnOk.enter (rs := [.cell 6 27 2]) Try.func14 rfl Try.ntmps14 Try.results14 rfl ⟨rv _ rfl, trivial⟩ (by kernel_rfl) rfl ?_
  unfold ref8_PlayerFault at h
  refine AWP.seq ?_
  refine AWP.region ?_
  refine W.box rfl rfl rfl rfl rfl rfl ?_
  refine W.alloc rfl rfl rfl rfl ?_
  refine AOps.nil ?_
  refine thn_normal ?_
  refine AWP.seq ?_
  obtain ⟨a10, ha10, h⟩ := bind_some h
  refine AWP.region ?_
  refine W.loadAgg rfl rfl rfl rfl rfl rfl rfl ?_
  refine AOps.callR rfl rfl rfl rfl (ref8_GameFault_ok ha10) rfl ?_
  refine W.alloc rfl rfl rfl rfl ?_
  refine W.storeAgg rfl rfl rfl rfl rfl rfl rfl ?_
  refine AOps.nil ?_
  refine thn_normal ?_
  obtain ⟨⟨c4, c5⟩, hx6, h⟩ := bind_some h
  refine AWP.seqJ (⟨[(2, .c (row 1 intI l)), (3, .c (.ptr 0 0 0)), (6, .c (.ptr 1 0 0)), (7, .c (.ptr 2 0 0))], [.one (.cells 2 [[row 1 intI gv.owner, row 2 eA2i64 gv.arcs]]), .one (.cells 2 [[int 0, int 0]]), .one (.cells 2 [[int c4, int c5]])]⟩) ?_ ?_
  · obtain ⟨t7, hx8, hx6⟩ := bind_some hx6
    refine AWP.seqJ (⟨[(2, .c (row 1 intI l)), (3, .c (.ptr 0 0 0)), (6, .c (.ptr 1 0 0)), (7, .c (.ptr 2 0 0)), (18, .c (bool t7))], [.one (.cells 2 [[row 1 intI gv.owner, row 2 eA2i64 gv.arcs]]), .one (.cells 2 [[int 0, int 0]]), .one (.cells 2 [[int a10.code, int a10.index]])]⟩) ?_ ?_
    · rcases Bool.eq_false_or_eq_true (decide (a10.code = 0)) with hb9 | hb9
      · replace hx8 := iteDT hb9 hx8
        obtain ⟨a16, ha16, hx8⟩ := bind_some hx8
        refine AWP.region ?_
        refine W.fieldAddr rfl rfl rfl rfl ?_
        refine AOps.load rfl rfl rfl rfl rfl rfl ?_
        refine AOps.eql rfl rfl rfl ?_
        refine AOps.move rfl rfl ?_
        refine AOps.guardT rfl rfl rfl hb9 ?_; refine AOps.move rfl rfl ?_
        refine AOps.guardT rfl rfl rfl hb9 ?_; refine AOps.callR rfl rfl rfl rfl (ref1_In_ok ha16) rfl ?_
        refine AOps.guardT rfl rfl rfl hb9 ?_; refine AOps.not rfl rfl ?_
        refine AOps.pickT rfl hb9 rfl rfl ?_
        refine AOps.nil ?_
        have ej := Option.some.inj hx8
        subst ej
        refine thn_normal ?_
        exact Sub.env ⟨rfl, rfl, rfl, rfl, rfl, trivial⟩
      · replace hx8 := iteDF hb9 hx8
        refine AWP.region ?_
        refine W.fieldAddr rfl rfl rfl rfl ?_
        refine AOps.load rfl rfl rfl rfl rfl rfl ?_
        refine AOps.eql rfl rfl rfl ?_
        refine AOps.move rfl rfl ?_
        refine AOps.guardF rfl rfl rfl hb9 ?_
        refine AOps.guardF rfl rfl rfl hb9 ?_
        refine AOps.guardF rfl rfl rfl hb9 ?_
        refine AOps.pickF rfl hb9 rfl rfl ?_
        refine AOps.nil ?_
        have ej := Option.some.inj hx8
        subst ej
        refine thn_normal ?_
        exact Sub.env ⟨rfl, rfl, rfl, rfl, rfl, trivial⟩
    · refine AWP.iteB rfl hx6 (fun hc10 hx6 => ?_) (fun hc10 hx6 => ?_)
      · obtain ⟨a19, ha19, hx6⟩ := bind_some hx6
        refine AWP.region ?_
        refine AOps.callR rfl rfl rfl rfl (ref1_At_ok ha19) rfl ?_
        refine W.storeAgg rfl rfl rfl rfl rfl rfl rfl ?_
        refine AOps.nil ?_
        have ej := Option.some.inj hx6
        simp only [Prod.mk.injEq] at ej
        obtain ⟨ej0, ej1⟩ := ej
        subst ej0
        subst ej1
        refine thn_normal ?_
        exact Sub.env ⟨rfl, rfl, rfl, rfl, trivial⟩
      · refine AWP.skip ?_
        have ej := Option.some.inj hx6
        simp only [Prod.mk.injEq] at ej
        obtain ⟨ej0, ej1⟩ := ej
        subst ej0
        subst ej1
        refine thn_normal ?_
        exact Sub.env ⟨rfl, rfl, rfl, rfl, trivial⟩
  · try dsimp only at h
    refine AWP.seq ?_
    refine AWP.seq ?_
    refine AWP.region ?_
    refine AOps.assign rfl rfl ?_
    refine AOps.nil ?_
    refine thn_normal ?_
    refine AWP.block ?_
    obtain ⟨⟨c14, c15⟩, ho1, h⟩ := bind_some h
    try dsimp only at h
    refine AWP.loopS ho1 (fun (c11, c12, iv13) => ⟨[(2, .c (row 1 intI l)), (3, .c (.ptr 0 0 0)), (6, .c (.ptr 1 0 0)), (7, .c (.ptr 2 0 0)), (8, .c (int iv13))], [.one (.cells 2 [[row 1 intI gv.owner, row 2 eA2i64 gv.arcs]]), .one (.cells 2 [[int 0, int 0]]), .one (.cells 2 [[int c11, int c12]])]⟩) (fun (c14, c15) e st => e = .exit 0 ∧ Sub [] st ⟨[(6, .c (.ptr 1 0 0)), (7, .c (.ptr 2 0 0))], [.dead, .one (.cells 2 [[int 0, int 0]]), .one (.cells 2 [[int c14, int c15]])]⟩) ?_ ?_ ?_
    · try dsimp only
      exact Sub.env ⟨rfl, rfl, rfl, rfl, rfl, trivial⟩
    · intro s o h
      obtain ⟨c11, c12, iv13⟩ := s
      unfold ref8_PlayerFault_l1 at h
      try dsimp only at h ⊢
      refine AWP.seq ?_
      refine AWP.seqJ (⟨[(2, .c (row 1 intI l)), (3, .c (.ptr 0 0 0)), (6, .c (.ptr 1 0 0)), (7, .c (.ptr 2 0 0)), (8, .c (int iv13)), (28, .c (bool ((decide (iv13 < (l.length : Int))) && (decide (c11 = 0)))))], [.one (.cells 2 [[row 1 intI gv.owner, row 2 eA2i64 gv.arcs]]), .one (.cells 2 [[int 0, int 0]]), .one (.cells 2 [[int c11, int c12]])]⟩) ?_ ?_
      · rcases Bool.eq_false_or_eq_true (decide (iv13 < (l.length : Int))) with hb1 | hb1
        · refine AWP.region ?_
          refine AOps.move rfl rfl ?_
          refine AOps.move rfl rfl ?_
          refine S.len rfl rfl (fun hl22 => ?_)
          refine AOps.lss rfl rfl rfl ?_
          refine AOps.move rfl rfl ?_
          refine AOps.guardT rfl rfl rfl hb1 ?_; refine W.fieldAddr rfl rfl rfl rfl ?_
          refine AOps.guardT rfl rfl rfl hb1 ?_; refine AOps.load rfl rfl rfl rfl rfl rfl ?_
          refine AOps.guardT rfl rfl rfl hb1 ?_; refine AOps.eql rfl rfl rfl ?_
          refine AOps.pickT rfl hb1 rfl rfl ?_
          refine AOps.nil ?_
          refine thn_normal ?_
          simp only [and_t hb1, or_t hb1]
          exact Sub.env ⟨rfl, rfl, rfl, rfl, rfl, rfl, trivial⟩
        · refine AWP.region ?_
          refine AOps.move rfl rfl ?_
          refine AOps.move rfl rfl ?_
          refine S.len rfl rfl (fun hl22 => ?_)
          refine AOps.lss rfl rfl rfl ?_
          refine AOps.move rfl rfl ?_
          refine AOps.guardF rfl rfl rfl hb1 ?_
          refine AOps.guardF rfl rfl rfl hb1 ?_
          refine AOps.guardF rfl rfl rfl hb1 ?_
          refine AOps.pickF rfl hb1 rfl rfl ?_
          refine AOps.nil ?_
          refine thn_normal ?_
          simp only [and_f hb1, or_f hb1]
          exact Sub.env ⟨rfl, rfl, rfl, rfl, rfl, rfl, trivial⟩
      · refine AWP.iteB rfl h (fun hc16 h => ?_) (fun hc16 h => ?_)
        · refine AWP.skip ?_
          refine thn_normal ?_
          obtain ⟨⟨c17, c18⟩, hx19, h⟩ := bind_some h
          refine AWP.seqJ (⟨[(2, .c (row 1 intI l)), (3, .c (.ptr 0 0 0)), (6, .c (.ptr 1 0 0)), (7, .c (.ptr 2 0 0)), (8, .c (int iv13))], [.one (.cells 2 [[row 1 intI gv.owner, row 2 eA2i64 gv.arcs]]), .one (.cells 2 [[int 0, int 0]]), .one (.cells 2 [[int c17, int c18]])]⟩) ?_ ?_
          · refine AWP.block ?_
            refine AWP.seq ?_
            obtain ⟨a33, ha33, hx19⟩ := bind_some hx19
            obtain ⟨a39, ha39, hx19⟩ := bind_some hx19
            refine AWP.drawI mixed rfl ?_
            apply DrawSeq.consF; exact rfl; intro E
            refine AOps.move rfl rfl ?_
            exact AOps.nil ⟨rfl, rfl⟩
            exact rfl
            apply DrawSeq.consF; exact rfl; intro E
            refine AOps.move rfl rfl ?_
            exact AOps.nil ⟨rfl, rfl⟩
            exact rfl
            apply DrawSeq.consF; exact rfl; intro E
            refine S.idx ha33 rfl rfl rfl rfl ?_
            exact AOps.nil ⟨rfl, rfl⟩
            exact rfl
            apply DrawSeq.consF; exact rfl; intro E
            refine AOps.loadI rfl rfl rfl rfl ?_
            exact AOps.nil ⟨rfl, rfl⟩
            exact rfl
            apply DrawSeq.consF; exact rfl; intro E
            refine W.fieldAddr rfl rfl rfl rfl ?_
            exact AOps.nil ⟨rfl, rfl⟩
            exact rfl
            apply DrawSeq.consF; exact rfl; intro E
            refine AOps.load rfl rfl rfl rfl rfl rfl ?_
            exact AOps.nil ⟨rfl, rfl⟩
            exact rfl
            apply DrawSeq.consF; exact rfl; intro E
            refine S.len rfl rfl (fun hl37 => ?_)
            exact AOps.nil ⟨rfl, rfl⟩
            exact rfl
            apply DrawSeq.consF; exact rfl; intro E
            refine S.sub rfl rfl rfl ?_
            exact AOps.nil ⟨rfl, rfl⟩
            exact rfl
            apply DrawSeq.consF; exact rfl; intro E
            refine AOps.callR rfl rfl rfl rfl (ref1_In_ok ha39) rfl ?_
            exact AOps.nil ⟨rfl, rfl⟩
            exact rfl
            apply DrawSeq.consF; exact rfl; intro E
            refine AOps.not rfl rfl ?_
            exact AOps.nil ⟨rfl, rfl⟩
            exact rfl
            refine DrawSeq.done ?_
            dsimp only [envEnd]
            refine thn_normal ?_
            refine AWP.iteB rfl hx19 (fun hc20 hx19 => ?_) (fun hc20 hx19 => ?_)
            · obtain ⟨a41, ha41, hx19⟩ := bind_some hx19
              refine AWP.region ?_
              refine AOps.callR rfl rfl rfl rfl (ref1_At_ok ha41) rfl ?_
              refine W.storeAgg rfl rfl rfl rfl rfl rfl rfl ?_
              refine AOps.nil ?_
              refine inB_normal ?_
              have ej := Option.some.inj hx19
              simp only [Prod.mk.injEq] at ej
              obtain ⟨ej0, ej1⟩ := ej
              subst ej0
              subst ej1
              refine thn_normal ?_
              exact Sub.env ⟨rfl, rfl, rfl, rfl, rfl, trivial⟩
            · obtain ⟨t21, hx22, hx19⟩ := bind_some hx19
              refine AWP.seqJ (⟨[(2, .c (row 1 intI l)), (3, .c (.ptr 0 0 0)), (6, .c (.ptr 1 0 0)), (7, .c (.ptr 2 0 0)), (8, .c (int iv13)), (55, .c (bool t21))], [.one (.cells 2 [[row 1 intI gv.owner, row 2 eA2i64 gv.arcs]]), .one (.cells 2 [[int 0, int 0]]), .one (.cells 2 [[int c11, int c12]])]⟩) ?_ ?_
              · rcases Bool.eq_false_or_eq_true (decide (0 < iv13)) with hb23 | hb23
                · replace hx22 := iteDT hb23 hx22
                  obtain ⟨a47, ha47, hx22⟩ := bind_some hx22
                  obtain ⟨a52, ha52, hx22⟩ := bind_some hx22
                  refine AWP.drawI mixed rfl ?_
                  apply DrawSeq.consF; exact rfl; intro E
                  refine AOps.move rfl rfl ?_
                  exact AOps.nil ⟨rfl, rfl⟩
                  exact rfl
                  apply DrawSeq.consF; exact rfl; intro E
                  refine AOps.gtr rfl rfl rfl ?_
                  exact AOps.nil ⟨rfl, rfl⟩
                  exact rfl
                  apply DrawSeq.consF; exact rfl; intro E
                  refine AOps.move rfl rfl ?_
                  exact AOps.nil ⟨rfl, rfl⟩
                  exact rfl
                  apply DrawSeq.consF; exact rfl; intro E
                  refine AOps.guardT rfl rfl rfl hb23 ?_; refine AOps.move rfl rfl ?_
                  exact AOps.nil ⟨rfl, rfl⟩
                  exact rfl
                  apply DrawSeq.consF; exact rfl; intro E
                  refine AOps.guardT rfl rfl rfl hb23 ?_; refine AOps.move rfl rfl ?_
                  exact AOps.nil ⟨rfl, rfl⟩
                  exact rfl
                  apply DrawSeq.consF; exact rfl; intro E
                  refine AOps.guardT rfl rfl rfl hb23 ?_; refine S.idx ha47 rfl rfl rfl rfl ?_
                  exact AOps.nil ⟨rfl, rfl⟩
                  exact rfl
                  apply DrawSeq.consF; exact rfl; intro E
                  refine AOps.guardT rfl rfl rfl hb23 ?_; refine AOps.loadI rfl rfl rfl rfl ?_
                  exact AOps.nil ⟨rfl, rfl⟩
                  exact rfl
                  apply DrawSeq.consF; exact rfl; intro E
                  refine AOps.guardT rfl rfl rfl hb23 ?_; refine AOps.move rfl rfl ?_
                  exact AOps.nil ⟨rfl, rfl⟩
                  exact rfl
                  apply DrawSeq.consF; exact rfl; intro E
                  refine AOps.guardT rfl rfl rfl hb23 ?_; refine AOps.move rfl rfl ?_
                  exact AOps.nil ⟨rfl, rfl⟩
                  exact rfl
                  apply DrawSeq.consF; exact rfl; intro E
                  refine AOps.guardT rfl rfl rfl hb23 ?_; refine S.sub rfl rfl rfl ?_
                  exact AOps.nil ⟨rfl, rfl⟩
                  exact rfl
                  apply DrawSeq.consF; exact rfl; intro E
                  refine AOps.guardT rfl rfl rfl hb23 ?_; refine S.idx ha52 rfl rfl rfl rfl ?_
                  exact AOps.nil ⟨rfl, rfl⟩
                  exact rfl
                  apply DrawSeq.consF; exact rfl; intro E
                  refine AOps.guardT rfl rfl rfl hb23 ?_; refine AOps.loadI rfl rfl rfl rfl ?_
                  exact AOps.nil ⟨rfl, rfl⟩
                  exact rfl
                  apply DrawSeq.consF; exact rfl; intro E
                  refine AOps.guardT rfl rfl rfl hb23 ?_; refine AOps.leq rfl rfl rfl ?_
                  exact AOps.nil ⟨rfl, rfl⟩
                  exact rfl
                  apply DrawSeq.consF; exact rfl; intro E
                  refine AOps.pickT rfl hb23 rfl rfl ?_
                  exact AOps.nil ⟨rfl, rfl⟩
                  exact rfl
                  refine DrawSeq.done ?_
                  dsimp only [envEnd]
                  have ej := Option.some.inj hx22
                  subst ej
                  refine thn_normal ?_
                  exact Sub.env ⟨rfl, rfl, rfl, rfl, rfl, rfl, trivial⟩
                · replace hx22 := iteDF hb23 hx22
                  refine AWP.drawI mixed rfl ?_
                  apply DrawSeq.consF; exact rfl; intro E
                  refine AOps.move rfl rfl ?_
                  exact AOps.nil ⟨rfl, rfl⟩
                  exact rfl
                  apply DrawSeq.consF; exact rfl; intro E
                  refine AOps.gtr rfl rfl rfl ?_
                  exact AOps.nil ⟨rfl, rfl⟩
                  exact rfl
                  apply DrawSeq.consF; exact rfl; intro E
                  refine AOps.move rfl rfl ?_
                  exact AOps.nil ⟨rfl, rfl⟩
                  exact rfl
                  apply DrawSeq.consF; exact rfl; intro E
                  refine AOps.guardF rfl rfl rfl hb23 ?_
                  exact AOps.nil ⟨rfl, rfl⟩
                  exact rfl
                  apply DrawSeq.consF; exact rfl; intro E
                  refine AOps.guardF rfl rfl rfl hb23 ?_
                  exact AOps.nil ⟨rfl, rfl⟩
                  exact rfl
                  apply DrawSeq.consF; exact rfl; intro E
                  refine AOps.guardF rfl rfl rfl hb23 ?_
                  exact AOps.nil ⟨rfl, rfl⟩
                  exact rfl
                  apply DrawSeq.consF; exact rfl; intro E
                  refine AOps.guardF rfl rfl rfl hb23 ?_
                  exact AOps.nil ⟨rfl, rfl⟩
                  exact rfl
                  apply DrawSeq.consF; exact rfl; intro E
                  refine AOps.guardF rfl rfl rfl hb23 ?_
                  exact AOps.nil ⟨rfl, rfl⟩
                  exact rfl
                  apply DrawSeq.consF; exact rfl; intro E
                  refine AOps.guardF rfl rfl rfl hb23 ?_
                  exact AOps.nil ⟨rfl, rfl⟩
                  exact rfl
                  apply DrawSeq.consF; exact rfl; intro E
                  refine AOps.guardF rfl rfl rfl hb23 ?_
                  exact AOps.nil ⟨rfl, rfl⟩
                  exact rfl
                  apply DrawSeq.consF; exact rfl; intro E
                  refine AOps.guardF rfl rfl rfl hb23 ?_
                  exact AOps.nil ⟨rfl, rfl⟩
                  exact rfl
                  apply DrawSeq.consF; exact rfl; intro E
                  refine AOps.guardF rfl rfl rfl hb23 ?_
                  exact AOps.nil ⟨rfl, rfl⟩
                  exact rfl
                  apply DrawSeq.consF; exact rfl; intro E
                  refine AOps.guardF rfl rfl rfl hb23 ?_
                  exact AOps.nil ⟨rfl, rfl⟩
                  exact rfl
                  apply DrawSeq.consF; exact rfl; intro E
                  refine AOps.pickF rfl hb23 rfl rfl ?_
                  exact AOps.nil ⟨rfl, rfl⟩
                  exact rfl
                  refine DrawSeq.done ?_
                  dsimp only [envEnd]
                  have ej := Option.some.inj hx22
                  subst ej
                  refine thn_normal ?_
                  exact Sub.env ⟨rfl, rfl, rfl, rfl, rfl, rfl, trivial⟩
              · refine AWP.iteB rfl hx19 (fun hc24 hx19 => ?_) (fun hc24 hx19 => ?_)
                · obtain ⟨a56, ha56, hx19⟩ := bind_some hx19
                  refine AWP.region ?_
                  refine AOps.callR rfl rfl rfl rfl (ref1_At_ok ha56) rfl ?_
                  refine W.storeAgg rfl rfl rfl rfl rfl rfl rfl ?_
                  refine AOps.nil ?_
                  refine inB_normal ?_
                  have ej := Option.some.inj hx19
                  simp only [Prod.mk.injEq] at ej
                  obtain ⟨ej0, ej1⟩ := ej
                  subst ej0
                  subst ej1
                  refine thn_normal ?_
                  exact Sub.env ⟨rfl, rfl, rfl, rfl, rfl, trivial⟩
                · refine AWP.skip ?_
                  refine inB_normal ?_
                  have ej := Option.some.inj hx19
                  simp only [Prod.mk.injEq] at ej
                  obtain ⟨ej0, ej1⟩ := ej
                  subst ej0
                  subst ej1
                  refine thn_normal ?_
                  exact Sub.env ⟨rfl, rfl, rfl, rfl, rfl, trivial⟩
          · try dsimp only at h
            refine AWP.region ?_
            refine AOps.move rfl rfl ?_
            refine S.add rfl rfl rfl ?_
            refine AOps.assign rfl rfl ?_
            refine AOps.nil ?_
            have ej := Option.some.inj h
            subst ej
            refine thn_normal ⟨_, rfl, ?_⟩
            exact Sub.env ⟨rfl, rfl, rfl, rfl, rfl, trivial⟩
        · refine AWP.exit ?_
          refine thn_exit ?_
          have ej := Option.some.inj h
          subst ej
          refine thn_exit ⟨_, rfl, rfl, ?_⟩
          exact Sub.cut ⟨rfl, rfl, trivial⟩ rfl ⟨.dead, .one rfl, .one rfl, trivial⟩ rfl
    · intro e s hq
      obtain ⟨rfl, hs⟩ := hq
      refine ⟨_, hs, ?_⟩
      refine inB_exit ?_
      refine thn_normal ?_
      refine AWP.seq ?_
      refine AWP.region ?_
      refine W.loadAgg rfl rfl rfl rfl rfl rfl rfl ?_
      refine W.storeAgg rfl rfl rfl rfl rfl rfl rfl ?_
      refine AOps.nil ?_
      refine thn_normal ?_
      refine AWP.ret ?_
      have ej := Option.some.inj h
      subst ej
      exact Done.ret rfl rfl

end Ab
