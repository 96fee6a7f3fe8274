/-
  Texts that the proof stands on.
-/
import Derived.Test.YtkfjghcojgmemaaDoorKRwOpenExp2
import Derived.Laws.Cover3
import Derived.Shelf.Small.Bits
import Derived.Shelf.Small.Wraps
import Derived.Shelf.Strconv.Itoa0
import Derived.Shelf.Strconv.Itoa1
import Derived.Shelf.LaysM
import Derived.Shelf.Strconv.Itoa2
import Derived.Shelf.Sort.Plain
import Derived.Shelf.Strconv.AppendUint10
import Derived.Shelf.Strconv.AppendInt10
import Derived.Shelf.Slices.Equal
import Derived.Ground.Names2Prog
import Derived.Shelf.Slices.Clone
import Derived.Shelf.Slices.SearchI
import Derived.Shelf.Slices.Cells
import Derived.Shelf.Slices.In.SortNone
import Derived.Shelf.Slices.Empties
import Derived.Shelf.Slices.Empties2
import Derived.Ground.SlgnProg
import Derived.Shelf.SlicesE.Clone
import Derived.Ground.SlsfProg
import Derived.Shelf.SlSortCmp.Insertion
import Derived.Shelf.SlSortCmp.SiftDown1
import Derived.Shelf.SlSortCmp.HeapSort1
import Derived.Shelf.SlSortCmp.Insertion1
import Derived.Shelf.SlSortCmp.Median1
import Derived.Shelf.SlSortCmp.Pivot1
import Derived.Shelf.SlSortCmp.ReverseRange1
import Derived.Shelf.SlSortCmp.PartialInsertion1
import Derived.Shelf.SlSortCmp.PartitionEqual1
import Derived.Shelf.SlSortCmp.Partition1
import Derived.Shelf.SlSortCmp.Pdq1
import Derived.Shelf.SlSortCmp.NoneTotal
import Derived.Test.YtkfjghcojgmemaaDoorProg
set_option linter.all false
section
namespace Ab
open Go
section
variable {P : Program} {σ0 : Store} {sz : Nat} {Q : Post} {env : Env} {σv σ' : Store} {ops : Array Oper} {rest : List Oper} {dst : Option Nat} {ty : TypeId} {pos : String} {after : Array Edge}
theorem AOps.eqlNil {x y : Operand} {t t' e : TypeId} {k : Nat} {es : List (List I)} [ht : TyD P t (.slice e)] (hx : ev env x = some (.c (.imm (.sl k es)))) (hy : ev env y = some (.c (.imm (.val (.slice none 0 0))))) (hd : dstOk sz dst = true)
    (h1 : es = [] → AOps P σ0 sz ops Q rest (St.mk (putE env dst (.c (bool true))) σv)) (h2 : AOps P σ0 sz ops Q rest (St.mk (putE env dst (.c (bool false))) σv)) :
    AOps P σ0 sz ops Q (⟨dst, .binOp .eql t x y t', ty, pos, after, none⟩ :: rest) (St.mk env σv) := fun Γ φ a w hΓ hR =>
  wpList_plain rfl fun K hK => by
    have hrel := ev_rel hR hx
    have hyv := ev_val hR hy
    generalize hu : a.eval x = u at hrel
    cases hrel with | c hrel => cases hrel with | imm hrel =>
    unfold Oper.wp
    cases hrel with
    | slNil =>
      have hg : (eqGuard .eql t x y (.slice none 0 0) (.slice none 0 0)).run P w = .ok () w := rfl
      have hr : (binOp .eql t (.slice none 0 0) (.slice none 0 0)).run P w = .ok (.bool true) w := by
        show (do pure (Value.bool (← Op.equal t (.slice none 0 0) (.slice none 0 0)))).run P w = _
        simp [run_equal_slice_nil w t e none 0 0 ht.h]
      have hrun : (execOp a.eval ⟨dst, .binOp .eql t x y t', ty, pos, after, none⟩).run P w = .ok (.value (.bool true)) w := by
        simp [execOp, hu, hyv, hg, hr]
      rw [hrun, Oper.upon_value]
      exact hK _ _ (h1 rfl Γ φ _ w hΓ (hR.put hd (.c (.imm (.val rfl)))))
    | @sl _ _ ad cap us _ _ _ _ _ =>
      have hg : (eqGuard .eql t x y (.slice (some ad) es.length cap) (.slice none 0 0)).run P w = .ok () w := rfl
      have hr : (binOp .eql t (.slice (some ad) es.length cap) (.slice none 0 0)).run P w = .ok (.bool false) w := by
        show (do pure (Value.bool (← Op.equal t (.slice (some ad) es.length cap) (.slice none 0 0)))).run P w = _
        simp [run_equal_slice_nil w t e (some ad) es.length cap ht.h]
      have hrun : (execOp a.eval ⟨dst, .binOp .eql t x y t', ty, pos, after, none⟩).run P w = .ok (.value (.bool false)) w := by
        simp [execOp, hu, hyv, hg, hr]
      rw [hrun, Oper.upon_value]
      exact hK _ _ (h2 Γ φ _ w hΓ (hR.put hd (.c (.imm (.val rfl)))))
end
end Ab
end
section
namespace Ab
open Go Go.Proofs
def slices_Clone_int_int (s : List Int) : Option (List Int) := app 8 [] s
theorem slices_Clone_int_int_ok {s r : List Int} (h : slices_Clone_int_int s = some r) : FreshOk Tryd.prog 28 [.c (row 1 intI s)] 1 (List.map intI r) := by
  unfold slices_Clone_int_int at h
  unfold FreshOk
  refine FnOk.enter (rs := [.t 2]) Tryd.func28 rfl Tryd.ntmps28 Tryd.results28 rfl ⟨trivial, trivial⟩ (by kernel_rfl) rfl ?_
  refine AWP.seq ?_
  refine AWP.region ?_
  refine AOps.assign rfl rfl ?_
  refine AOps.nil ?_
  refine thn_normal ?_
  refine AWP.seq ?_
  refine AWP.seq ?_
  refine AWP.region ?_
  refine AOps.move rfl rfl ?_
  refine AOps.eqlNil rfl rfl rfl (fun he => ?_) ?_
  · have hs : s = [] := by simpa using he
    subst hs
    have hr : r = [] := by
      have := app_get h
      simpa using this.2
    subst hr
    refine AOps.nil ?_
    refine thn_normal ?_
    refine AWP.condT rfl ?_
    refine AWP.seq ?_
    refine AWP.region ?_
    refine AOps.assign rfl rfl ?_
    refine AOps.nil ?_
    refine thn_normal ?_
    refine AWP.virtV 1 intI 2 rfl rfl rfl ?_
    refine AWP.ret ?_
    refine thn_ret ?_
    exact Done.ret rfl (Fresh.mk rfl rfl)
  · refine AOps.nil ?_
    refine thn_normal ?_
    refine AWP.condF rfl ?_
    refine AWP.skip ?_
    refine thn_normal ?_
    refine AWP.seq ?_
    refine AWP.region ?_
    refine S.lit (f := intI) (l := []) (ess := []) rfl rfl rfl rfl rfl rfl rfl trivial rfl rfl rfl ?_
    refine AOps.move rfl rfl ?_
    refine S.append (f := intI) h rfl rfl rfl rfl rfl rfl .row rfl rfl rfl rfl ?_
    refine AOps.assign rfl rfl ?_
    refine AOps.nil ?_
    refine thn_normal ?_
    refine AWP.ret ?_
    exact Done.ret rfl (Fresh.mk rfl rfl)
end Ab
end
section
namespace Ab
open Go Go.Proofs
abbrev rowI (l : List Int) : List I := [.sl 1 (l.map intI)]
def slices_Clone_Lint_int (s : List (List Int)) : Option (List (List Int)) := app 24 [] s
theorem slices_Clone_Lint_int_ok {s r : List (List Int)} (h : slices_Clone_Lint_int s = some r) : FreshOk Tryd.prog 40 [.c (row 1 rowI s)] 1 (List.map rowI r) := by
  unfold slices_Clone_Lint_int at h
  unfold FreshOk
  refine FnOk.enter (rs := [.t 2]) Tryd.func40 rfl Tryd.ntmps40 Tryd.results40 rfl ⟨trivial, trivial⟩ (by kernel_rfl) rfl ?_
  refine AWP.seq ?_
  refine AWP.region ?_
  refine AOps.assign rfl rfl ?_
  refine AOps.nil ?_
  refine thn_normal ?_
  refine AWP.seq ?_
  refine AWP.seq ?_
  refine AWP.region ?_
  refine AOps.move rfl rfl ?_
  refine AOps.eqlNil rfl rfl rfl (fun he => ?_) ?_
  · have hs : s = [] := by simpa using he
    subst hs
    have hr : r = [] := by
      have := app_get h
      simpa using this.2
    subst hr
    refine AOps.nil ?_
    refine thn_normal ?_
    refine AWP.condT rfl ?_
    refine AWP.seq ?_
    refine AWP.region ?_
    refine AOps.assign rfl rfl ?_
    refine AOps.nil ?_
    refine thn_normal ?_
    refine AWP.virtV 1 rowI 2 rfl rfl rfl ?_
    refine AWP.ret ?_
    refine thn_ret ?_
    exact Done.ret rfl (Fresh.mk rfl rfl)
  · refine AOps.nil ?_
    refine thn_normal ?_
    refine AWP.condF rfl ?_
    refine AWP.skip ?_
    refine thn_normal ?_
    refine AWP.seq ?_
    refine AWP.region ?_
    refine S.lit (f := rowI) (l := []) (ess := []) rfl rfl rfl rfl rfl rfl rfl trivial rfl rfl rfl ?_
    refine AOps.move rfl rfl ?_
    refine S.append (f := rowI) h rfl rfl rfl rfl rfl rfl .row rfl rfl rfl rfl ?_
    refine AOps.assign rfl rfl ?_
    refine AOps.nil ?_
    refine thn_normal ?_
    refine AWP.ret ?_
    exact Done.ret rfl (Fresh.mk rfl rfl)
end Ab
end
section
namespace Ab
open Go Go.Proofs
set_option linter.all false
abbrev eLi64 (l : List Int) : List I := [.sl 1 (l.map intI)]
structure TOutcome where
  add : List Int
  del : List Int
  weight : Int
abbrev eTOutcome (v : TOutcome) : List I := [.sl 1 (List.map intI v.add), .sl 1 (List.map intI v.del), .val (.int .i64 v.weight)]
structure TOpenOperator where
  pre : List Int
  outcomes : List TOutcome
  cost : Int
abbrev eTOpenOperator (v : TOpenOperator) : List I := [.sl 1 (List.map intI v.pre), .sl 3 (List.map eTOutcome v.outcomes), .val (.int .i64 v.cost)]
structure TOpenTask where
  facts : Int
  init : List Int
  goal : List Int
  operators : List TOpenOperator
abbrev eTOpenTask (v : TOpenTask) : List I := [.val (.int .i64 v.facts), .sl 1 (List.map intI v.init), .sl 1 (List.map intI v.goal), .sl 3 (List.map eTOpenOperator v.operators)]
structure TFault where
  code : Int
  index : Int
structure Tx_int64_y_int_signed_bool_code_abi_BoundsErrorCode where
  fx : Int
  fy : Int
  signed : Bool
  code : Int
structure Truntime_boundsError where
  fx : Int
  fy : Int
  signed : Bool
  code : Int
structure TFacts_int_Init_int_Goal_int_Operators_api_OpenOperator where
  facts : Int
  init : List Int
  goal : List Int
  operators : List TOpenOperator
structure TCode_int_Index_int where
  code : Int
  index : Int
structure TOperator where
  pre : List Int
  add : List Int
  del : List Int
  cost : Int
structure TFacts_int_Init_int_Goal_int_Operators_api_Operator where
  facts : Int
  init : List Int
  goal : List Int
  operators : List TOperator
structure TTask where
  facts : Int
  init : List Int
  goal : List Int
  operators : List TOperator
structure TPre_int_Outcomes_api_Outcome_Cost_int where
  pre : List Int
  outcomes : List TOutcome
  cost : Int
structure TAdd_int_Del_int_Weight_int where
  add : List Int
  del : List Int
  weight : Int
structure TPre_int_Add_int_Del_int_Cost_int where
  pre : List Int
  add : List Int
  del : List Int
  cost : Int
def strips_IsSet_l1 (l : List Int) (nv : Int) : Int → Unit → Option (Unit ⊕ Bool) := fun t3 _ => Option.bind (ix l t3) fun a12 => Option.bind (if a12 < 0 then some true else if nv ≤ a12 then some true else if 0 < t3 then Option.bind (ix l (t3 - 1)) fun a29 => some (decide (a12 ≤ a29)) else some false) fun t4 => if t4 = true then some (.inr false) else some (.inl ())
def strips_IsSet (l : List Int) (nv : Int) : Option Bool := (Option.bind (rngX 0 (l.length : Int) (strips_IsSet_l1 l nv) ()) fun | .inl _ => some true | .inr x => some x)
def cmp_isNaN_int (xv : Int) : Option Bool := some (!(decide (xv = xv)))
def cmp_Less_int (xv : Int) (yv : Int) : Option Bool := Option.bind (Option.bind (cmp_isNaN_int xv) fun a6 => if a6 = true then Option.bind (cmp_isNaN_int yv) fun a9 => if (!a9) = true then some true else some (decide (xv < yv)) else some (decide (xv < yv))) fun t3 => some t3
def slices_isNaN_int (xv : Int) : Option Bool := some (!(decide (xv = xv)))
def slices_BinarySearch_int_int_l1 (xv : List Int) (target : Int) : (Int × Int) → Option ((Int × Int) ⊕ Int) := fun (iv3, j4) => if iv3 < j4 then Option.bind (ix xv (w64 (shrW .u64 ((IntKind.u64).wrap (w64 (iv3 + j4))) 1))) fun a24 => Option.bind (cmp_Less_int a24 target) fun a27 => if a27 = true then some (.inl (w64 ((w64 (shrW .u64 ((IntKind.u64).wrap (w64 (iv3 + j4))) 1)) + 1), j4)) else some (.inl (iv3, w64 (shrW .u64 ((IntKind.u64).wrap (w64 (iv3 + j4))) 1))) else some (.inr iv3)
noncomputable def slices_BinarySearch_int_int (xv : List Int) (target : Int) : Option (Int × Bool) := Option.bind (Loop (slices_BinarySearch_int_int_l1 xv target) (0, (xv.length : Int))) fun iv5 => Option.bind (if iv5 < (xv.length : Int) then Option.bind (ix xv iv5) fun a38 => if a38 = target then some true else Option.bind (ix xv iv5) fun a45 => Option.bind (slices_isNaN_int a45) fun a47 => if a47 = true then Option.bind (slices_isNaN_int target) fun a50 => some a50 else some false else some false) fun t8 => some (iv5, t8)
noncomputable def strips_Meets_1 (xv : Int) (c2 : List Int) : Option Bool := Option.bind (slices_BinarySearch_int_int c2 xv) fun a9 => some a9.2
def slices_IndexFunc_int_int_l1 (sv : List Int) (fv : Int → Option Bool) : Int → Unit → Option (Unit ⊕ Int) := fun t3 _ => Option.bind (ix sv t3) fun a14 => Option.bind (fv a14) fun a16 => if a16 = true then some (.inr t3) else some (.inl ())
def slices_IndexFunc_int_int (sv : List Int) (fv : Int → Option Bool) : Option Int := (Option.bind (rngX 0 (sv.length : Int) (slices_IndexFunc_int_int_l1 sv fv) ()) fun | .inl _ => some (-1) | .inr x => some x)
def slices_ContainsFunc_int_int (sv : List Int) (fv : Int → Option Bool) : Option Bool := Option.bind (slices_IndexFunc_int_int sv fv) fun a7 => some (decide (0 ≤ a7))
noncomputable def strips_Meets (av : List Int) (bv : List Int) : Option Bool := Option.bind (slices_ContainsFunc_int_int av (fun y1 => strips_Meets_1 y1 bv)) fun a7 => some a7
noncomputable def open_operatorCode_l1 (ov : TOpenOperator) (facts : Int) : Int → Unit → Option (Unit ⊕ Int) := fun t6 _ => Option.bind (ix ov.outcomes t6) fun a38 => Option.bind (Option.bind (strips_IsSet a38.add facts) fun a44 => if (!a44) = true then some true else Option.bind (strips_IsSet a38.del facts) fun a50 => if (!a50) = true then some true else Option.bind (strips_Meets a38.add a38.del) fun a58 => some a58) fun t7 => if t7 = true then some (.inr 5) else if ((decide (a38.weight < 1)) || (decide (6 < a38.weight))) = true then some (.inr 3) else some (.inl ())
noncomputable def open_operatorCode (ov : TOpenOperator) (facts : Int) : Option Int := Option.bind (strips_IsSet ov.pre facts) fun a11 => if (!a11) = true then some 5 else if ((decide (ov.cost < 0)) || (decide (100 < ov.cost))) = true then some 3 else if ((decide ((ov.outcomes.length : Int) = 0)) || (decide (4 < (ov.outcomes.length : Int)))) = true then some 9 else (Option.bind (rngX 0 (ov.outcomes.length : Int) (open_operatorCode_l1 ov facts) ()) fun | .inl _ => some 0 | .inr x => some x)
noncomputable def open_Validate_l1 (ov : TOpenTask) : Int → Unit → Option (Unit ⊕ TFault) := fun t6 _ => Option.bind (ix ov.operators t6) fun a44 => Option.bind (open_operatorCode a44 ov.facts) fun a49 => if a49 = 0 then some (.inl ()) else some (.inr (⟨a49, t6⟩ : TFault))
noncomputable def open_Validate (ov : TOpenTask) : Option TFault := if ((decide (ov.facts < 0)) || (decide (24 < ov.facts))) = true then some (⟨3, -1⟩ : TFault) else Option.bind (strips_IsSet ov.init ov.facts) fun a21 => if (!a21) = true then some (⟨5, -2⟩ : TFault) else Option.bind (strips_IsSet ov.goal ov.facts) fun a29 => if (!a29) = true then some (⟨5, -3⟩ : TFault) else if 40 < (ov.operators.length : Int) then some (⟨2, -1⟩ : TFault) else (Option.bind (rngX 0 (ov.operators.length : Int) (open_Validate_l1 ov) ()) fun | .inl _ => some (⟨0, 0⟩ : TFault) | .inr x => some x)
def internal_strconv_small (iv : Int) : Option ByteArray := if iv < 10 then Option.bind (subS (⟨#[48, 49, 50, 51, 52, 53, 54, 55, 56, 57, 97, 98, 99, 100, 101, 102, 103, 104, 105, 106, 107, 108, 109, 110, 111, 112, 113, 114, 115, 116, 117, 118, 119, 120, 121, 122]⟩ : ByteArray) iv (w64 (iv + 1))) fun a8 => some a8 else Option.bind (subS (⟨#[48, 48, 48, 49, 48, 50, 48, 51, 48, 52, 48, 53, 48, 54, 48, 55, 48, 56, 48, 57, 49, 48, 49, 49, 49, 50, 49, 51, 49, 52, 49, 53, 49, 54, 49, 55, 49, 56, 49, 57, 50, 48, 50, 49, 50, 50, 50, 51, 50, 52, 50, 53, 50, 54, 50, 55, 50, 56, 50, 57, 51, 48, 51, 49, 51, 50, 51, 51, 51, 52, 51, 53, 51, 54, 51, 55, 51, 56, 51, 57, 52, 48, 52, 49, 52, 50, 52, 51, 52, 52, 52, 53, 52, 54, 52, 55, 52, 56, 52, 57, 53, 48, 53, 49, 53, 50, 53, 51, 53, 52, 53, 53, 53, 54, 53, 55, 53, 56, 53, 57, 54, 48, 54, 49, 54, 50, 54, 51, 54, 52, 54, 53, 54, 54, 54, 55, 54, 56, 54, 57, 55, 48, 55, 49, 55, 50, 55, 51, 55, 52, 55, 53, 55, 54, 55, 55, 55, 56, 55, 57, 56, 48, 56, 49, 56, 50, 56, 51, 56, 52, 56, 53, 56, 54, 56, 55, 56, 56, 56, 57, 57, 48, 57, 49, 57, 50, 57, 51, 57, 52, 57, 53, 57, 54, 57, 55, 57, 56, 57, 57]⟩ : ByteArray) (w64 (iv * 2)) (w64 ((w64 (iv * 2)) + 2))) fun a14 => some a14
abbrev internal_strconv_AppendUint_w3_s0 (iv : Int) (base : Int) (l : List Int) : Store := [.one (vec 1 eU8 l)]
def internal_strconv_AppendUint_w3 (iv : Int) (base : Int) (l : List Int) : Option (List Int) := if base = 10 then if iv < 100 then Option.bind (internal_strconv_small (w64 iv)) fun a16 => Option.bind (app 1 l (strL a16)) fun a17 => some a17 else none else none
abbrev internal_strconv_AppendInt_w2_s0 (iv : Int) (base : Int) (l : List Int) : Store := [.one (vec 1 eU8 l)]
def internal_strconv_AppendInt_w2 (iv : Int) (base : Int) (l : List Int) : Option (List Int) := Option.bind (if iv < 0 then none else some ()) fun _ => Option.bind (internal_strconv_AppendUint_w3 ((IntKind.u64).wrap iv) base l) fun a20 => some a20
abbrev strconv_AppendInt_w1_s0 (iv : Int) (base : Int) (l : List Int) : Store := [.one (vec 1 eU8 l)]
def strconv_AppendInt_w1 (iv : Int) (base : Int) (l : List Int) : Option (List Int) := Option.bind (internal_strconv_AppendInt_w2 iv base l) fun a10 => some a10
def belief_Key_l2 (a12 : List Int) : Int → (List Int) → Option (List Int) := fun t5 c4 => Option.bind (ix a12 t5) fun a18 => Option.bind (strconv_AppendInt_w1 a18 10 c4) fun a22 => Option.bind (app 1 a22 [44]) fun a24 => some a24
def belief_Key_l1 (l : List (List Int)) : Int → (List Int) → Option (List Int) := fun t3 c2 => Option.bind (ix l t3) fun a12 => (Option.bind (forR 0 (a12.length : Int) (belief_Key_l2 a12) c2) fun c4 => Option.bind (app 1 c4 [59]) fun a28 => some a28)
def belief_Key (l : List (List Int)) : Option ByteArray := (Option.bind (forR 0 (l.length : Int) (belief_Key_l1 l) []) fun c2 => some (strB c2))
def strips_Contains_l2 (sv : List Int) (a12 : Int) : Int → Option (Int ⊕ Int) := fun iv5 => Option.bind (if iv5 < (sv.length : Int) then Option.bind (ix sv iv5) fun a21 => some (decide (a21 < a12)) else some false) fun t7 => if t7 = true then some (.inl (w64 (iv5 + 1))) else some (.inr iv5)
noncomputable def strips_Contains_l1 (sv : List Int) (part : List Int) : Int → Int → Option (Int ⊕ Bool) := fun t4 iv3 => Option.bind (ix part t4) fun a12 => Option.bind (Loop (strips_Contains_l2 sv a12) iv3) fun iv6 => Option.bind (if iv6 = (sv.length : Int) then some true else Option.bind (ix sv iv6) fun a35 => some (!(decide (a35 = a12)))) fun t11 => if t11 = true then some (.inr false) else some (.inl iv6)
noncomputable def strips_Contains (sv : List Int) (part : List Int) : Option Bool := (Option.bind (rngX 0 (part.length : Int) (strips_Contains_l1 sv part) 0) fun | .inl iv3 => some true | .inr x => some x)
noncomputable def open_Can (ov : TOpenTask) (sv : List Int) (op : Int) : Option Bool := Option.bind (ix ov.operators op) fun a11 => Option.bind (strips_Contains sv a11.pre) fun a14 => some a14
noncomputable def strips_Update_l1 (sv : List Int) (del : List Int) : Int → (List Int) → Option (List Int) := fun t5 c4 => Option.bind (Option.bind (ix sv t5) fun a16 => Option.bind (slices_BinarySearch_int_int del a16) fun a21 => if (!a21.2) = true then Option.bind (app 8 c4 [a16]) fun a29 => some a29 else some c4) fun c6 => some c6
noncomputable def strips_Update (sv : List Int) (add : List Int) (del : List Int) : Option (List Int) := (Option.bind (forR 0 (sv.length : Int) (strips_Update_l1 sv del) []) fun c4 => Option.bind (app 8 c4 add) fun a33 => Option.bind (sortL a33) fun a35 => some (compactL a35))
def cmp_Compare_int (xv : Int) (yv : Int) : Option Int := Option.bind (cmp_isNaN_int xv) fun a8 => Option.bind (cmp_isNaN_int yv) fun a10 => if a8 = true then if a10 = true then some 0 else some (-1) else if a10 = true then some 1 else if xv < yv then some (-1) else if yv < xv then some 1 else some 0
def slices_Compare_int_int_l1 (s11 : List Int) (s22 : List Int) : Int → Unit → Option (Unit ⊕ Int) := fun t3 _ => Option.bind (ix s11 t3) fun a14 => if (s22.length : Int) ≤ t3 then some (.inr 1) else Option.bind (ix s22 t3) fun a22 => Option.bind (cmp_Compare_int a14 a22) fun a26 => if a26 = 0 then some (.inl ()) else some (.inr a26)
def slices_Compare_int_int (s11 : List Int) (s22 : List Int) : Option Int := (Option.bind (rngX 0 (s11.length : Int) (slices_Compare_int_int_l1 s11 s22) ()) fun | .inl _ => if (s11.length : Int) < (s22.length : Int) then some (-1) else some 0 | .inr x => some x)
def slices_Equal_int_int_l1 (s11 : List Int) (s22 : List Int) : Int → Unit → Option (Unit ⊕ Bool) := fun t4 _ => Option.bind (ix s11 t4) fun a18 => Option.bind (ix s22 t4) fun a22 => if a18 = a22 then some (.inl ()) else some (.inr false)
def slices_Equal_int_int (s11 : List Int) (s22 : List Int) : Option Bool := if (s11.length : Int) = (s22.length : Int) then (Option.bind (rngX 0 (s11.length : Int) (slices_Equal_int_int_l1 s11 s22) ()) fun | .inl _ => some true | .inr x => some x) else some false
def slices_BinarySearchFunc_int_int_int_l1 (xv : List (List Int)) (target : List Int) (cmp : (List Int) → (List Int) → Option Int) : (Int × Int) → Option ((Int × Int) ⊕ Int) := fun (iv4, j5) => if iv4 < j5 then Option.bind (ix xv (w64 (shrW .u64 ((IntKind.u64).wrap (w64 (iv4 + j5))) 1))) fun a27 => Option.bind (cmp a27 target) fun a30 => if a30 < 0 then some (.inl (w64 ((w64 (shrW .u64 ((IntKind.u64).wrap (w64 (iv4 + j5))) 1)) + 1), j5)) else some (.inl (iv4, w64 (shrW .u64 ((IntKind.u64).wrap (w64 (iv4 + j5))) 1))) else some (.inr iv4)
noncomputable def slices_BinarySearchFunc_int_int_int (xv : List (List Int)) (target : List Int) (cmp : (List Int) → (List Int) → Option Int) : Option (Int × Bool) := Option.bind (Loop (slices_BinarySearchFunc_int_int_int_l1 xv target cmp) (0, (xv.length : Int))) fun iv6 => Option.bind (if iv6 < (xv.length : Int) then Option.bind (ix xv iv6) fun a43 => Option.bind (cmp a43 target) fun a46 => some (decide (a46 = 0)) else some false) fun t9 => some (iv6, t9)
abbrev slices_CompactFunc_int_int_w_s0 (l : List (List Int)) : Store := [.one (vec 1 eLi64 l)]
def slices_CompactFunc_int_int_w_l2 (l : List (List Int)) (kv54 : Int) : Int → ((List (List Int)) × Int) → Option ((List (List Int)) × Int) := fun k258 (c56, kv57) => Option.bind (Option.bind (ixV c56 (0 + kv54) ((l.length : Int) - kv54) k258) fun a41 => Option.bind (ixV c56 (0 + kv54) ((l.length : Int) - kv54) (k258 - 1)) fun a46 => Option.bind (slices_Equal_int_int a41 a46) fun a48 => if (!a48) = true then Option.bind (ixV c56 (0 + kv54) ((l.length : Int) - kv54) k258) fun a54 => Option.bind (ix c56 kv57) fun a56 => some (c56.set kv57.toNat a54, w64 (kv57 + 1)) else some (c56, kv57)) fun ⟨c59, kv60⟩ => some (c59, kv60)
def slices_CompactFunc_int_int_w_l1 (l : List (List Int)) : Int → Unit → Option (Unit ⊕ (List (List Int))) := fun kv54 _ => Option.bind (ix l kv54) fun a21 => Option.bind (ix l (kv54 - 1)) fun a26 => Option.bind (slices_Equal_int_int a21 a26) fun a28 => if a28 = true then Option.bind (cutV (l.length : Int) kv54 (l.length : Int)) fun u31 => (Option.bind (forR 1 ((l.length : Int) - kv54) (slices_CompactFunc_int_int_w_l2 l kv54) (l, kv54)) fun ⟨c56, kv57⟩ => Option.bind (cutV (c56.length : Int) kv57 (c56.length : Int)) fun u61 => Option.bind (cutV ((clrL c56 (0 + kv57) ((c56.length : Int) - kv57) []).length : Int) 0 kv57) fun u64 => some (.inr (viewL (clrL c56 (0 + kv57) ((c56.length : Int) - kv57) []) 0 kv57))) else some (.inl ())
def slices_CompactFunc_int_int_w (l : List (List Int)) : Option (List (List Int)) := if (l.length : Int) < 2 then some l else (Option.bind (rngX 1 (l.length : Int) (slices_CompactFunc_int_int_w_l1 l) ()) fun | .inl _ => some l | .inr x => some x)
abbrev belief_Normal_w_s0 (l : List (List Int)) : Store := [.one (vec 1 eLi64 l)]
noncomputable def belief_Normal_w (l : List (List Int)) : Option (List (List Int)) := Option.bind (sortFL slices_Compare_int_int l) fun a4 => Option.bind (slices_CompactFunc_int_int_w a4) fun a6 => some a6
noncomputable def open_Results_l1 (sv : List Int) (a20 : TOpenOperator) : Int → (List (List Int)) → Option (List (List Int)) := fun t5 c4 => Option.bind (ix a20.outcomes t5) fun a26 => Option.bind (strips_Update sv a26.add a26.del) fun a34 => Option.bind (app 24 c4 [a34]) fun a36 => some a36
noncomputable def open_Results_l2 (c4 : List (List Int)) (a40 : (List (List Int))) (a47 : TOpenOperator) : Int → (List Int) → Option (List Int) := fun t7 c6 => Option.bind (ix a47.outcomes t7) fun a54 => Option.bind (ix c4 t7) fun a60 => Option.bind (slices_BinarySearchFunc_int_int_int a40 a60 slices_Compare_int_int) fun a62 => Option.bind (ix c6 a62.1) fun a67 => Option.bind (ix c6 a62.1) fun a72 => some (c6.set a62.1.toNat (w64 (a67 + a54.weight)))
noncomputable def open_Results (ov : TOpenTask) (sv : List Int) (op : Int) : Option ((List (List Int)) × (List Int)) := Option.bind (ix ov.operators op) fun a20 => (Option.bind (forR 0 (a20.outcomes.length : Int) (open_Results_l1 sv a20) []) fun c4 => Option.bind (slices_Clone_Lint_int c4) fun a39 => Option.bind (belief_Normal_w a39) fun a40 => Option.bind (mkL 8 (a40.length : Int) 0) fun a43 => Option.bind (ix ov.operators op) fun a47 => (Option.bind (forR 0 (a47.outcomes.length : Int) (open_Results_l2 c4 a40 a47) a43) fun c6 => some (a40, c6)))
def open_Reach_j3 : ((List (List Int)) × (List (ByteArray × Int))) → Option (((List (List Int)) × (List (ByteArray × Int))) ⊕ ((List (List Int)) × Bool)) := fun (c10, c11) => some (.inl (c10, c11))
def open_Reach_j5 : ((List (List Int)) × (List (ByteArray × Int))) → Option (((List (List Int)) × (List (ByteArray × Int))) ⊕ ((List (List Int)) × Bool)) := fun (c16, c17) => some (.inl (c16, c17))
def open_Reach_l4 (a48 : (List (List Int)) × (List Int)) : Int → ((List (List Int)) × (List (ByteArray × Int))) → Option (((List (List Int)) × (List (ByteArray × Int))) ⊕ ((List (List Int)) × Bool)) := fun t15 (c13, c14) => Option.bind (ix a48.1 t15) fun a55 => Option.bind (belief_Key [a55]) fun a59 => if 0 < Option.getD (mget c14 a59) 0 then open_Reach_j5 (c13, c14) else if (c13.length : Int) = 2000 then some (.inr ([], false)) else Option.bind (app 24 c13 [a55]) fun a72 => open_Reach_j5 (a72, mset c14 a59 1)
noncomputable def open_Reach_l2 (ov : TOpenTask) (atv4 : Int) : Int → ((List (List Int)) × (List (ByteArray × Int))) → Option (((List (List Int)) × (List (ByteArray × Int))) ⊕ ((List (List Int)) × Bool)) := fun t9 (c7, c8) => Option.bind (ix c7 atv4) fun a36 => Option.bind (open_Can ov a36 t9) fun a39 => if (!a39) = true then open_Reach_j3 (c7, c8) else Option.bind (ix c7 atv4) fun a45 => Option.bind (open_Results ov a45 t9) fun a48 => (Option.bind (rngX 0 (a48.1.length : Int) (open_Reach_l4 a48) (c7, c8)) fun | .inl (c13, c14) => open_Reach_j3 (c13, c14) | .inr x => some (.inr x))
noncomputable def open_Reach_l1 (ov : TOpenTask) : ((List (List Int)) × (List (ByteArray × Int)) × Int) → Option (((List (List Int)) × (List (ByteArray × Int)) × Int) ⊕ ((List (List Int)) ⊕ ((List (List Int)) × Bool))) := fun (c2, c3, atv4) => if atv4 < (c2.length : Int) then (Option.bind (rngX 0 (ov.operators.length : Int) (open_Reach_l2 ov atv4) (c2, c3)) fun | .inl (c7, c8) => some (.inl (c7, c8, w64 (atv4 + 1))) | .inr x => some (.inr (.inr x))) else some (.inr (.inl c2))
noncomputable def open_Reach (ov : TOpenTask) : Option ((List (List Int)) × Bool) := Option.bind (slices_Clone_int_int ov.init) fun a15 => Option.bind (belief_Key [a15]) fun a19 => Option.bind (Loop (open_Reach_l1 ov) ([a15], mset ([] : List (ByteArray × Int)) a19 1, 0)) fun | .inl c5 => Option.bind (belief_Normal_w c5) fun a76 => some (a76, true) | .inr x => some x
noncomputable def open_Explore (ov : TOpenTask) : Option ((List (List Int)) × TFault) := Option.bind (open_Validate ov) fun a8 => if (!((decide (a8.code = 0)) && (decide (a8.index = 0)))) = true then some ([], a8) else Option.bind (open_Reach ov) fun a15 => if (!a15.2) = true then some ([], (⟨10, -7⟩ : TFault)) else some (a15.1, (⟨0, 0⟩ : TFault))
def ref1_In (nv : Int) (low : Int) (high : Int) : Option Bool := some ((decide (low ≤ nv)) && (decide (nv ≤ high)))
def law8_coin : Option TOpenTask := some (⟨1, [], [0], [(⟨[], [(⟨[0], [], 1⟩ : TOutcome), (⟨[], [], 2⟩ : TOutcome)], 1⟩ : TOpenOperator)]⟩ : TOpenTask)
noncomputable def open_Outcomes (ov : TOpenTask) (sv : List Int) (op : Int) : Option ((List (List Int)) × (List Int) × TFault) := Option.bind (open_Validate ov) fun a13 => if (!((decide (a13.code = 0)) && (decide (a13.index = 0)))) = true then some ([], [], a13) else Option.bind (strips_IsSet sv ov.facts) fun a22 => if (!a22) = true then some ([], [], (⟨5, -4⟩ : TFault)) else if ((decide (op < 0)) || (decide ((ov.operators.length : Int) ≤ op))) = true then some ([], [], (⟨3, -6⟩ : TFault)) else Option.bind (open_Can ov sv op) fun a40 => if (!a40) = true then some ([], [], (⟨11, op⟩ : TFault)) else Option.bind (open_Results ov sv op) fun a48 => some (a48.1, a48.2, (⟨0, 0⟩ : TFault))
def equal_Numbers_l1 (av : List Int) (bv : List Int) : Int → Unit → Option (Unit ⊕ Bool) := fun iv4 _ => Option.bind (ix av iv4) fun a19 => Option.bind (ix bv iv4) fun a23 => if a19 = a23 then some (.inl ()) else some (.inr false)
def equal_Numbers (av : List Int) (bv : List Int) : Option Bool := if (av.length : Int) = (bv.length : Int) then (Option.bind (rngX 0 (av.length : Int) (equal_Numbers_l1 av bv) ()) fun | .inl _ => some true | .inr x => some x) else some false
def equal_Sets_l1 (av : List (List Int)) (bv : List (List Int)) : Int → Unit → Option (Unit ⊕ Bool) := fun iv4 _ => Option.bind (ix av iv4) fun a19 => Option.bind (ix bv iv4) fun a23 => Option.bind (equal_Numbers a19 a23) fun a25 => if (!a25) = true then some (.inr false) else some (.inl ())
def equal_Sets (av : List (List Int)) (bv : List (List Int)) : Option Bool := if (av.length : Int) = (bv.length : Int) then (Option.bind (rngX 0 (av.length : Int) (equal_Sets_l1 av bv) ()) fun | .inl _ => some true | .inr x => some x) else some false
noncomputable def law8_tossed : Option Bool := Option.bind (law8_coin) fun a5 => Option.bind (open_Outcomes a5 [] 0) fun a6 => Option.bind (if a6.2.2.code = 0 then Option.bind (equal_Sets a6.1 ([[], [0]])) fun a17 => if a17 = true then Option.bind (equal_Numbers a6.2.1 [2, 1]) fun a22 => some a22 else some false else some false) fun t1 => some t1
def ref1_Ints_l1 (av : List Int) (bv : List Int) : Int → Unit → Option (Unit ⊕ Bool) := fun iv4 _ => Option.bind (ix av iv4) fun a19 => Option.bind (ix bv iv4) fun a23 => if a19 = a23 then some (.inl ()) else some (.inr false)
def ref1_Ints (av : List Int) (bv : List Int) : Option Bool := if (av.length : Int) = (bv.length : Int) then (Option.bind (rngX 0 (av.length : Int) (ref1_Ints_l1 av bv) ()) fun | .inl _ => some true | .inr x => some x) else some false
def ref1_Place_l1 (l : List (List Int)) (sv : List Int) : Int → Unit → Option (Unit ⊕ Int) := fun iv3 _ => Option.bind (ix l iv3) fun a14 => Option.bind (ref1_Ints a14 sv) fun a17 => if a17 = true then some (.inr iv3) else some (.inl ())
def ref1_Place (l : List (List Int)) (sv : List Int) : Option Int := (Option.bind (rngX 0 (l.length : Int) (ref1_Place_l1 l sv) ()) fun | .inl _ => some (-1) | .inr x => some x)
def law8_OpenExploreIsClosed_l1 (a15 : (List (List Int)) × TFault) (a52 : (List (List Int)) × (List Int) × TFault) : Int → Unit → Option (Unit ⊕ Bool) := fun kv13 _ => Option.bind (ix a52.1 kv13) fun a65 => Option.bind (ref1_Place a15.1 a65) fun a67 => if a67 < 0 then some (.inr false) else some (.inl ())
noncomputable def law8_OpenExploreIsClosed (ov : TOpenTask) (iv : Int) (op : Int) : Option Bool := Option.bind (open_Explore ov) fun a15 => Option.bind (if (!(decide (a15.2.code = 0))) = true then some true else Option.bind (ref1_In iv 0 ((a15.1.length : Int) - 1)) fun a26 => some (!a26)) fun t4 => if t4 = true then Option.bind (if (!(decide (a15.2.code = 0))) = true then Option.bind (law8_tossed) fun a38 => some a38 else if 0 < (a15.1.length : Int) then Option.bind (law8_tossed) fun a38 => some a38 else some false) fun t8 => some t8 else Option.bind (ref1_Place a15.1 ov.init) fun a43 => if a43 < 0 then some false else Option.bind (ix a15.1 iv) fun a49 => Option.bind (open_Outcomes ov a49 op) fun a52 => (Option.bind (rngX 0 (a52.1.length : Int) (law8_OpenExploreIsClosed_l1 a15 a52) ()) fun | .inl _ => Option.bind (if a52.2.2.code = 0 then Option.bind (law8_tossed) fun a83 => some a83 else if a52.2.2.code = 3 then Option.bind (law8_tossed) fun a83 => some a83 else if a52.2.2.code = 11 then Option.bind (law8_tossed) fun a83 => some a83 else some false) fun t15 => some t15 | .inr x => some x)
def ref1_At (code : Int) (index : Int) : Option TFault := some (⟨code, index⟩ : TFault)
def ref1_IsSet_l1 (l : List Int) (nv : Int) : Int → Unit → Option (Unit ⊕ Bool) := fun iv3 _ => Option.bind (Option.bind (ix l iv3) fun a14 => Option.bind (ref1_In a14 0 (w64 (nv - 1))) fun a18 => if (!a18) = true then some true else if 0 < iv3 then Option.bind (ix l iv3) fun a26 => Option.bind (ix l (iv3 - 1)) fun a31 => some (decide (a26 ≤ a31)) else some false) fun t4 => if t4 = true then some (.inr false) else some (.inl ())
def ref1_IsSet (l : List Int) (nv : Int) : Option Bool := (Option.bind (rngX 0 (l.length : Int) (ref1_IsSet_l1 l nv) ()) fun | .inl _ => some true | .inr x => some x)
def ref1_Has_l1 (l : List Int) (nv : Int) : Int → Unit → Option (Unit ⊕ Bool) := fun iv3 _ => Option.bind (ix l iv3) fun a14 => if a14 = nv then some (.inr true) else some (.inl ())
def ref1_Has (l : List Int) (nv : Int) : Option Bool := (Option.bind (rngX 0 (l.length : Int) (ref1_Has_l1 l nv) ()) fun | .inl _ => some false | .inr x => some x)
def ref1_Disjoint_l1 (av : List Int) (bv : List Int) : Int → Unit → Option (Unit ⊕ Bool) := fun iv3 _ => Option.bind (ix av iv3) fun a15 => Option.bind (ref1_Has bv a15) fun a17 => if a17 = true then some (.inr false) else some (.inl ())
def ref1_Disjoint (av : List Int) (bv : List Int) : Option Bool := (Option.bind (rngX 0 (av.length : Int) (ref1_Disjoint_l1 av bv) ()) fun | .inl _ => some true | .inr x => some x)
def ref8_OpenFault_l2 (ov : TOpenTask) (a42 : TOpenOperator) : (Int × Int) → Option ((Int × Int) ⊕ Int) := fun (ev12, kv13) => if ((decide (kv13 < (a42.outcomes.length : Int))) && (decide (ev12 = 0))) = true then Option.bind (Option.bind (ix a42.outcomes kv13) fun a73 => Option.bind (Option.bind (ref1_IsSet a73.add ov.facts) fun a79 => if (!a79) = true then some true else Option.bind (ref1_IsSet a73.del ov.facts) fun a86 => if (!a86) = true then some true else Option.bind (ref1_Disjoint a73.add a73.del) fun a94 => some (!a94)) fun t18 => if t18 = true then some 5 else Option.bind (ref1_In a73.weight 1 6) fun a99 => if (!a99) = true then some 3 else some ev12) fun ev16 => some (.inl (ev16, w64 (kv13 + 1))) else some (.inr ev12)
noncomputable def ref8_OpenFault_l1 (ov : TOpenTask) : Int → Unit → Option (Unit ⊕ TFault) := fun iv6 _ => Option.bind (ix ov.operators iv6) fun a42 => Option.bind (Option.bind (ref1_IsSet a42.pre ov.facts) fun a48 => if (!a48) = true then some 5 else Option.bind (ref1_In a42.cost 0 100) fun a52 => if (!a52) = true then some 3 else Option.bind (ref1_In (a42.outcomes.length : Int) 1 4) fun a57 => if (!a57) = true then some 9 else some 0) fun ev7 => Option.bind (Loop (ref8_OpenFault_l2 ov a42) (ev7, 0)) fun ev14 => if ev14 = 0 then some (.inl ()) else Option.bind (ref1_At ev14 iv6) fun a105 => some (.inr a105)
noncomputable def ref8_OpenFault (ov : TOpenTask) : Option TFault := Option.bind (ref1_In ov.facts 0 24) fun a10 => if (!a10) = true then Option.bind (ref1_At 3 (-1)) fun a12 => some a12 else Option.bind (ref1_IsSet ov.init ov.facts) fun a17 => if (!a17) = true then Option.bind (ref1_At 5 (-2)) fun a19 => some a19 else Option.bind (ref1_IsSet ov.goal ov.facts) fun a24 => if (!a24) = true then Option.bind (ref1_At 5 (-3)) fun a26 => some a26 else if 40 < (ov.operators.length : Int) then Option.bind (ref1_At 2 (-1)) fun a31 => some a31 else (Option.bind (rngX 0 (ov.operators.length : Int) (ref8_OpenFault_l1 ov) ()) fun | .inl _ => some (⟨0, 0⟩ : TFault) | .inr x => some x)
def ref1_Word_l1 (sv : List Int) : Int → Int → Option Int := fun iv3 w2 => Option.bind (ix sv iv3) fun a14 => Option.bind (chk0 ((IntKind.u64).wrap a14)) fun u17 => some (w64 (w2 + (shlW .i64 1 ((IntKind.u64).wrap a14))))
def ref1_Word (sv : List Int) : Option Int := (Option.bind (forR 0 (sv.length : Int) (ref1_Word_l1 sv) 0) fun w2 => some w2)
def ref1_Subset_l1 (part : List Int) (l : List Int) : Int → Unit → Option (Unit ⊕ Bool) := fun iv3 _ => Option.bind (ix part iv3) fun a15 => Option.bind (ref1_Has l a15) fun a17 => if (!a17) = true then some (.inr false) else some (.inl ())
def ref1_Subset (part : List Int) (l : List Int) : Option Bool := (Option.bind (rngX 0 (part.length : Int) (ref1_Subset_l1 part l) ()) fun | .inl _ => some true | .inr x => some x)
def ref8_Applies (ov : TOpenTask) (sv : List Int) (op : Int) : Option Bool := Option.bind (ix ov.operators op) fun a10 => Option.bind (ref1_Subset a10.pre sv) fun a14 => some a14
def ref8_Effect_l1 (sv : List Int) (xv : TOutcome) : Int → (List Int) → Option (List Int) := fun p5 c4 => Option.bind (Option.bind (Option.bind (ref1_Has xv.add p5) fun a18 => if a18 = true then some true else Option.bind (ref1_Has sv p5) fun a22 => if a22 = true then Option.bind (ref1_Has xv.del p5) fun a27 => some (!a27) else some false) fun t8 => if t8 = true then Option.bind (app 8 c4 [p5]) fun a34 => some a34 else some c4) fun c6 => some c6
def ref8_Effect (ov : TOpenTask) (sv : List Int) (xv : TOutcome) : Option (List Int) := if ov.facts ≤ 9223372036854775807 then (Option.bind (forR 0 ov.facts (ref8_Effect_l1 sv xv) []) fun c4 => some c4) else none
def ref7_Before_l1 (av : List Int) (bv : List Int) : Int → Option (Int ⊕ (Unit ⊕ Bool)) := fun iv3 => if ((decide (iv3 < (av.length : Int))) && (decide (iv3 < (bv.length : Int)))) = true then Option.bind (ix av iv3) fun a20 => Option.bind (ix bv iv3) fun a24 => if a20 = a24 then some (.inl (w64 (iv3 + 1))) else Option.bind (ix av iv3) fun a29 => Option.bind (ix bv iv3) fun a33 => some (.inr (.inr (decide (a29 < a33)))) else some (.inr (.inl ()))
noncomputable def ref7_Before (av : List Int) (bv : List Int) : Option Bool := Option.bind (Loop (ref7_Before_l1 av bv) 0) fun | .inl _ => some (decide ((av.length : Int) < (bv.length : Int))) | .inr x => some x
noncomputable def ref7_Insert_l1 (l : List (List Int)) (sv : List Int) : Int → Option (Int ⊕ Int) := fun kv3 => Option.bind (if kv3 < (l.length : Int) then Option.bind (ix l kv3) fun a13 => Option.bind (ref7_Before a13 sv) fun a16 => some a16 else some false) fun t5 => if t5 = true then some (.inl (w64 (kv3 + 1))) else some (.inr kv3)
noncomputable def ref7_Insert (l : List (List Int)) (sv : List Int) : Option (List (List Int)) := Option.bind (Loop (ref7_Insert_l1 l sv) 0) fun kv4 => Option.bind (if kv4 < (l.length : Int) then Option.bind (ix l kv4) fun a27 => Option.bind (ref1_Ints a27 sv) fun a30 => some a30 else some false) fun t9 => if t9 = true then some l else Option.bind (subL l 0 kv4) fun a36 => Option.bind (app 24 ([] : List (List Int)) a36) fun a37 => Option.bind (app 24 a37 [sv]) fun a40 => Option.bind (subL l kv4 (l.length : Int)) fun a43 => Option.bind (app 24 a40 a43) fun a44 => some a44
noncomputable def ref8_After_l1 (ov : TOpenTask) (sv : List Int) (a17 : TOpenOperator) : Int → (List (List Int)) → Option (List (List Int)) := fun kv5 states4 => Option.bind (ix a17.outcomes kv5) fun a31 => Option.bind (ref8_Effect ov sv a31) fun a33 => Option.bind (ref7_Insert states4 a33) fun a34 => some a34
def ref8_After_l2 (ov : TOpenTask) (sv : List Int) (a17 : TOpenOperator) (states4 : List (List Int)) : Int → (List Int) → Option (List Int) := fun kv7 c6 => Option.bind (ix a17.outcomes kv7) fun a49 => Option.bind (ref8_Effect ov sv a49) fun a51 => Option.bind (ref1_Place states4 a51) fun a52 => Option.bind (ix c6 a52) fun a57 => Option.bind (ix a17.outcomes kv7) fun a61 => Option.bind (ix c6 a52) fun a65 => some (c6.set a52.toNat (w64 (a57 + a61.weight)))
noncomputable def ref8_After (ov : TOpenTask) (sv : List Int) (op : Int) : Option ((List (List Int)) × (List Int)) := Option.bind (ix ov.operators op) fun a17 => (Option.bind (forR 0 (a17.outcomes.length : Int) (ref8_After_l1 ov sv a17) []) fun states4 => Option.bind (mkL 8 (states4.length : Int) 0) fun a37 => (Option.bind (forR 0 (a17.outcomes.length : Int) (ref8_After_l2 ov sv a17 states4) a37) fun c6 => some (states4, c6)))
def ref8_Reached_j3 : ((List (List Int)) × (List Int)) → Option (((List (List Int)) × (List Int)) ⊕ ((List (List Int)) × Bool)) := fun (c11, c12) => some (.inl (c11, c12))
def ref8_Reached_j5 : ((List (List Int)) × (List Int)) → Option (((List (List Int)) × (List Int)) ⊕ ((List (List Int)) × Bool)) := fun (c17, c18) => some (.inl (c17, c18))
def ref8_Reached_l4 (most : Int) (a52 : (List (List Int)) × (List Int)) : Int → ((List (List Int)) × (List Int)) → Option (((List (List Int)) × (List Int)) ⊕ ((List (List Int)) × Bool)) := fun kv16 (c14, c15) => Option.bind (ix a52.1 kv16) fun a64 => Option.bind (ref1_Word a64) fun a66 => Option.bind (ref1_Has c15 a66) fun a67 => if a67 = true then ref8_Reached_j5 (c14, c15) else if most ≤ (c14.length : Int) then some (.inr ([], false)) else Option.bind (ix a52.1 kv16) fun a75 => Option.bind (app 24 c14 [a75]) fun a78 => Option.bind (ix a52.1 kv16) fun a82 => Option.bind (ref1_Word a82) fun a84 => Option.bind (app 8 c15 [a84]) fun a86 => ref8_Reached_j5 (a78, a86)
noncomputable def ref8_Reached_l2 (ov : TOpenTask) (most : Int) (iv5 : Int) : Int → ((List (List Int)) × (List Int)) → Option (((List (List Int)) × (List Int)) ⊕ ((List (List Int)) × Bool)) := fun op10 (c8, c9) => Option.bind (ix c8 iv5) fun a40 => Option.bind (ref8_Applies ov a40 op10) fun a43 => if (!a43) = true then ref8_Reached_j3 (c8, c9) else Option.bind (ix c8 iv5) fun a49 => Option.bind (ref8_After ov a49 op10) fun a52 => (Option.bind (rngX 0 (a52.1.length : Int) (ref8_Reached_l4 most a52) (c8, c9)) fun | .inl (c14, c15) => ref8_Reached_j3 (c14, c15) | .inr x => some (.inr x))
noncomputable def ref8_Reached_l1 (ov : TOpenTask) (most : Int) : ((List (List Int)) × (List Int) × Int) → Option (((List (List Int)) × (List Int) × Int) ⊕ ((List (List Int)) ⊕ ((List (List Int)) × Bool))) := fun (c3, c4, iv5) => if iv5 < (c3.length : Int) then (Option.bind (rngX 0 (ov.operators.length : Int) (ref8_Reached_l2 ov most iv5) (c3, c4)) fun | .inl (c8, c9) => some (.inl (c8, c9, w64 (iv5 + 1))) | .inr x => some (.inr (.inr x))) else some (.inr (.inl c3))
noncomputable def ref8_Reached_l6 (c6 : List (List Int)) : Int → (List (List Int)) → Option (List (List Int)) := fun iv22 out21 => Option.bind (ix c6 iv22) fun a96 => Option.bind (ref7_Insert out21 a96) fun a98 => some a98
noncomputable def ref8_Reached (ov : TOpenTask) (most : Int) : Option ((List (List Int)) × Bool) := Option.bind (ref1_Word ov.init) fun a21 => Option.bind (app 8 [] [a21]) fun a23 => Option.bind (Loop (ref8_Reached_l1 ov most) ([ov.init], a23, 0)) fun | .inl c6 => (Option.bind (forR 0 (c6.length : Int) (ref8_Reached_l6 c6) []) fun out21 => some (out21, true)) | .inr x => some x
end Ab
end
section
namespace Go.Proofs
open Go.Shelf
def Tryd.lays215_ren : Go.Shelf.Ren := ⟨fun | 215 => 61 | n => n, fun | 3 => 3 | 4 => 4 | n => n, fun | n => n⟩
theorem Tryd.lays215 : Go.Proofs.Lays.n215 Tryd.prog Tryd.lays215_ren := {
  mixed := by kernel_rfl
  f215 := Tryd.func61.trans (congrArg some (by kernel_rfl))
  t3 := Tryd.underlying3
  a3 := Tryd.isAgg3
  z3 := Tryd.sizeOf3
  v3 := Tryd.zeroValue3
  t4 := Tryd.underlying4
  a4 := Tryd.isAgg4
  z4 := Tryd.sizeOf4
  v4 := Tryd.zeroValue4 }
open Go.RowKit in
/-- cmp.isNaN at int: 'x != x': false. (LAID: no walk: one application.) -/
theorem Tryd.cmp_isNaN_int (x : Int) (w : World) :
    Calls Tryd.prog 61 #[.int .i64 x] w fun e w' => e = .returned (.bool false) ∧ w' = w := Any.cmp_isNaN_int Tryd.lays215 x w
def Tryd.lays122_ren : Go.Shelf.Ren := ⟨fun | 122 => 52 | 215 => 61 | n => n, fun | 3 => 3 | 4 => 4 | n => n, fun | n => n⟩
theorem Tryd.lays122 : Go.Proofs.Lays.n122 Tryd.prog Tryd.lays122_ren := {
  mixed := by kernel_rfl
  f122 := Tryd.func52.trans (congrArg some (by kernel_rfl))
  f215 := Tryd.func61.trans (congrArg some (by kernel_rfl))
  t3 := Tryd.underlying3
  a3 := Tryd.isAgg3
  z3 := Tryd.sizeOf3
  v3 := Tryd.zeroValue3
  t4 := Tryd.underlying4
  a4 := Tryd.isAgg4
  z4 := Tryd.sizeOf4
  v4 := Tryd.zeroValue4 }
open Go.RowKit in
/-- cmp.Compare at int: "Compare returns -1 if x is less than y, 0 if x equals y, +1 if x is greater than y.": IT RETURNS 'Lib.compareInt x y'; the world is as' it was. (LAID: no walk: one application.) -/
theorem Tryd.cmp_Compare_int (x y : Int) (w : World) :
    Calls Tryd.prog 52 #[.int .i64 x, .int .i64 y] w fun e w' => e = .returned (.int .i64 (Lib.compareInt x y)) ∧ w' = w := Any.cmp_Compare_int Tryd.lays122 x y w
def Tryd.lays283_ren : Go.Shelf.Ren := ⟨fun | 283 => 82 | n => n, fun | 3 => 3 | 9 => 9 | 4 => 4 | n => n, fun | n => n⟩
theorem Tryd.lays283 : Go.Proofs.Lays.n283 Tryd.prog Tryd.lays283_ren := {
  mixed := by kernel_rfl
  f283 := Tryd.func82.trans (congrArg some (by kernel_rfl))
  t3 := Tryd.underlying3
  a3 := Tryd.isAgg3
  z3 := Tryd.sizeOf3
  v3 := Tryd.zeroValue3
  t4 := Tryd.underlying4
  a4 := Tryd.isAgg4
  z4 := Tryd.sizeOf4
  v4 := Tryd.zeroValue4
  t9 := Tryd.underlying9
  a9 := Tryd.isAgg9
  z9 := Tryd.sizeOf9
  v9 := Tryd.zeroValue9 }
open Go.Lib in
/-- internal/strconv.small: "small returns the string for an i with 0 <= i < nSmalls.": i's decimal numeral. The world is as' it was. (LAID: no walk: one application.) -/
theorem Tryd.internal_strconv_small (i : Nat) (h : i < 100) (w : World) :
    Calls Tryd.prog 82 #[.int .i64 i] w fun e w' => e = .returned (.string ⟨(Lib.decDigits i).toArray⟩) ∧ w' = w := Any.internal_strconv_small Tryd.lays283 i h w
def Tryd.lays189_ren : Go.Shelf.Ren := ⟨fun | 189 => 50 | 125 => 57 | 257 => 60 | 128 => 72 | 129 => 73 | 294 => 74 | 295 => 75 | 296 => 76 | 297 => 77 | 298 => 78 | 299 => 79 | 216 => 58 | 300 => 80 | 301 => 81 | 328 => 91 | 329 => 87 | 330 => 88 | 331 => 92 | 332 => 93 | 215 => 61 | 343 => 99 | n => n, fun | 28 => 22 | 3 => 3 | 46 => 77 | 0 => 0 | 51 => 102 | 53 => 92 | 4 => 4 | 183 => 96 | 182 => 95 | 131 => 74 | 5 => 5 | 9 => 9 | 218 => 114 | 222 => 118 | 228 => 126 | 229 => 127 | n => n, fun | n => n⟩
theorem Tryd.lays189 : Go.Proofs.Lays.n189 Tryd.prog Tryd.lays189_ren := {
  mixed := by kernel_rfl
  f125 := Tryd.func57.trans (congrArg some (by kernel_rfl))
  f128 := Tryd.func72.trans (congrArg some (by kernel_rfl))
  f129 := Tryd.func73.trans (congrArg some (by kernel_rfl))
  f189 := Tryd.func50.trans (congrArg some (by kernel_rfl))
  f215 := Tryd.func61.trans (congrArg some (by kernel_rfl))
  f216 := Tryd.func58.trans (congrArg some (by kernel_rfl))
  f257 := Tryd.func60.trans (congrArg some (by kernel_rfl))
  f294 := Tryd.func74.trans (congrArg some (by kernel_rfl))
  f295 := Tryd.func75.trans (congrArg some (by kernel_rfl))
  f296 := Tryd.func76.trans (congrArg some (by kernel_rfl))
  f297 := Tryd.func77.trans (congrArg some (by kernel_rfl))
  f298 := Tryd.func78.trans (congrArg some (by kernel_rfl))
  f299 := Tryd.func79.trans (congrArg some (by kernel_rfl))
  f300 := Tryd.func80.trans (congrArg some (by kernel_rfl))
  f301 := Tryd.func81.trans (congrArg some (by kernel_rfl))
  f328 := Tryd.func91.trans (congrArg some (by kernel_rfl))
  f329 := Tryd.func87.trans (congrArg some (by kernel_rfl))
  f330 := Tryd.func88.trans (congrArg some (by kernel_rfl))
  f331 := Tryd.func92.trans (congrArg some (by kernel_rfl))
  f332 := Tryd.func93.trans (congrArg some (by kernel_rfl))
  f343 := Tryd.func99.trans (congrArg some (by kernel_rfl))
  t0 := Tryd.underlying0
  a0 := Tryd.isAgg0
  z0 := Tryd.sizeOf0
  v0 := Tryd.zeroValue0
  t3 := Tryd.underlying3
  a3 := Tryd.isAgg3
  z3 := Tryd.sizeOf3
  v3 := Tryd.zeroValue3
  t4 := Tryd.underlying4
  a4 := Tryd.isAgg4
  z4 := Tryd.sizeOf4
  v4 := Tryd.zeroValue4
  t5 := Tryd.underlying5
  a5 := Tryd.isAgg5
  z5 := Tryd.sizeOf5
  v5 := Tryd.zeroValue5
  t9 := Tryd.underlying9
  a9 := Tryd.isAgg9
  z9 := Tryd.sizeOf9
  v9 := Tryd.zeroValue9
  t28 := Tryd.underlying22
  a28 := Tryd.isAgg22
  z28 := Tryd.sizeOf22
  v28 := Tryd.zeroValue22
  t46 := Tryd.underlying77
  a46 := Tryd.isAgg77
  z46 := Tryd.sizeOf77
  v46 := Tryd.zeroValue77
  t51 := Tryd.underlying102
  a51 := Tryd.isAgg102
  z51 := Tryd.sizeOf102
  v51 := Tryd.zeroValue102
  t53 := Tryd.underlying92
  a53 := Tryd.isAgg92
  z53 := Tryd.sizeOf92
  v53 := Tryd.zeroValue92
  t131 := Tryd.underlying74
  a131 := Tryd.isAgg74
  z131 := Tryd.sizeOf74
  v131 := Tryd.zeroValue74
  t182 := Tryd.underlying95
  a182 := Tryd.isAgg95
  z182 := Tryd.sizeOf95
  v182 := Tryd.zeroValue95
  t183 := Tryd.underlying96
  a183 := Tryd.isAgg96
  z183 := Tryd.sizeOf96
  v183 := Tryd.zeroValue96
  t218 := Tryd.underlying114
  a218 := Tryd.isAgg114
  z218 := Tryd.sizeOf114
  v218 := Tryd.zeroValue114
  t222 := Tryd.underlying118
  a222 := Tryd.isAgg118
  z222 := Tryd.sizeOf118
  v222 := Tryd.zeroValue118
  t228 := Tryd.underlying126
  a228 := Tryd.isAgg126
  z228 := Tryd.sizeOf126
  v228 := Tryd.zeroValue126
  t229 := Tryd.underlying127
  a229 := Tryd.isAgg127
  z229 := Tryd.sizeOf127
  v229 := Tryd.zeroValue127 }
open Go.Sort Go.RowKit in
theorem Tryd.slices_Sort_int (blk off cap : Nat) (zs : List Int) (w : World) (hH : Holds (Value.int .i64) w blk off zs.toArray) (hblk : blk < w.heap.size) (hsz : zs.length < 4611686018427387904) :
    Calls Tryd.prog 50 #[.slice (some ⟨blk, off, none⟩) zs.length cap] w fun e w' =>
      e = .returned (.tuple #[]) ∧ ∃ n os, w' = grow (putRow (Value.int .i64) (Sort.ahead w n) blk off (zs.mergeSort fun x y => decide (x ≤ y)).toArray) os := Any.slices_Sort_int Tryd.lays189 blk off cap zs w hH hblk hsz
def Tryd.laysNm220_ren : Go.Shelf.Ren := ⟨fun | 20 => 51 | n => n, fun | 22 => 22 | 3 => 3 | 4 => 4 | 0 => 0 | n => n, fun | n => n⟩
theorem Tryd.laysNm220 : Go.Proofs.Lays2.n20 Tryd.prog Tryd.laysNm220_ren := {
  mixed := by kernel_rfl
  f20 := Tryd.func51.trans (congrArg some (by kernel_rfl))
  t0 := Tryd.underlying0
  a0 := Tryd.isAgg0
  z0 := Tryd.sizeOf0
  v0 := Tryd.zeroValue0
  t3 := Tryd.underlying3
  a3 := Tryd.isAgg3
  z3 := Tryd.sizeOf3
  v3 := Tryd.zeroValue3
  t4 := Tryd.underlying4
  a4 := Tryd.isAgg4
  z4 := Tryd.sizeOf4
  v4 := Tryd.zeroValue4
  t22 := Tryd.underlying22
  a22 := Tryd.isAgg22
  z22 := Tryd.sizeOf22
  v22 := Tryd.zeroValue22
  i3 := by kernel_rfl }
open Go.RowKit Go.Lib Go.Sort in
/-- slices.Compact at []int: "Compact replaces consecutive runs of equal elements with a single copy. This is like the uniq command found on Unix. Compact modifies the contents of the slice s and returns the modified slice, which may have a smaller length. Compact zeroes the elements between the new length and the original length. The result preserves the nilness of s.": IT RETURNS THE SLICE CUT TO 'Lib.compact zs'; ITS CELLS HOLD 'Lib.compact zs', THEN ZERO VALUES up to the old length; all else is as' it was, but for the count of draws. IN THE WORDS OF slices.Sort's CONTRACT ('Holds', 'putRow'): so the everyday 'slices.Sort(xs); xs = slices.Compact(xs)' goes from the one contract to the other. It asks 'zs.length ≤ cap' (every slice's: the reslicing 's[:k]' looks at it). Length 0, nil: '.._empty'. (LAID: no walk: one application.) -/
theorem Tryd.slices_Compact_int (blk off cap : Nat) (zs : List Int) (w : World) (hH : Holds (Value.int .i64) w blk off zs.toArray) (hsz : zs.length ≤ 9223372036854775807) (hcap : zs.length ≤ cap) :
    Calls Tryd.prog 51 #[.slice (some ⟨blk, off, none⟩) zs.length cap] w fun e w' => e = .returned (.slice (some ⟨blk, off, none⟩) (Lib.compact zs).length cap) ∧ ∃ q, w' = putRow (Value.int .i64) (Sort.ahead w q) blk off (Lib.compact zs ++ List.replicate (zs.length - (Lib.compact zs).length) 0).toArray := Any.slices_Compact_int Tryd.laysNm220 blk off cap zs w hH hsz hcap
open Go.RowKit Go.Lib Go.Sort in
/-- The same at a slice of length 0, a nil one too: it comes back as' it is. (LAID: no walk: one application.) -/
theorem Tryd.slices_Compact_int_empty (a : Option Addr) (cap : Nat) (w : World) :
    Calls Tryd.prog 51 #[.slice a 0 cap] w fun e w' => e = .returned (.slice a 0 cap) ∧ w' = w := Any.slices_Compact_int_empty Tryd.laysNm220 a cap w
open Go.RowKit Go.Sort in
/-- .. and plain. (LAID: no walk: one application.) -/
theorem Tryd.slices_Sort_int_none (p : Option Addr) (cap : Nat) (w : World) :
    Calls Tryd.prog 50 #[.slice p 0 cap] w fun e w' => e = .returned (.tuple #[]) ∧ w' = w := Any.slices_Sort_int_none Tryd.lays189 p cap w
def Tryd.laysSlF6_f46_ren : Go.Shelf.Ren := ⟨fun | 6 => 46 | 15 => 57 | 14 => 56 | 28 => 72 | 29 => 73 | 20 => 64 | 21 => 65 | 22 => 66 | 23 => 67 | 24 => 68 | 25 => 69 | 26 => 70 | 27 => 71 | 46 => 86 | 47 => 87 | 48 => 88 | 49 => 89 | 50 => 90 | 57 => 98 | n => n, fun | 22 => 26 | 24 => 22 | 25 => 76 | 3 => 3 | 39 => 77 | 0 => 0 | 53 => 102 | 55 => 92 | 4 => 4 | 46 => 96 | 45 => 95 | 50 => 74 | 5 => 5 | 9 => 9 | 66 => 114 | 70 => 118 | 76 => 126 | 77 => 127 | n => n, fun | n => n⟩
theorem Tryd.laysSlF6_f46 : Go.Proofs.SlLaysF.n6 Tryd.prog Tryd.laysSlF6_f46_ren := {
  mixed := by kernel_rfl
  f6 := ⟨Tryd.f46.name, by decide, Tryd.func46.trans (congrArg some (by kernel_rfl))⟩
  f14 := ⟨Tryd.f56.name, by decide, Tryd.func56.trans (congrArg some (by kernel_rfl))⟩
  f15 := Tryd.func57.trans (congrArg some (by kernel_rfl))
  f20 := ⟨Tryd.f64.name, by decide, Tryd.func64.trans (congrArg some (by kernel_rfl))⟩
  f21 := ⟨Tryd.f65.name, by decide, Tryd.func65.trans (congrArg some (by kernel_rfl))⟩
  f22 := ⟨Tryd.f66.name, by decide, Tryd.func66.trans (congrArg some (by kernel_rfl))⟩
  f23 := ⟨Tryd.f67.name, by decide, Tryd.func67.trans (congrArg some (by kernel_rfl))⟩
  f24 := ⟨Tryd.f68.name, by decide, Tryd.func68.trans (congrArg some (by kernel_rfl))⟩
  f25 := ⟨Tryd.f69.name, by decide, Tryd.func69.trans (congrArg some (by kernel_rfl))⟩
  f26 := ⟨Tryd.f70.name, by decide, Tryd.func70.trans (congrArg some (by kernel_rfl))⟩
  f27 := ⟨Tryd.f71.name, by decide, Tryd.func71.trans (congrArg some (by kernel_rfl))⟩
  f28 := Tryd.func72.trans (congrArg some (by kernel_rfl))
  f29 := Tryd.func73.trans (congrArg some (by kernel_rfl))
  f46 := ⟨Tryd.f86.name, by decide, Tryd.func86.trans (congrArg some (by kernel_rfl))⟩
  f47 := Tryd.func87.trans (congrArg some (by kernel_rfl))
  f48 := Tryd.func88.trans (congrArg some (by kernel_rfl))
  f49 := ⟨Tryd.f89.name, by decide, Tryd.func89.trans (congrArg some (by kernel_rfl))⟩
  f50 := ⟨Tryd.f90.name, by decide, Tryd.func90.trans (congrArg some (by kernel_rfl))⟩
  f57 := ⟨Tryd.f98.name, by decide, Tryd.func98.trans (congrArg some (by kernel_rfl))⟩
  t0 := Tryd.underlying0
  a0 := Tryd.isAgg0
  z0 := Tryd.sizeOf0
  v0 := Tryd.zeroValue0
  t3 := Tryd.underlying3
  a3 := Tryd.isAgg3
  z3 := Tryd.sizeOf3
  v3 := Tryd.zeroValue3
  t4 := Tryd.underlying4
  a4 := Tryd.isAgg4
  z4 := Tryd.sizeOf4
  v4 := Tryd.zeroValue4
  t5 := Tryd.underlying5
  a5 := Tryd.isAgg5
  z5 := Tryd.sizeOf5
  v5 := Tryd.zeroValue5
  t9 := Tryd.underlying9
  a9 := Tryd.isAgg9
  z9 := Tryd.sizeOf9
  v9 := Tryd.zeroValue9
  t22 := Tryd.underlying26
  a22 := Tryd.isAgg26
  z22 := Tryd.sizeOf26
  v22 := Tryd.zeroValue26
  a24 := Tryd.isAgg22
  z24 := Tryd.sizeOf22
  t25 := Tryd.underlying76
  a25 := Tryd.isAgg76
  z25 := Tryd.sizeOf76
  v25 := Tryd.zeroValue76
  t39 := Tryd.underlying77
  a39 := Tryd.isAgg77
  z39 := Tryd.sizeOf77
  v39 := Tryd.zeroValue77
  t45 := Tryd.underlying95
  a45 := Tryd.isAgg95
  z45 := Tryd.sizeOf95
  v45 := Tryd.zeroValue95
  t46 := Tryd.underlying96
  a46 := Tryd.isAgg96
  z46 := Tryd.sizeOf96
  v46 := Tryd.zeroValue96
  t50 := Tryd.underlying74
  a50 := Tryd.isAgg74
  z50 := Tryd.sizeOf74
  v50 := Tryd.zeroValue74
  t53 := Tryd.underlying102
  a53 := Tryd.isAgg102
  z53 := Tryd.sizeOf102
  v53 := Tryd.zeroValue102
  t55 := Tryd.underlying92
  a55 := Tryd.isAgg92
  z55 := Tryd.sizeOf92
  v55 := Tryd.zeroValue92
  t66 := Tryd.underlying114
  a66 := Tryd.isAgg114
  z66 := Tryd.sizeOf114
  v66 := Tryd.zeroValue114
  t70 := Tryd.underlying118
  a70 := Tryd.isAgg118
  z70 := Tryd.sizeOf118
  v70 := Tryd.zeroValue118
  t76 := Tryd.underlying126
  a76 := Tryd.isAgg126
  z76 := Tryd.sizeOf126
  v76 := Tryd.zeroValue126
  t77 := Tryd.underlying127
  a77 := Tryd.isAgg127
  z77 := Tryd.sizeOf127
  v77 := Tryd.zeroValue127 }
open Go.RowKit Go.Lib Go.Sort in
/-- **slices.SortFunc, IN THE DOCUMENTATION's OWN TERMS: A PERMUTATION OF WHAT THE ROW HELD, SORTED BY 'cmp(a, b) < 0'.** Which of two equals comes first is left open ("The sort is not guaranteed to be stable"). (LAID AT THE INSTANCE 'slices.SortFunc[[][]int,[]int]': no walk: one application.) -/
theorem Tryd.slices_SortFunc {α : Type} [Inhabited α] (enc : α → Value) (h1 : OneCell enc) (cf : α → α → Int) (hO : SWO (ltOf cf)) (g : Nat) (cb : Array Value) (blk off cap : Nat) (d : Array α) (w : World) (eg : ∀ args w, (callFunc g args).run Tryd.prog w = .ok (.enter g args) w) (hcmp : CmpLays1 Tryd.prog g cb enc cf blk off d.size w) (hH : Holds enc w blk off d) (hblk : blk < w.heap.size) (hsz : d.size < 4611686018427387904) :
    Calls Tryd.prog 46 #[.slice (some ⟨blk, off, none⟩) d.size cap, .func (.func g) #[] cb] w fun e w' =>
      e = .returned (.tuple #[]) ∧ ∃ d' n os, PermIn 0 d.size d d' ∧ SortedIn (ltOf cf) 0 d.size d' ∧ w' = sortWorld enc w blk off n d' os := Any.slices_SortFunc Tryd.laysSlF6_f46 enc h1 cf hO g cb blk off cap d w eg hcmp hH hblk hsz
def Tryd.laysSlF06_f46_ren : Go.Shelf.Ren := ⟨fun | 6 => 46 | 15 => 57 | 14 => 56 | 28 => 72 | 29 => 73 | 20 => 64 | 21 => 65 | 22 => 66 | 23 => 67 | 24 => 68 | 25 => 69 | 26 => 70 | 27 => 71 | 46 => 86 | 47 => 87 | 48 => 88 | 49 => 89 | 50 => 90 | 57 => 98 | n => n, fun | 22 => 26 | 24 => 22 | 25 => 76 | 3 => 3 | 39 => 77 | 0 => 0 | 53 => 102 | 55 => 92 | 4 => 4 | 46 => 96 | 45 => 95 | 50 => 74 | 5 => 5 | 9 => 9 | 66 => 114 | 70 => 118 | 76 => 126 | 77 => 127 | n => n, fun | n => n⟩
theorem Tryd.laysSlF06_f46 : Go.Proofs.SlLaysF0.n6 Tryd.prog Tryd.laysSlF06_f46_ren := {
  mixed := by kernel_rfl
  f6 := ⟨Tryd.f46.name, by decide, Tryd.func46.trans (congrArg some (by kernel_rfl))⟩
  f14 := ⟨Tryd.f56.name, by decide, Tryd.func56.trans (congrArg some (by kernel_rfl))⟩
  f15 := Tryd.func57.trans (congrArg some (by kernel_rfl))
  f20 := ⟨Tryd.f64.name, by decide, Tryd.func64.trans (congrArg some (by kernel_rfl))⟩
  f21 := ⟨Tryd.f65.name, by decide, Tryd.func65.trans (congrArg some (by kernel_rfl))⟩
  f22 := ⟨Tryd.f66.name, by decide, Tryd.func66.trans (congrArg some (by kernel_rfl))⟩
  f23 := ⟨Tryd.f67.name, by decide, Tryd.func67.trans (congrArg some (by kernel_rfl))⟩
  f24 := ⟨Tryd.f68.name, by decide, Tryd.func68.trans (congrArg some (by kernel_rfl))⟩
  f25 := ⟨Tryd.f69.name, by decide, Tryd.func69.trans (congrArg some (by kernel_rfl))⟩
  f26 := ⟨Tryd.f70.name, by decide, Tryd.func70.trans (congrArg some (by kernel_rfl))⟩
  f27 := ⟨Tryd.f71.name, by decide, Tryd.func71.trans (congrArg some (by kernel_rfl))⟩
  f28 := Tryd.func72.trans (congrArg some (by kernel_rfl))
  f29 := Tryd.func73.trans (congrArg some (by kernel_rfl))
  f46 := ⟨Tryd.f86.name, by decide, Tryd.func86.trans (congrArg some (by kernel_rfl))⟩
  f47 := Tryd.func87.trans (congrArg some (by kernel_rfl))
  f48 := Tryd.func88.trans (congrArg some (by kernel_rfl))
  f49 := ⟨Tryd.f89.name, by decide, Tryd.func89.trans (congrArg some (by kernel_rfl))⟩
  f50 := ⟨Tryd.f90.name, by decide, Tryd.func90.trans (congrArg some (by kernel_rfl))⟩
  f57 := ⟨Tryd.f98.name, by decide, Tryd.func98.trans (congrArg some (by kernel_rfl))⟩
  t0 := Tryd.underlying0
  a0 := Tryd.isAgg0
  z0 := Tryd.sizeOf0
  v0 := Tryd.zeroValue0
  t3 := Tryd.underlying3
  a3 := Tryd.isAgg3
  z3 := Tryd.sizeOf3
  v3 := Tryd.zeroValue3
  t4 := Tryd.underlying4
  a4 := Tryd.isAgg4
  z4 := Tryd.sizeOf4
  v4 := Tryd.zeroValue4
  t5 := Tryd.underlying5
  a5 := Tryd.isAgg5
  z5 := Tryd.sizeOf5
  v5 := Tryd.zeroValue5
  t9 := Tryd.underlying9
  a9 := Tryd.isAgg9
  z9 := Tryd.sizeOf9
  v9 := Tryd.zeroValue9
  t22 := Tryd.underlying26
  a22 := Tryd.isAgg26
  z22 := Tryd.sizeOf26
  v22 := Tryd.zeroValue26
  t25 := Tryd.underlying76
  a25 := Tryd.isAgg76
  z25 := Tryd.sizeOf76
  v25 := Tryd.zeroValue76
  t39 := Tryd.underlying77
  a39 := Tryd.isAgg77
  z39 := Tryd.sizeOf77
  v39 := Tryd.zeroValue77
  t45 := Tryd.underlying95
  a45 := Tryd.isAgg95
  z45 := Tryd.sizeOf95
  v45 := Tryd.zeroValue95
  t46 := Tryd.underlying96
  a46 := Tryd.isAgg96
  z46 := Tryd.sizeOf96
  v46 := Tryd.zeroValue96
  t50 := Tryd.underlying74
  a50 := Tryd.isAgg74
  z50 := Tryd.sizeOf74
  v50 := Tryd.zeroValue74
  t53 := Tryd.underlying102
  a53 := Tryd.isAgg102
  z53 := Tryd.sizeOf102
  v53 := Tryd.zeroValue102
  t55 := Tryd.underlying92
  a55 := Tryd.isAgg92
  z55 := Tryd.sizeOf92
  v55 := Tryd.zeroValue92
  t66 := Tryd.underlying114
  a66 := Tryd.isAgg114
  z66 := Tryd.sizeOf114
  v66 := Tryd.zeroValue114
  t70 := Tryd.underlying118
  a70 := Tryd.isAgg118
  z70 := Tryd.sizeOf118
  v70 := Tryd.zeroValue118
  t76 := Tryd.underlying126
  a76 := Tryd.isAgg126
  z76 := Tryd.sizeOf126
  v76 := Tryd.zeroValue126
  t77 := Tryd.underlying127
  a77 := Tryd.isAgg127
  z77 := Tryd.sizeOf127
  v77 := Tryd.zeroValue127 }
open Go.RowKit Go.Lib Go.Sort in
/-- **slices.SortFunc AT NO ELEMENT, A nil SLICE TOO: nothing turns.** (LAID AT THE INSTANCE 'slices.SortFunc[[][]int,[]int]': no walk: one application.) -/
theorem Tryd.slices_SortFunc_none {α : Type} [Inhabited α] (p : Option Addr) (cap : Nat) (fv : Value) (w : World) :
    Calls Tryd.prog 46 #[.slice p 0 cap, fv] w fun e w' => e = .returned (.tuple #[]) ∧ w' = w := AnyF.slices_SortFunc_none Tryd.laysSlF06_f46 p cap fv w
end Go.Proofs
end
section
namespace Ab
open Go Go.Proofs
theorem sort_facts : fnFacts Tryd.prog 50 := ⟨_, Tryd.func50, rfl, rfl⟩
theorem compact_facts : fnFacts Tryd.prog 51 := ⟨_, Tryd.func51, rfl, rfl⟩
theorem sortL_ok : SortOk Tryd.prog 50 := fun hσ hl => sort_fn sort_facts (fun blk off cap zs w hH hb hs => Tryd.slices_Sort_int blk off cap zs w hH hb hs) (fun p cap w => Tryd.slices_Sort_int_none p cap w) hσ hl
theorem compactL_ok : CompactOk Tryd.prog 51 := fun hσ => compact_fn compact_facts (fun blk off cap zs w hH hs hc => Tryd.slices_Compact_int blk off cap zs w hH hs hc) (fun a cap w => Tryd.slices_Compact_int_empty a cap w) hσ
end Ab
end
section
namespace Ab
open Go Go.Proofs
theorem sortF_facts : fnFacts Tryd.prog 46 := ⟨_, Tryd.func46, rfl, rfl⟩
theorem sortF_LLi64_ok : SortFOk Tryd.prog 46 := fun hgn hO hT hg _ _ _ hσ hl => sortF_fn sortF_facts hgn hO hT hg (fun β _ enc h1 cf hO g cb blk off cap d w eg hcmp hH hblk hsz => Tryd.slices_SortFunc enc h1 cf hO g cb blk off cap d w eg hcmp hH hblk hsz) (fun p cap fv w => Tryd.slices_SortFunc_none (α := Unit) p cap fv w) hσ hl
end Ab
end
section
namespace Ab
open Go Go.Proofs
set_option maxHeartbeats 4000000
set_option linter.all false
attribute [local irreducible] AWP AOps thn inB Done PureOk FreshOk Sub
theorem strips_IsSet_ok {l : List Int} {nv : Int} {r : Bool} (h : strips_IsSet l nv = some r) : PureOk Tryd.prog 25 [.c (row 1 intI l), .c (int nv)] (.c (bool r)) := by
 unfold PureOk
 refine FnOk.enter (rs := [.t 4]) Tryd.func25 rfl Tryd.ntmps25 Tryd.results25 rfl ⟨trivial, trivial⟩ (by kernel_rfl) rfl ?_
 unfold strips_IsSet at h
 refine AWP.seq (.region (.assign rfl rfl (.nil (thn_normal (.seq (.seq (.region (.move rfl rfl (S.len rfl rfl (fun hl8 => .move rfl rfl (.nil (thn_normal (.block ?_)))))))))))))
 obtain ⟨oo, ho1, h⟩ := bind_some h
 refine AWP.rngS ho1 (fun t3 _ => ⟨[(0, .c (row 1 intI l)), (1, .c (int nv)), (7, .c (row 1 intI l)), (8, .c (int (l.length : Int))), (9, .c (int t3))], []⟩) (fun o e st => match o with | .inl _ => e = .exit 0 ∧ Sub [] st ⟨[], []⟩ | .inr x => e = .ret ∧ Done [.t 4] (fun t _ => t = .c (bool x)) .ret st) ?_ ?_ ?_ ?_
 ·try dsimp only
  exact Sub.env ⟨rfl, rfl, rfl, rfl, rfl, trivial⟩
 ·intro t3 s hlot3 hltt3 _
  try dsimp only
  refine AWP.seq (.region (.lss rfl rfl rfl (.nil (thn_normal (.seq (.condNP rfl hltt3 (.exit (thn_exit (thn_exit ⟨rfl, ?_⟩)))))))))
  exact Sub.env trivial
 ·intro t3 s o hlot3 hltt3 h
  unfold strips_IsSet_l1 at h
  try dsimp only at h ⊢
  refine AWP.seq (.region (.lss rfl rfl rfl (.nil (thn_normal (.seq (.condP rfl hltt3 (.skip (thn_normal (.seq (.block (.seq ?_)))))))))))
  obtain ⟨a12, ha12, h⟩ := bind_some h
  refine AWP.region (.move rfl rfl (S.idx ha12 rfl rfl rfl rfl (.loadI rfl rfl rfl rfl (.assign rfl rfl (.assign rfl rfl (.nil (thn_normal ?_)))))))
  obtain ⟨t4, hx5, h⟩ := bind_some h
  refine AWP.seqJ (⟨[(0, .c (row 1 intI l)), (1, .c (int nv)), (7, .c (row 1 intI l)), (8, .c (int (l.length : Int))), (9, .c (int t3)), (33, .c (bool t4))], []⟩) ?_ ?_
  ·rcases Bool.eq_false_or_eq_true (decide (a12 < 0)) with hb6 | hb6
   ·replace hx5 := iteDT hb6 hx5
    refine AWP.region (.move rfl rfl (.lss rfl rfl rfl (.move rfl rfl (.guardF rfl rfl rfl hb6 (.guardF rfl rfl rfl hb6 (.guardF rfl rfl rfl hb6 (.pickT rfl hb6 rfl rfl (.move rfl rfl (.guardF rfl rfl rfl rfl (.guardF rfl rfl rfl rfl (.guardF rfl rfl rfl rfl (.guardSkip rfl rfl rfl (.guardSkip rfl rfl rfl (.guardSkip rfl rfl rfl (.guardSkip rfl rfl rfl (.guardSkip rfl rfl rfl (.guardSkip rfl rfl rfl (.guardSkip rfl rfl rfl (.guardF rfl rfl rfl rfl (.pickT rfl rfl rfl rfl (.nil ?_)))))))))))))))))))))
    have ej := Option.some.inj hx5
    subst ej
    refine thn_normal (Sub.env ⟨rfl, rfl, rfl, rfl, rfl, rfl, trivial⟩)
   ·replace hx5 := iteDF hb6 hx5
    rcases Bool.eq_false_or_eq_true (decide (nv ≤ a12)) with hb7 | hb7
    ·replace hx5 := iteDT hb7 hx5
     refine AWP.region (.move rfl rfl (.lss rfl rfl rfl (.move rfl rfl (.guardT rfl rfl rfl hb6 (.move rfl rfl (.guardT rfl rfl rfl hb6 (.move rfl rfl (.guardT rfl rfl rfl hb6 (.geq rfl rfl rfl (.pickF rfl hb6 rfl rfl (.move rfl rfl (.guardF rfl rfl rfl hb7 (.guardF rfl rfl rfl hb7 (.guardF rfl rfl rfl hb7 (.guardSkip rfl rfl rfl (.guardSkip rfl rfl rfl (.guardSkip rfl rfl rfl (.guardSkip rfl rfl rfl (.guardSkip rfl rfl rfl (.guardSkip rfl rfl rfl (.guardSkip rfl rfl rfl (.guardF rfl rfl rfl hb7 (.pickT rfl hb7 rfl rfl (.nil ?_))))))))))))))))))))))))
     have ej := Option.some.inj hx5
     subst ej
     refine thn_normal (Sub.env ⟨rfl, rfl, rfl, rfl, rfl, rfl, trivial⟩)
    ·replace hx5 := iteDF hb7 hx5
     rcases Bool.eq_false_or_eq_true (decide (0 < t3)) with hb8 | hb8
     ·replace hx5 := iteDT hb8 hx5
      obtain ⟨a29, ha29, hx5⟩ := bind_some hx5
      refine AWP.region (.move rfl rfl (.lss rfl rfl rfl (.move rfl rfl (.guardT rfl rfl rfl hb6 (.move rfl rfl (.guardT rfl rfl rfl hb6 (.move rfl rfl (.guardT rfl rfl rfl hb6 (.geq rfl rfl rfl (.pickF rfl hb6 rfl rfl (.move rfl rfl (.guardT rfl rfl rfl hb7 (.move rfl rfl (.guardT rfl rfl rfl hb7 (.gtr rfl rfl rfl (.guardT rfl rfl rfl hb7 (.move rfl rfl (.guardT rfl rfl rfl hb8 (.move rfl rfl (.guardT rfl rfl rfl hb8 (.move rfl rfl (.guardT rfl rfl rfl hb8 (.move rfl rfl (.guardT rfl rfl rfl hb8 (.sub' rfl rfl rfl (by omega) (.guardT rfl rfl rfl hb8 (S.idx ha29 rfl rfl rfl rfl (.guardT rfl rfl rfl hb8 (.loadI rfl rfl rfl rfl (.guardT rfl rfl rfl hb8 (.leq rfl rfl rfl (.guardT rfl rfl rfl hb7 (.pickT rfl hb8 rfl rfl (.pickF rfl hb7 rfl rfl (.nil ?_)))))))))))))))))))))))))))))))))))
      have ej := Option.some.inj hx5
      subst ej
      refine thn_normal (Sub.env ⟨rfl, rfl, rfl, rfl, rfl, rfl, trivial⟩)
     ·replace hx5 := iteDF hb8 hx5
      refine AWP.region (.move rfl rfl (.lss rfl rfl rfl (.move rfl rfl (.guardT rfl rfl rfl hb6 (.move rfl rfl (.guardT rfl rfl rfl hb6 (.move rfl rfl (.guardT rfl rfl rfl hb6 (.geq rfl rfl rfl (.pickF rfl hb6 rfl rfl (.move rfl rfl (.guardT rfl rfl rfl hb7 (.move rfl rfl (.guardT rfl rfl rfl hb7 (.gtr rfl rfl rfl (.guardT rfl rfl rfl hb7 (.move rfl rfl (.guardF rfl rfl rfl hb8 (.guardF rfl rfl rfl hb8 (.guardF rfl rfl rfl hb8 (.guardF rfl rfl rfl hb8 (.guardF rfl rfl rfl hb8 (.guardF rfl rfl rfl hb8 (.guardF rfl rfl rfl hb8 (.guardT rfl rfl rfl hb7 (.pickF rfl hb8 rfl rfl (.pickF rfl hb7 rfl rfl (.nil ?_))))))))))))))))))))))))))))
      have ej := Option.some.inj hx5
      subst ej
      refine thn_normal (Sub.env ⟨rfl, rfl, rfl, rfl, rfl, rfl, trivial⟩)
  ·refine AWP.iteB rfl h (fun hc9 h => ?_) (fun hc9 h => ?_)
   ·refine AWP.seq (.region (.assign rfl rfl (.nil (thn_normal (.ret (inB_ret (thn_ret ?_)))))))
    have ej := Option.some.inj h
    subst ej
    refine thn_ret ⟨_, rfl, rfl, ?_⟩
    exact Done.ret rfl rfl
   ·refine AWP.skip (inB_normal (thn_normal (.region (.add rfl rfl rfl (by omega) (.move rfl rfl (.nil ?_))))))
    have ej := Option.some.inj h
    subst ej
    refine thn_normal ⟨_, rfl, ?_⟩
    exact Sub.env ⟨rfl, rfl, rfl, rfl, rfl, trivial⟩
 ·intro e s hq
  rcases oo with u | x
  ·try dsimp only at h hq
   obtain ⟨rfl, hs⟩ := hq
   refine ⟨_, hs, ?_⟩
   refine inB_exit (thn_normal (.seq (.region (.assign rfl rfl (.nil (thn_normal (.ret ?_)))))))
   have ej := Option.some.inj h
   subst ej
   exact Done.ret rfl rfl
  ·try dsimp only at h hq
   obtain ⟨rfl, hs⟩ := hq
   refine ⟨_, Sub.refl _ _, ?_⟩
   refine inB_ret (thn_ret ?_)
   have ej := Option.some.inj h
   subst ej
   exact hs
theorem cmp_isNaN_int_ok {xv : Int} {r : Bool} (h : cmp_isNaN_int xv = some r) : PureOk Tryd.prog 61 [.c (int xv)] (.c (bool r)) := by
 unfold PureOk
 refine FnOk.enter (rs := [.t 2]) Tryd.func61 rfl Tryd.ntmps61 Tryd.results61 rfl ⟨trivial, trivial⟩ (by kernel_rfl) rfl ?_
 unfold cmp_isNaN_int at h
 refine AWP.seq (.region (.assign rfl rfl (.nil (thn_normal (.seq (.region (.move rfl rfl (.move rfl rfl (.neq rfl rfl rfl (.assign rfl rfl (.nil (thn_normal (.ret ?_)))))))))))))
 have ej := Option.some.inj h
 subst ej
 exact Done.ret rfl rfl
theorem cmp_Less_int_ok {xv : Int} {yv : Int} {r : Bool} (h : cmp_Less_int xv yv = some r) : PureOk Tryd.prog 58 [.c (int xv), .c (int yv)] (.c (bool r)) := by
 unfold PureOk
 refine FnOk.enter (rs := [.t 4]) Tryd.func58 rfl Tryd.ntmps58 Tryd.results58 rfl ⟨trivial, trivial⟩ (by kernel_rfl) rfl ?_
 unfold cmp_Less_int at h
 refine AWP.seq (.region (.assign rfl rfl (.nil (thn_normal ?_))))
 obtain ⟨t3, hx4, h⟩ := bind_some h
 refine AWP.seqJ (⟨[(4, .c (bool t3))], []⟩) ?_ ?_
 ·obtain ⟨a6, ha6, hx4⟩ := bind_some hx4
  rcases Bool.eq_false_or_eq_true (a6) with hb5 | hb5
  ·replace hx4 := iteBT hb5 hx4
   obtain ⟨a9, ha9, hx4⟩ := bind_some hx4
   rcases Bool.eq_false_or_eq_true (!a9) with hb6 | hb6
   ·replace hx4 := iteBT hb6 hx4
    refine AWP.region (.move rfl rfl (.callR rfl rfl rfl rfl (cmp_isNaN_int_ok ha6) rfl (.move rfl rfl (.guardT rfl rfl rfl hb5 (.move rfl rfl (.guardT rfl rfl rfl hb5 (.callR rfl rfl rfl rfl (cmp_isNaN_int_ok ha9) rfl (.guardT rfl rfl rfl hb5 (.not rfl rfl (.pickT rfl hb5 rfl rfl (.move rfl rfl (.guardF rfl rfl rfl hb6 (.guardF rfl rfl rfl hb6 (.guardF rfl rfl rfl hb6 (.pickT rfl hb6 rfl rfl (.assign rfl rfl (.nil ?_)))))))))))))))))
    have ej := Option.some.inj hx4
    subst ej
    refine thn_normal (Sub.env ⟨rfl, trivial⟩)
   ·replace hx4 := iteBF hb6 hx4
    refine AWP.region (.move rfl rfl (.callR rfl rfl rfl rfl (cmp_isNaN_int_ok ha6) rfl (.move rfl rfl (.guardT rfl rfl rfl hb5 (.move rfl rfl (.guardT rfl rfl rfl hb5 (.callR rfl rfl rfl rfl (cmp_isNaN_int_ok ha9) rfl (.guardT rfl rfl rfl hb5 (.not rfl rfl (.pickT rfl hb5 rfl rfl (.move rfl rfl (.guardT rfl rfl rfl hb6 (.move rfl rfl (.guardT rfl rfl rfl hb6 (.move rfl rfl (.guardT rfl rfl rfl hb6 (.lss rfl rfl rfl (.pickF rfl hb6 rfl rfl (.assign rfl rfl (.nil ?_))))))))))))))))))))
    have ej := Option.some.inj hx4
    subst ej
    refine thn_normal (Sub.env ⟨rfl, trivial⟩)
  ·replace hx4 := iteBF hb5 hx4
   refine AWP.region (.move rfl rfl (.callR rfl rfl rfl rfl (cmp_isNaN_int_ok ha6) rfl (.move rfl rfl (.guardF rfl rfl rfl hb5 (.guardF rfl rfl rfl hb5 (.guardF rfl rfl rfl hb5 (.pickF rfl hb5 rfl rfl (.move rfl rfl (.guardT rfl rfl rfl rfl (.move rfl rfl (.guardT rfl rfl rfl rfl (.move rfl rfl (.guardT rfl rfl rfl rfl (.lss rfl rfl rfl (.pickF rfl rfl rfl rfl (.assign rfl rfl (.nil ?_)))))))))))))))))
   have ej := Option.some.inj hx4
   subst ej
   refine thn_normal (Sub.env ⟨rfl, trivial⟩)
 ·refine AWP.ret ?_
  have ej := Option.some.inj h
  subst ej
  exact Done.ret rfl rfl
theorem slices_isNaN_int_ok {xv : Int} {r : Bool} (h : slices_isNaN_int xv = some r) : PureOk Tryd.prog 59 [.c (int xv)] (.c (bool r)) := by
 unfold PureOk
 refine FnOk.enter (rs := [.t 2]) Tryd.func59 rfl Tryd.ntmps59 Tryd.results59 rfl ⟨trivial, trivial⟩ (by kernel_rfl) rfl ?_
 unfold slices_isNaN_int at h
 refine AWP.seq (.region (.assign rfl rfl (.nil (thn_normal (.seq (.region (.move rfl rfl (.move rfl rfl (.neq rfl rfl rfl (.assign rfl rfl (.nil (thn_normal (.ret ?_)))))))))))))
 have ej := Option.some.inj h
 subst ej
 exact Done.ret rfl rfl
theorem slices_BinarySearch_int_int_ok {xv : List Int} {target : Int} {r : Int × Bool} (h : slices_BinarySearch_int_int xv target = some r) : PureOk Tryd.prog 49 [.c (row 1 intI xv), .c (int target)] (.tup [.c (int r.1), .c (bool r.2)]) := by
 unfold PureOk
 refine FnOk.enter (rs := [.t 4, .t 5]) Tryd.func49 rfl Tryd.ntmps49 Tryd.results49 rfl ⟨trivial, trivial, trivial⟩ (by kernel_rfl) rfl ?_
 unfold slices_BinarySearch_int_int at h
 refine AWP.seq (.region (.assign rfl rfl (.assign rfl rfl (.nil (thn_normal (.seq (.region (.move rfl rfl (S.len rfl rfl (fun hl11 => .assign rfl rfl (.nil (thn_normal (.seq (.region (.move rfl rfl (.assign rfl rfl (.assign rfl rfl (.nil (thn_normal (.seq (.block ?_)))))))))))))))))))))
 obtain ⟨iv5, ho1, h⟩ := bind_some h
 refine AWP.loopS ho1 (fun (iv3, j4) => ⟨[(0, .c (row 1 intI xv)), (1, .c (int target)), (6, .c (int (xv.length : Int))), (7, .c (int iv3)), (8, .c (int j4))], []⟩) (fun iv5 e st => e = .exit 0 ∧ Sub [] st ⟨[(0, .c (row 1 intI xv)), (1, .c (int target)), (6, .c (int (xv.length : Int))), (7, .c (int iv5))], []⟩) ?_ ?_ ?_
 ·try dsimp only
  exact Sub.env ⟨rfl, rfl, rfl, rfl, rfl, trivial⟩
 ·intro s o h
  obtain ⟨iv3, j4⟩ := s
  unfold slices_BinarySearch_int_int_l1 at h
  try dsimp only at h ⊢
  refine AWP.seq (.seq (.region (.move rfl rfl (.move rfl rfl (.lss rfl rfl rfl (.nil (thn_normal (.ite rfl h (fun hc6 h => ?_) (fun hc6 h => ?_)))))))))
  ·refine AWP.skip (thn_normal (.block (.seq (.region (.move rfl rfl (.move rfl rfl (S.add rfl rfl rfl (.convInt rfl rfl (.shr rfl rfl rfl (by decide) rfl (.convInt rfl rfl (.assign rfl rfl (.nil (thn_normal (.seq ?_))))))))))))))
   obtain ⟨a24, ha24, h⟩ := bind_some h
   obtain ⟨a27, ha27, h⟩ := bind_some h
   refine AWP.region (.move rfl rfl (.move rfl rfl (S.idx ha24 rfl rfl rfl rfl (.loadI rfl rfl rfl rfl (.move rfl rfl (.callR rfl rfl rfl rfl (cmp_Less_int_ok ha27) rfl (.nil (thn_normal (.iteB rfl h (fun hc7 h => ?_) (fun hc7 h => ?_))))))))))
   ·refine AWP.region (.move rfl rfl (S.add rfl rfl rfl (.assign rfl rfl (.nil (inB_normal ?_)))))
    have ej := Option.some.inj h
    subst ej
    refine thn_normal ⟨_, rfl, ?_⟩
    exact Sub.env ⟨rfl, rfl, rfl, rfl, rfl, trivial⟩
   ·refine AWP.region (.move rfl rfl (.assign rfl rfl (.nil (inB_normal ?_))))
    have ej := Option.some.inj h
    subst ej
    refine thn_normal ⟨_, rfl, ?_⟩
    exact Sub.env ⟨rfl, rfl, rfl, rfl, rfl, trivial⟩
  ·refine AWP.exit (thn_exit ?_)
   have ej := Option.some.inj h
   subst ej
   refine thn_exit ⟨_, rfl, rfl, ?_⟩
   exact Sub.env ⟨rfl, rfl, rfl, rfl, trivial⟩
 ·intro e s hq
  obtain ⟨rfl, hs⟩ := hq
  refine ⟨_, hs, ?_⟩
  refine inB_exit (thn_normal ?_)
  obtain ⟨t8, hx9, h⟩ := bind_some h
  refine AWP.seqJ (⟨[(4, .c (int iv5)), (5, .c (bool t8))], []⟩) ?_ ?_
  ·rcases Bool.eq_false_or_eq_true (decide (iv5 < (xv.length : Int))) with hb10 | hb10
   ·replace hx9 := iteDT hb10 hx9
    obtain ⟨a38, ha38, hx9⟩ := bind_some hx9
    rcases Bool.eq_false_or_eq_true (decide (a38 = target)) with hb11 | hb11
    ·replace hx9 := iteDT hb11 hx9
     refine AWP.region (.move rfl rfl (.move rfl rfl (.move rfl rfl (.lss rfl rfl rfl (.move rfl rfl (.guardT rfl rfl rfl hb10 (.move rfl rfl (.guardT rfl rfl rfl hb10 (.move rfl rfl (.guardT rfl rfl rfl hb10 (S.idx ha38 rfl rfl rfl rfl (.guardT rfl rfl rfl hb10 (.loadI rfl rfl rfl rfl (.guardT rfl rfl rfl hb10 (.move rfl rfl (.guardT rfl rfl rfl hb10 (.eql rfl rfl rfl (.guardT rfl rfl rfl hb10 (.move rfl rfl (.guardF rfl rfl rfl hb11 (.guardF rfl rfl rfl hb11 (.guardF rfl rfl rfl hb11 (.guardF rfl rfl rfl hb11 (.guardF rfl rfl rfl hb11 (.guardF rfl rfl rfl hb11 (.guardSkip rfl rfl rfl (.guardSkip rfl rfl rfl (.guardF rfl rfl rfl hb11 (.guardT rfl rfl rfl hb10 (.pickT rfl hb11 rfl rfl (.pickT rfl hb10 rfl rfl (.assign rfl rfl (.assign rfl rfl (.nil ?_))))))))))))))))))))))))))))))))))
     have ej := Option.some.inj hx9
     subst ej
     refine thn_normal (Sub.env ⟨rfl, rfl, trivial⟩)
    ·replace hx9 := iteDF hb11 hx9
     obtain ⟨a45, ha45, hx9⟩ := bind_some hx9
     obtain ⟨a47, ha47, hx9⟩ := bind_some hx9
     rcases Bool.eq_false_or_eq_true (a47) with hb12 | hb12
     ·replace hx9 := iteBT hb12 hx9
      obtain ⟨a50, ha50, hx9⟩ := bind_some hx9
      refine AWP.region (.move rfl rfl (.move rfl rfl (.move rfl rfl (.lss rfl rfl rfl (.move rfl rfl (.guardT rfl rfl rfl hb10 (.move rfl rfl (.guardT rfl rfl rfl hb10 (.move rfl rfl (.guardT rfl rfl rfl hb10 (S.idx ha38 rfl rfl rfl rfl (.guardT rfl rfl rfl hb10 (.loadI rfl rfl rfl rfl (.guardT rfl rfl rfl hb10 (.move rfl rfl (.guardT rfl rfl rfl hb10 (.eql rfl rfl rfl (.guardT rfl rfl rfl hb10 (.move rfl rfl (.guardT rfl rfl rfl hb11 (.move rfl rfl (.guardT rfl rfl rfl hb11 (.move rfl rfl (.guardT rfl rfl rfl hb11 (S.idx ha45 rfl rfl rfl rfl (.guardT rfl rfl rfl hb11 (.loadI rfl rfl rfl rfl (.guardT rfl rfl rfl hb11 (.callR rfl rfl rfl rfl (slices_isNaN_int_ok ha47) rfl (.guardT rfl rfl rfl hb11 (.move rfl rfl (.guardT rfl rfl rfl hb12 (.move rfl rfl (.guardT rfl rfl rfl hb12 (.callR rfl rfl rfl rfl (slices_isNaN_int_ok ha50) rfl (.guardT rfl rfl rfl hb11 (.pickT rfl hb12 rfl rfl (.guardT rfl rfl rfl hb10 (.pickF rfl hb11 rfl rfl (.pickT rfl hb10 rfl rfl (.assign rfl rfl (.assign rfl rfl (.nil ?_)))))))))))))))))))))))))))))))))))))))))))
      have ej := Option.some.inj hx9
      subst ej
      refine thn_normal (Sub.env ⟨rfl, rfl, trivial⟩)
     ·replace hx9 := iteBF hb12 hx9
      refine AWP.region (.move rfl rfl (.move rfl rfl (.move rfl rfl (.lss rfl rfl rfl (.move rfl rfl (.guardT rfl rfl rfl hb10 (.move rfl rfl (.guardT rfl rfl rfl hb10 (.move rfl rfl (.guardT rfl rfl rfl hb10 (S.idx ha38 rfl rfl rfl rfl (.guardT rfl rfl rfl hb10 (.loadI rfl rfl rfl rfl (.guardT rfl rfl rfl hb10 (.move rfl rfl (.guardT rfl rfl rfl hb10 (.eql rfl rfl rfl (.guardT rfl rfl rfl hb10 (.move rfl rfl (.guardT rfl rfl rfl hb11 (.move rfl rfl (.guardT rfl rfl rfl hb11 (.move rfl rfl (.guardT rfl rfl rfl hb11 (S.idx ha45 rfl rfl rfl rfl (.guardT rfl rfl rfl hb11 (.loadI rfl rfl rfl rfl (.guardT rfl rfl rfl hb11 (.callR rfl rfl rfl rfl (slices_isNaN_int_ok ha47) rfl (.guardT rfl rfl rfl hb11 (.move rfl rfl (.guardF rfl rfl rfl hb12 (.guardF rfl rfl rfl hb12 (.guardT rfl rfl rfl hb11 (.pickF rfl hb12 rfl rfl (.guardT rfl rfl rfl hb10 (.pickF rfl hb11 rfl rfl (.pickT rfl hb10 rfl rfl (.assign rfl rfl (.assign rfl rfl (.nil ?_)))))))))))))))))))))))))))))))))))))))))
      have ej := Option.some.inj hx9
      subst ej
      refine thn_normal (Sub.env ⟨rfl, rfl, trivial⟩)
   ·replace hx9 := iteDF hb10 hx9
    refine AWP.region (.move rfl rfl (.move rfl rfl (.move rfl rfl (.lss rfl rfl rfl (.move rfl rfl (.guardF rfl rfl rfl hb10 (.guardF rfl rfl rfl hb10 (.guardF rfl rfl rfl hb10 (.guardF rfl rfl rfl hb10 (.guardF rfl rfl rfl hb10 (.guardF rfl rfl rfl hb10 (.guardF rfl rfl rfl hb10 (.guardSkip rfl rfl rfl (.guardSkip rfl rfl rfl (.guardSkip rfl rfl rfl (.guardSkip rfl rfl rfl (.guardSkip rfl rfl rfl (.guardSkip rfl rfl rfl (.guardSkip rfl rfl rfl (.guardSkip rfl rfl rfl (.guardSkip rfl rfl rfl (.guardF rfl rfl rfl hb10 (.pickF rfl hb10 rfl rfl (.assign rfl rfl (.assign rfl rfl (.nil ?_))))))))))))))))))))))))))
    have ej := Option.some.inj hx9
    subst ej
    refine thn_normal (Sub.env ⟨rfl, rfl, trivial⟩)
  ·refine AWP.ret ?_
   have ej := Option.some.inj h
   subst ej
   exact Done.ret rfl rfl
theorem strips_Meets_1_ok {xv : Int} {c2 : List Int} {r : Bool} (h : strips_Meets_1 xv c2 = some r) : PureOk Tryd.prog 54 [.c (int xv), .c (.imm (.ipt [.sl 1 (List.map intI c2)]))] (.c (bool r)) := by
 unfold PureOk
 refine FnOk.enter (rs := [.t 3]) Tryd.func54 rfl Tryd.ntmps54 Tryd.results54 rfl ⟨trivial, trivial⟩ (by kernel_rfl) rfl ?_
 unfold strips_Meets_1 at h
 refine AWP.seq (.region (.assign rfl rfl (.nil (thn_normal (.seq ?_)))))
 obtain ⟨a9, ha9, h⟩ := bind_some h
 refine AWP.region (.loadI rfl rfl rfl rfl (.move rfl rfl (.callR rfl rfl rfl rfl (slices_BinarySearch_int_int_ok ha9) rfl (.move rfl rfl (.extract rfl rfl rfl (.extract rfl rfl rfl (.assign rfl rfl (.assign rfl rfl (.nil (thn_normal (.seq (.region (.move rfl rfl (.assign rfl rfl (.nil (thn_normal (.ret ?_)))))))))))))))))
 have ej := Option.some.inj h
 subst ej
 exact Done.ret rfl rfl
theorem slices_IndexFunc_int_int_ok {sv : List Int} {fv : Int → Option Bool} {r : Int} {fvfv : FuncId} {cvfv : List C} (hcvfv : C.okL 0 cvfv = true) (hfv : ∀ {y1 : Int} {z : Bool}, fv y1 = some z → PureOk Tryd.prog fvfv ([.c (int y1)] ++ cvfv.map T.c) (.c (bool z))) (h : slices_IndexFunc_int_int sv fv = some r) : PureOk Tryd.prog 62 [.c (row 1 intI sv), .c (.fn fvfv cvfv)] (.c (int r)) := by
 unfold PureOk
 refine FnOk.enter (rs := [.t 4]) Tryd.func62 rfl Tryd.ntmps62 Tryd.results62 rfl ⟨trivial, trivial⟩ (by kernel_rfl) rfl ?_
 unfold slices_IndexFunc_int_int at h
 refine AWP.seq (.region (.assign rfl rfl (.nil (thn_normal (.seq (.seq (.region (.move rfl rfl (S.len rfl rfl (fun hl7 => .move rfl rfl (.nil (thn_normal (.block ?_)))))))))))))
 obtain ⟨oo, ho1, h⟩ := bind_some h
 refine AWP.rngS ho1 (fun t3 _ => ⟨[(0, .c (row 1 intI sv)), (1, .c (.fn fvfv cvfv)), (7, .c (int (sv.length : Int))), (8, .c (int t3))], []⟩) (fun o e st => match o with | .inl _ => e = .exit 0 ∧ Sub [] st ⟨[], []⟩ | .inr x => e = .ret ∧ Done [.t 4] (fun t _ => t = .c (int x)) .ret st) ?_ ?_ ?_ ?_
 ·try dsimp only
  exact Sub.env ⟨rfl, rfl, rfl, rfl, trivial⟩
 ·intro t3 s hlot3 hltt3 _
  try dsimp only
  refine AWP.seq (.region (.lss rfl rfl rfl (.nil (thn_normal (.seq (.condNP rfl hltt3 (.exit (thn_exit (thn_exit ⟨rfl, ?_⟩)))))))))
  exact Sub.env trivial
 ·intro t3 s o hlot3 hltt3 h
  unfold slices_IndexFunc_int_int_l1 at h
  try dsimp only at h ⊢
  refine AWP.seq (.region (.lss rfl rfl rfl (.nil (thn_normal (.seq (.condP rfl hltt3 (.skip (thn_normal (.seq (.block (.seq (.region (.move rfl rfl (.assign rfl rfl (.nil (thn_normal (.seq ?_)))))))))))))))))
  obtain ⟨a14, ha14, h⟩ := bind_some h
  obtain ⟨a16, ha16, h⟩ := bind_some h
  refine AWP.region (.move rfl rfl (.move rfl rfl (.move rfl rfl (S.idx ha14 rfl rfl rfl rfl (.loadI rfl rfl rfl rfl (.callR rfl rfl (okL_app rfl hcvfv) rfl (hfv ha16) rfl (.nil (thn_normal (.iteB rfl h (fun hc4 h => ?_) (fun hc4 h => ?_))))))))))
  ·refine AWP.seq (.region (.move rfl rfl (.assign rfl rfl (.nil (thn_normal (.ret (inB_ret (thn_ret ?_))))))))
   have ej := Option.some.inj h
   subst ej
   refine thn_ret ⟨_, rfl, rfl, ?_⟩
   exact Done.ret rfl rfl
  ·refine AWP.skip (inB_normal (thn_normal (.region (.add rfl rfl rfl (by omega) (.move rfl rfl (.nil ?_))))))
   have ej := Option.some.inj h
   subst ej
   refine thn_normal ⟨_, rfl, ?_⟩
   exact Sub.env ⟨rfl, rfl, rfl, rfl, trivial⟩
 ·intro e s hq
  rcases oo with u | x
  ·try dsimp only at h hq
   obtain ⟨rfl, hs⟩ := hq
   refine ⟨_, hs, ?_⟩
   refine inB_exit (thn_normal (.seq (.region (.assign rfl rfl (.nil (thn_normal (.ret ?_)))))))
   have ej := Option.some.inj h
   subst ej
   exact Done.ret rfl rfl
  ·try dsimp only at h hq
   obtain ⟨rfl, hs⟩ := hq
   refine ⟨_, Sub.refl _ _, ?_⟩
   refine inB_ret (thn_ret ?_)
   have ej := Option.some.inj h
   subst ej
   exact hs
theorem slices_ContainsFunc_int_int_ok {sv : List Int} {fv : Int → Option Bool} {r : Bool} {fvfv : FuncId} {cvfv : List C} (hcvfv : C.okL 0 cvfv = true) (hfv : ∀ {y1 : Int} {z : Bool}, fv y1 = some z → PureOk Tryd.prog fvfv ([.c (int y1)] ++ cvfv.map T.c) (.c (bool z))) (h : slices_ContainsFunc_int_int sv fv = some r) : PureOk Tryd.prog 53 [.c (row 1 intI sv), .c (.fn fvfv cvfv)] (.c (bool r)) := by
 unfold PureOk
 refine FnOk.enter (rs := [.t 4]) Tryd.func53 rfl Tryd.ntmps53 Tryd.results53 rfl ⟨trivial, trivial⟩ (by kernel_rfl) rfl ?_
 unfold slices_ContainsFunc_int_int at h
 refine AWP.seq (.region (.assign rfl rfl (.nil (thn_normal (.seq ?_)))))
 obtain ⟨a7, ha7, h⟩ := bind_some h
 refine AWP.region (.move rfl rfl (.move rfl rfl (.callR rfl rfl (by simp [T.okL, T.ok, C.ok, C.okL, hcvfv]) rfl (slices_IndexFunc_int_int_ok hcvfv hfv ha7) rfl (.geq rfl rfl rfl (.assign rfl rfl (.nil (thn_normal (.ret ?_))))))))
 have ej := Option.some.inj h
 subst ej
 exact Done.ret rfl rfl
theorem strips_Meets_ok {av : List Int} {bv : List Int} {r : Bool} (h : strips_Meets av bv = some r) : PureOk Tryd.prog 43 [.c (row 1 intI av), .c (row 1 intI bv)] (.c (bool r)) := by
 unfold PureOk
 refine FnOk.enter (rs := [.t 4]) Tryd.func43 rfl Tryd.ntmps43 Tryd.results43 rfl ⟨trivial, trivial⟩ (by kernel_rfl) rfl ?_
 unfold strips_Meets at h
 refine AWP.seq (.region (W.box rfl rfl rfl rfl rfl rfl (.assign rfl rfl (.nil (thn_normal (.seq ?_))))))
 obtain ⟨a7, ha7, h⟩ := bind_some h
 refine AWP.region (.move rfl rfl (.makeFunc rfl rfl (.callL rfl rfl (.cons (.c .imm) (.cons (.c (.fn (.cons (.ptr (es := [.sl 1 (List.map intI bv)]) rfl rfl (.cons .imm .nil)) .nil))) .nil)) rfl (slices_ContainsFunc_int_int_ok rfl (fun hy => strips_Meets_1_ok hy) ha7) rfl ?_)))
 refine AOps.assign rfl rfl (.nil (thn_normal (.ret ?_)))
 have ej := Option.some.inj h
 subst ej
 exact Done.ret rfl rfl
theorem open_operatorCode_ok {ov : TOpenOperator} {facts : Int} {r : Int} (h : open_operatorCode ov facts = some r) : PureOk Tryd.prog 30 [.agg [row 1 intI ov.pre, row 3 eTOutcome ov.outcomes, int ov.cost], .c (int facts)] (.c (int r)) := by
 unfold PureOk
 refine FnOk.enter (rs := [.t 4]) Tryd.func30 rfl Tryd.ntmps30 Tryd.results30 rfl ⟨trivial, trivial⟩ (by kernel_rfl) rfl ?_
 unfold open_operatorCode at h
 refine AWP.seq (.region (W.box rfl rfl rfl rfl rfl rfl (.assign rfl rfl (.nil (thn_normal (.seq (.block (.seq ?_))))))))
 obtain ⟨a11, ha11, h⟩ := bind_some h
 refine AWP.region (W.fieldAddr rfl rfl rfl rfl (.load rfl rfl rfl rfl rfl rfl (.move rfl rfl (.callR rfl rfl rfl rfl (strips_IsSet_ok ha11) rfl (.not rfl rfl (.assign rfl rfl (.nil (thn_normal (.iteB rfl h (fun hc3 h => ?_) (fun hc3 h => ?_))))))))))
 ·refine AWP.seq (.region (.assign rfl rfl (.nil (thn_normal (.ret (inB_ret (thn_ret ?_)))))))
  have ej := Option.some.inj h
  subst ej
  exact Done.ret rfl rfl
 ·refine AWP.seqJ (⟨[(1, .c (int facts)), (2, .c (.ptr 0 0 0)), (13, .c (bool ((decide (ov.cost < 0)) || (decide (100 < ov.cost)))))], [.one (.cells 3 [[row 1 intI ov.pre, row 3 eTOutcome ov.outcomes, int ov.cost]])]⟩) ?_ ?_
  ·rcases Bool.eq_false_or_eq_true (decide (ov.cost < 0)) with hb1 | hb1
   ·refine AWP.region (W.fieldAddr rfl rfl rfl rfl (.load rfl rfl rfl rfl rfl rfl (.lss rfl rfl rfl (.move rfl rfl (.guardF rfl rfl rfl hb1 (.guardF rfl rfl rfl hb1 (.guardF rfl rfl rfl hb1 (.pickT rfl hb1 rfl rfl (.assign rfl rfl (.nil (thn_normal ?_)))))))))))
    simp only [and_t hb1, or_t hb1, Bool.false_or, Bool.true_or, Bool.false_and, Bool.true_and]
    exact Sub.env ⟨rfl, rfl, rfl, trivial⟩
   ·refine AWP.region (W.fieldAddr rfl rfl rfl rfl (.load rfl rfl rfl rfl rfl rfl (.lss rfl rfl rfl (.move rfl rfl (.guardT rfl rfl rfl hb1 (W.fieldAddr rfl rfl rfl rfl (.guardT rfl rfl rfl hb1 (.load rfl rfl rfl rfl rfl rfl (.guardT rfl rfl rfl hb1 (.gtr rfl rfl rfl (.pickF rfl hb1 rfl rfl (.assign rfl rfl (.nil (thn_normal ?_))))))))))))))
    simp only [and_f hb1, or_f hb1, Bool.false_or, Bool.true_or, Bool.false_and, Bool.true_and]
    exact Sub.env ⟨rfl, rfl, rfl, trivial⟩
  ·refine AWP.iteB rfl h (fun hc4 h => ?_) (fun hc4 h => ?_)
   ·refine AWP.seq (.region (.assign rfl rfl (.nil (thn_normal (.ret (inB_ret (thn_ret ?_)))))))
    have ej := Option.some.inj h
    subst ej
    exact Done.ret rfl rfl
   ·refine AWP.seqJ (⟨[(1, .c (int facts)), (2, .c (.ptr 0 0 0)), (22, .c (bool ((decide ((ov.outcomes.length : Int) = 0)) || (decide (4 < (ov.outcomes.length : Int))))))], [.one (.cells 3 [[row 1 intI ov.pre, row 3 eTOutcome ov.outcomes, int ov.cost]])]⟩) ?_ ?_
    ·rcases Bool.eq_false_or_eq_true (decide ((ov.outcomes.length : Int) = 0)) with hb1 | hb1
     ·refine AWP.region (W.fieldAddr rfl rfl rfl rfl (.load rfl rfl rfl rfl rfl rfl (S.len rfl rfl (fun hl25 => .eql rfl rfl rfl (.move rfl rfl (.guardF rfl rfl rfl hb1 (.guardF rfl rfl rfl hb1 (.guardF rfl rfl rfl hb1 (.guardF rfl rfl rfl hb1 (.pickT rfl hb1 rfl rfl (.assign rfl rfl (.nil (thn_normal ?_)))))))))))))
      simp only [and_t hb1, or_t hb1, Bool.false_or, Bool.true_or, Bool.false_and, Bool.true_and]
      exact Sub.env ⟨rfl, rfl, rfl, trivial⟩
     ·refine AWP.region (W.fieldAddr rfl rfl rfl rfl (.load rfl rfl rfl rfl rfl rfl (S.len rfl rfl (fun hl25 => .eql rfl rfl rfl (.move rfl rfl (.guardT rfl rfl rfl hb1 (W.fieldAddr rfl rfl rfl rfl (.guardT rfl rfl rfl hb1 (.load rfl rfl rfl rfl rfl rfl ?_)))))))))
      refine AOps.guardT rfl rfl rfl hb1 ?_; refine S.len rfl rfl (fun hl30 => ?_)
      refine AOps.guardT rfl rfl rfl hb1 (.gtr rfl rfl rfl (.pickF rfl hb1 rfl rfl (.assign rfl rfl (.nil (thn_normal ?_)))))
      simp only [and_f hb1, or_f hb1, Bool.false_or, Bool.true_or, Bool.false_and, Bool.true_and]
      exact Sub.env ⟨rfl, rfl, rfl, trivial⟩
    ·refine AWP.iteB rfl h (fun hc5 h => ?_) (fun hc5 h => ?_)
     ·refine AWP.seq (.region (.assign rfl rfl (.nil (thn_normal (.ret (inB_ret (thn_ret ?_)))))))
      have ej := Option.some.inj h
      subst ej
      exact Done.ret rfl rfl
     ·refine AWP.skip (inB_normal (thn_normal (.seq (.seq (.region (W.fieldAddr rfl rfl rfl rfl (.load rfl rfl rfl rfl rfl rfl (S.len rfl rfl (fun hl35 => .move rfl rfl (.nil (thn_normal (.block ?_))))))))))))
      obtain ⟨oo, ho1, h⟩ := bind_some h
      refine AWP.rngS ho1 (fun t6 _ => ⟨[(1, .c (int facts)), (34, .c (row 3 eTOutcome ov.outcomes)), (35, .c (int (ov.outcomes.length : Int))), (36, .c (int t6))], []⟩) (fun o e st => match o with | .inl _ => e = .exit 1 ∧ Sub [] st ⟨[], []⟩ | .inr x => e = .ret ∧ Done [.t 4] (fun t _ => t = .c (int x)) .ret st) ?_ ?_ ?_ ?_
      ·try dsimp only
       exact Sub.cut ⟨rfl, rfl, rfl, rfl, trivial⟩ rfl trivial rfl
      ·intro t6 s hlot6 hltt6 _
       try dsimp only
       refine AWP.seq (.region (.lss rfl rfl rfl (.nil (thn_normal (.seq (.condNP rfl hltt6 (.exit (thn_exit (thn_exit ⟨rfl, ?_⟩)))))))))
       exact Sub.env trivial
      ·intro t6 s o hlot6 hltt6 h
       unfold open_operatorCode_l1 at h
       try dsimp only at h ⊢
       refine AWP.seq (.region (.lss rfl rfl rfl (.nil (thn_normal (.seq (.condP rfl hltt6 (.skip (thn_normal (.seq (.block (.seq ?_)))))))))))
       obtain ⟨a38, ha38, h⟩ := bind_some h
       refine AWP.region (S.idx ha38 rfl rfl rfl rfl (W.loadIAgg rfl rfl rfl rfl rfl (W.alloc rfl rfl rfl rfl (W.storeAgg rfl rfl rfl rfl rfl rfl rfl (.nil (thn_normal (.block ?_)))))))
       obtain ⟨t7, hx8, h⟩ := bind_some h
       refine AWP.seqJ (⟨[(1, .c (int facts)), (6, .c (.ptr 0 0 0)), (34, .c (row 3 eTOutcome ov.outcomes)), (35, .c (int (ov.outcomes.length : Int))), (36, .c (int t6)), (40, .c (bool t7))], [.one (.cells 3 [[row 1 intI a38.add, row 1 intI a38.del, int a38.weight]])]⟩) ?_ ?_
       ·obtain ⟨a44, ha44, hx8⟩ := bind_some hx8
        rcases Bool.eq_false_or_eq_true (!a44) with hb9 | hb9
        ·replace hx8 := iteBT hb9 hx8
         refine AWP.region (W.fieldAddr rfl rfl rfl rfl (.load rfl rfl rfl rfl rfl rfl (.move rfl rfl (.callR rfl rfl rfl rfl (strips_IsSet_ok ha44) rfl (.not rfl rfl (.move rfl rfl (.guardF rfl rfl rfl hb9 (.guardF rfl rfl rfl hb9 (.guardF rfl rfl rfl hb9 (.guardF rfl rfl rfl hb9 (.guardF rfl rfl rfl hb9 (.pickT rfl hb9 rfl rfl (.move rfl rfl (.guardF rfl rfl rfl rfl (.guardF rfl rfl rfl rfl (.guardF rfl rfl rfl rfl (.guardF rfl rfl rfl rfl (.guardF rfl rfl rfl rfl (.pickT rfl rfl rfl rfl (.assign rfl rfl (.nil ?_)))))))))))))))))))))
         have ej := Option.some.inj hx8
         subst ej
         refine thn_normal (Sub.env ⟨rfl, rfl, rfl, rfl, rfl, rfl, trivial⟩)
        ·replace hx8 := iteBF hb9 hx8
         obtain ⟨a50, ha50, hx8⟩ := bind_some hx8
         rcases Bool.eq_false_or_eq_true (!a50) with hb10 | hb10
         ·replace hx8 := iteBT hb10 hx8
          refine AWP.region (W.fieldAddr rfl rfl rfl rfl (.load rfl rfl rfl rfl rfl rfl (.move rfl rfl (.callR rfl rfl rfl rfl (strips_IsSet_ok ha44) rfl (.not rfl rfl (.move rfl rfl (.guardT rfl rfl rfl hb9 (W.fieldAddr rfl rfl rfl rfl (.guardT rfl rfl rfl hb9 (.load rfl rfl rfl rfl rfl rfl (.guardT rfl rfl rfl hb9 (.move rfl rfl (.guardT rfl rfl rfl hb9 (.callR rfl rfl rfl rfl (strips_IsSet_ok ha50) rfl (.guardT rfl rfl rfl hb9 (.not rfl rfl (.pickF rfl hb9 rfl rfl (.move rfl rfl (.guardF rfl rfl rfl hb10 (.guardF rfl rfl rfl hb10 (.guardF rfl rfl rfl hb10 (.guardF rfl rfl rfl hb10 (.guardF rfl rfl rfl hb10 (.pickT rfl hb10 rfl rfl (.assign rfl rfl (.nil ?_))))))))))))))))))))))))))
          have ej := Option.some.inj hx8
          subst ej
          refine thn_normal (Sub.env ⟨rfl, rfl, rfl, rfl, rfl, rfl, trivial⟩)
         ·replace hx8 := iteBF hb10 hx8
          obtain ⟨a58, ha58, hx8⟩ := bind_some hx8
          refine AWP.region (W.fieldAddr rfl rfl rfl rfl (.load rfl rfl rfl rfl rfl rfl (.move rfl rfl (.callR rfl rfl rfl rfl (strips_IsSet_ok ha44) rfl (.not rfl rfl (.move rfl rfl (.guardT rfl rfl rfl hb9 (W.fieldAddr rfl rfl rfl rfl (.guardT rfl rfl rfl hb9 (.load rfl rfl rfl rfl rfl rfl (.guardT rfl rfl rfl hb9 (.move rfl rfl (.guardT rfl rfl rfl hb9 (.callR rfl rfl rfl rfl (strips_IsSet_ok ha50) rfl (.guardT rfl rfl rfl hb9 (.not rfl rfl (.pickF rfl hb9 rfl rfl (.move rfl rfl (.guardT rfl rfl rfl hb10 (W.fieldAddr rfl rfl rfl rfl (.guardT rfl rfl rfl hb10 (.load rfl rfl rfl rfl rfl rfl (.guardT rfl rfl rfl hb10 (W.fieldAddr rfl rfl rfl rfl (.guardT rfl rfl rfl hb10 (.load rfl rfl rfl rfl rfl rfl (.guardT rfl rfl rfl hb10 (.callR rfl rfl rfl rfl (strips_Meets_ok ha58) rfl (.pickF rfl hb10 rfl rfl (.assign rfl rfl (.nil ?_)))))))))))))))))))))))))))))))
          have ej := Option.some.inj hx8
          subst ej
          refine thn_normal (Sub.env ⟨rfl, rfl, rfl, rfl, rfl, rfl, trivial⟩)
       ·refine AWP.iteB rfl h (fun hc11 h => ?_) (fun hc11 h => ?_)
        ·refine AWP.seq (.region (.assign rfl rfl (.nil (thn_normal (.ret (inB_ret (inB_ret (thn_ret ?_))))))))
         have ej := Option.some.inj h
         subst ej
         refine thn_ret ⟨_, rfl, rfl, ?_⟩
         exact Done.ret rfl rfl
        ·refine AWP.seqJ (⟨[(1, .c (int facts)), (34, .c (row 3 eTOutcome ov.outcomes)), (35, .c (int (ov.outcomes.length : Int))), (36, .c (int t6)), (60, .c (bool ((decide (a38.weight < 1)) || (decide (6 < a38.weight)))))], [.one (.cells 3 [[row 1 intI a38.add, row 1 intI a38.del, int a38.weight]])]⟩) ?_ ?_
         ·rcases Bool.eq_false_or_eq_true (decide (a38.weight < 1)) with hb1 | hb1
          ·refine AWP.region (W.fieldAddr rfl rfl rfl rfl (.load rfl rfl rfl rfl rfl rfl (.lss rfl rfl rfl (.move rfl rfl (.guardF rfl rfl rfl hb1 (.guardF rfl rfl rfl hb1 (.guardF rfl rfl rfl hb1 (.pickT rfl hb1 rfl rfl (.assign rfl rfl (.nil (thn_normal ?_)))))))))))
           simp only [and_t hb1, or_t hb1, Bool.false_or, Bool.true_or, Bool.false_and, Bool.true_and]
           exact Sub.env ⟨rfl, rfl, rfl, rfl, rfl, trivial⟩
          ·refine AWP.region (W.fieldAddr rfl rfl rfl rfl (.load rfl rfl rfl rfl rfl rfl (.lss rfl rfl rfl (.move rfl rfl (.guardT rfl rfl rfl hb1 (W.fieldAddr rfl rfl rfl rfl (.guardT rfl rfl rfl hb1 (.load rfl rfl rfl rfl rfl rfl (.guardT rfl rfl rfl hb1 (.gtr rfl rfl rfl (.pickF rfl hb1 rfl rfl (.assign rfl rfl (.nil (thn_normal ?_))))))))))))))
           simp only [and_f hb1, or_f hb1, Bool.false_or, Bool.true_or, Bool.false_and, Bool.true_and]
           exact Sub.env ⟨rfl, rfl, rfl, rfl, rfl, trivial⟩
         ·refine AWP.iteB rfl h (fun hc12 h => ?_) (fun hc12 h => ?_)
          ·refine AWP.seq (.region (.assign rfl rfl (.nil (thn_normal (.ret (inB_ret (inB_ret (thn_ret ?_))))))))
           have ej := Option.some.inj h
           subst ej
           refine thn_ret ⟨_, rfl, rfl, ?_⟩
           exact Done.ret rfl rfl
          ·refine AWP.skip (inB_normal (inB_normal (thn_normal (.region (.add rfl rfl rfl (by omega) (.move rfl rfl (.nil ?_)))))))
           have ej := Option.some.inj h
           subst ej
           refine thn_normal ⟨_, rfl, ?_⟩
           exact Sub.cut ⟨rfl, rfl, rfl, rfl, trivial⟩ rfl trivial rfl
      ·intro e s hq
       rcases oo with u | x
       ·try dsimp only at h hq
        obtain ⟨rfl, hs⟩ := hq
        refine ⟨_, hs, ?_⟩
        refine inB_exit (thn_normal (.seq (.region (.assign rfl rfl (.nil (thn_normal (.ret ?_)))))))
        have ej := Option.some.inj h
        subst ej
        exact Done.ret rfl rfl
       ·try dsimp only at h hq
        obtain ⟨rfl, hs⟩ := hq
        refine ⟨_, Sub.refl _ _, ?_⟩
        refine inB_ret (thn_ret ?_)
        have ej := Option.some.inj h
        subst ej
        exact hs
theorem open_Validate_ok {ov : TOpenTask} {r : TFault} (h : open_Validate ov = some r) : PureOk Tryd.prog 12 [.agg [int ov.facts, row 1 intI ov.init, row 1 intI ov.goal, row 3 eTOpenOperator ov.operators]] (.agg [int r.code, int r.index]) := by
 unfold PureOk
 refine FnOk.enter (rs := [.cell 2 28 2]) Tryd.func12 rfl Tryd.ntmps12 Tryd.results12 rfl ⟨rv _ rfl, trivial⟩ (by kernel_rfl) rfl ?_
 unfold open_Validate at h
 refine AWP.seq (.region (W.box rfl rfl rfl rfl rfl rfl (W.alloc rfl rfl rfl rfl (.nil (thn_normal (.seq (.block (.seqJ (⟨[(1, .c (.ptr 0 0 0)), (2, .c (.ptr 1 0 0)), (6, .c (bool ((decide (ov.facts < 0)) || (decide (24 < ov.facts)))))], [.one (.cells 4 [[int ov.facts, row 1 intI ov.init, row 1 intI ov.goal, row 3 eTOpenOperator ov.operators]]), .one (.cells 2 [[int 0, int 0]])]⟩) ?_ ?_))))))))
 ·rcases Bool.eq_false_or_eq_true (decide (ov.facts < 0)) with hb1 | hb1
  ·refine AWP.region (W.fieldAddr rfl rfl rfl rfl (.load rfl rfl rfl rfl rfl rfl (.lss rfl rfl rfl (.move rfl rfl (.guardF rfl rfl rfl hb1 (.guardF rfl rfl rfl hb1 (.guardF rfl rfl rfl hb1 (.pickT rfl hb1 rfl rfl (.assign rfl rfl (.nil (thn_normal ?_)))))))))))
   simp only [and_t hb1, or_t hb1, Bool.false_or, Bool.true_or, Bool.false_and, Bool.true_and]
   exact Sub.env ⟨rfl, rfl, rfl, trivial⟩
  ·refine AWP.region (W.fieldAddr rfl rfl rfl rfl (.load rfl rfl rfl rfl rfl rfl (.lss rfl rfl rfl (.move rfl rfl (.guardT rfl rfl rfl hb1 (W.fieldAddr rfl rfl rfl rfl (.guardT rfl rfl rfl hb1 (.load rfl rfl rfl rfl rfl rfl (.guardT rfl rfl rfl hb1 (.gtr rfl rfl rfl (.pickF rfl hb1 rfl rfl (.assign rfl rfl (.nil (thn_normal ?_))))))))))))))
   simp only [and_f hb1, or_f hb1, Bool.false_or, Bool.true_or, Bool.false_and, Bool.true_and]
   exact Sub.env ⟨rfl, rfl, rfl, trivial⟩
 ·refine AWP.iteB rfl h (fun hc2 h => ?_) (fun hc2 h => ?_)
  ·refine AWP.seq (.region (W.build rfl rfl rfl rfl (W.storeAgg rfl rfl rfl rfl rfl rfl rfl (.nil (thn_normal (.ret (inB_ret (thn_ret ?_))))))))
   have ej := Option.some.inj h
   subst ej
   exact Done.ret rfl rfl
  ·refine AWP.seq ?_
   obtain ⟨a21, ha21, h⟩ := bind_some h
   refine AWP.region (W.fieldAddr rfl rfl rfl rfl (.load rfl rfl rfl rfl rfl rfl (W.fieldAddr rfl rfl rfl rfl (.load rfl rfl rfl rfl rfl rfl (.callR rfl rfl rfl rfl (strips_IsSet_ok ha21) rfl (.not rfl rfl (.assign rfl rfl (.nil (thn_normal (.iteB rfl h (fun hc3 h => ?_) (fun hc3 h => ?_)))))))))))
   ·refine AWP.seq (.region (W.build rfl rfl rfl rfl (W.storeAgg rfl rfl rfl rfl rfl rfl rfl (.nil (thn_normal (.ret (inB_ret (thn_ret ?_))))))))
    have ej := Option.some.inj h
    subst ej
    exact Done.ret rfl rfl
   ·refine AWP.seq ?_
    obtain ⟨a29, ha29, h⟩ := bind_some h
    refine AWP.region (W.fieldAddr rfl rfl rfl rfl (.load rfl rfl rfl rfl rfl rfl (W.fieldAddr rfl rfl rfl rfl (.load rfl rfl rfl rfl rfl rfl (.callR rfl rfl rfl rfl (strips_IsSet_ok ha29) rfl (.not rfl rfl (.assign rfl rfl (.nil (thn_normal (.iteB rfl h (fun hc4 h => ?_) (fun hc4 h => ?_)))))))))))
    ·refine AWP.seq (.region (W.build rfl rfl rfl rfl (W.storeAgg rfl rfl rfl rfl rfl rfl rfl (.nil (thn_normal (.ret (inB_ret (thn_ret ?_))))))))
     have ej := Option.some.inj h
     subst ej
     exact Done.ret rfl rfl
    ·refine AWP.seq (.region (W.fieldAddr rfl rfl rfl rfl (.load rfl rfl rfl rfl rfl rfl (S.len rfl rfl (fun hl35 => .gtr rfl rfl rfl (.assign rfl rfl (.nil (thn_normal (.ite rfl h (fun hc5 h => ?_) (fun hc5 h => ?_))))))))))
     ·refine AWP.seq (.region (W.build rfl rfl rfl rfl (W.storeAgg rfl rfl rfl rfl rfl rfl rfl (.nil (thn_normal (.ret (inB_ret (thn_ret ?_))))))))
      have ej := Option.some.inj h
      subst ej
      exact Done.ret rfl rfl
     ·refine AWP.skip (inB_normal (thn_normal (.seq (.seq (.region (W.fieldAddr rfl rfl rfl rfl (.load rfl rfl rfl rfl rfl rfl (S.len rfl rfl (fun hl40 => .move rfl rfl (.nil (thn_normal (.block ?_))))))))))))
      obtain ⟨oo, ho1, h⟩ := bind_some h
      refine AWP.rngS ho1 (fun t6 _ => ⟨[(1, .c (.ptr 0 0 0)), (2, .c (.ptr 1 0 0)), (39, .c (row 3 eTOpenOperator ov.operators)), (40, .c (int (ov.operators.length : Int))), (41, .c (int t6))], [.one (.cells 4 [[int ov.facts, row 1 intI ov.init, row 1 intI ov.goal, row 3 eTOpenOperator ov.operators]]), .one (.cells 2 [[int 0, int 0]])]⟩) (fun o e st => match o with | .inl _ => e = .exit 1 ∧ Sub [] st ⟨[(2, .c (.ptr 1 0 0))], [.one (.cells 4 [[int ov.facts, row 1 intI ov.init, row 1 intI ov.goal, row 3 eTOpenOperator ov.operators]]), .one (.cells 2 [[int 0, int 0]])]⟩ | .inr x => e = .ret ∧ Done [.cell 2 28 2] (fun t _ => t = .agg [int x.code, int x.index]) .ret st) ?_ ?_ ?_ ?_
      ·try dsimp only
       exact Sub.env ⟨rfl, rfl, rfl, rfl, rfl, trivial⟩
      ·intro t6 s hlot6 hltt6 _
       try dsimp only
       refine AWP.seq (.region (.lss rfl rfl rfl (.nil (thn_normal (.seq (.condNP rfl hltt6 (.exit (thn_exit (thn_exit ⟨rfl, ?_⟩)))))))))
       exact Sub.env ⟨rfl, trivial⟩
      ·intro t6 s o hlot6 hltt6 h
       unfold open_Validate_l1 at h
       try dsimp only at h ⊢
       refine AWP.seq (.region (.lss rfl rfl rfl (.nil (thn_normal (.seq (.condP rfl hltt6 (.skip (thn_normal (.seq (.block (.seq ?_)))))))))))
       obtain ⟨a44, ha44, h⟩ := bind_some h
       refine AWP.region (.move rfl rfl (S.idx ha44 rfl rfl rfl rfl (W.loadIAgg rfl rfl rfl rfl rfl (W.alloc rfl rfl rfl rfl (.assign rfl rfl (W.storeAgg rfl rfl rfl rfl rfl rfl rfl (.nil (thn_normal (.seq ?_)))))))))
       obtain ⟨a49, ha49, h⟩ := bind_some h
       refine AWP.region (W.loadAgg rfl rfl rfl rfl rfl rfl rfl (W.fieldAddr rfl rfl rfl rfl (.load rfl rfl rfl rfl rfl rfl (.callR rfl rfl rfl rfl (open_operatorCode_ok ha49) rfl (.assign rfl rfl (.nil (thn_normal (.seq (.region (.move rfl rfl (.neq rfl rfl rfl (.nil (thn_normal (.iteN rfl h (fun hc7 h => ?_) (fun hc7 h => ?_)))))))))))))))
       ·refine AWP.seq (.region (.move rfl rfl (.move rfl rfl (W.build rfl rfl rfl rfl (W.storeAgg rfl rfl rfl rfl rfl rfl rfl (.nil (thn_normal (.ret (inB_ret (thn_ret ?_))))))))))
        have ej := Option.some.inj h
        subst ej
        refine thn_ret ⟨_, rfl, rfl, ?_⟩
        exact Done.ret rfl rfl
       ·refine AWP.skip (inB_normal (thn_normal (.region (.add rfl rfl rfl (by omega) (.move rfl rfl (.nil ?_))))))
        have ej := Option.some.inj h
        subst ej
        refine thn_normal ⟨_, rfl, ?_⟩
        exact Sub.cut ⟨rfl, rfl, rfl, rfl, rfl, trivial⟩ rfl ⟨.one rfl, .one rfl, trivial⟩ rfl
      ·intro e s hq
       rcases oo with u | x
       ·try dsimp only at h hq
        obtain ⟨rfl, hs⟩ := hq
        refine ⟨_, hs, ?_⟩
        refine inB_exit (thn_normal (.seq (.region (W.build rfl rfl rfl rfl (W.storeAgg rfl rfl rfl rfl rfl rfl rfl (.nil (thn_normal (.ret ?_))))))))
        have ej := Option.some.inj h
        subst ej
        exact Done.ret rfl rfl
       ·try dsimp only at h hq
        obtain ⟨rfl, hs⟩ := hq
        refine ⟨_, Sub.refl _ _, ?_⟩
        refine inB_ret (thn_ret ?_)
        have ej := Option.some.inj h
        subst ej
        exact hs
theorem internal_strconv_small_ok {iv : Int} {r : ByteArray} (h : internal_strconv_small iv = some r) : PureOk Tryd.prog 82 [.c (int iv)] (.c (.imm (.val (.string r)))) := by
 unfold PureOk
 refine FnOk.enter (rs := [.t 2]) Tryd.func82 rfl Tryd.ntmps82 Tryd.results82 rfl ⟨trivial, trivial⟩ (by kernel_rfl) rfl ?_
 unfold internal_strconv_small at h
 refine AWP.seq (.region (.assign rfl rfl (.nil (thn_normal (.seq (.seq (.region (.move rfl rfl (.lss rfl rfl rfl (.nil (thn_normal (.ite rfl h (fun hc2 h => ?_) (fun hc2 h => ?_)))))))))))))
 ·refine AWP.seq ?_
  obtain ⟨a8, ha8, h⟩ := bind_some h
  refine AWP.region (.move rfl rfl (.move rfl rfl (S.add rfl rfl rfl (S.subStr ha8 rfl rfl rfl rfl (.assign rfl rfl (.nil (thn_normal (.ret (thn_ret ?_)))))))))
  have ej := Option.some.inj h
  subst ej
  exact Done.ret rfl rfl
 ·refine AWP.skip (thn_normal (.seq ?_))
  obtain ⟨a14, ha14, h⟩ := bind_some h
  refine AWP.region (.move rfl rfl (S.mul rfl rfl rfl (.move rfl rfl (S.mul rfl rfl rfl (S.add rfl rfl rfl (S.subStr ha14 rfl rfl rfl rfl (.assign rfl rfl (.nil (thn_normal (.ret ?_))))))))))
  have ej := Option.some.inj h
  subst ej
  exact Done.ret rfl rfl
theorem internal_strconv_AppendUint_w3_ok {iv : Int} {base : Int} {l : List Int} {r : (List Int)} (h : internal_strconv_AppendUint_w3 iv base l = some r) : FnOk Tryd.prog 63 [.c (.own 0 0 l.length), .c (.imm (.val (.int .u64 iv))), .c (int base)] (internal_strconv_AppendUint_w3_s0 iv base l) (fun tt ss => tt = .c (.own 2 0 r.length) ∧ ss = [.dead, .dead, .one (vec 1 eU8 r)]) := by
 refine FnOk.enter (rs := [.t 6]) Tryd.func63 rfl Tryd.ntmps63 Tryd.results63 rfl ⟨trivial, trivial⟩ (by kernel_rfl) rfl ?_
 refine AWP.weak ?_
 unfold internal_strconv_AppendUint_w3 at h
 refine AWP.move (env' := [(0, .c (.own 1 0 l.length)), (1, .c (.imm (.val (.int .u64 iv)))), (2, .c (int base))]) (σ' := [.dead, .one (vec 1 eU8 l)]) 1 0 rfl rfl rfl ⟨rfl, rfl, rfl, trivial⟩ rfl ⟨trivial, ⟨Blk.im_ok _ _ _, vec_mv rfl⟩, trivial⟩ (.seq (.region (.assign rfl rfl (.nil (thn_normal (.seq (.seq (.region (.move rfl rfl (.eql rfl rfl rfl (.nil (thn_normal (.ite rfl h (fun hc55 h => ?_) (fun hc55 h => ?_))))))))))))))
 ·refine AWP.seq (.seq (.region (.move rfl rfl (.lss rfl rfl rfl (.nil (thn_normal (.ite rfl h (fun hc56 h => ?_) (fun hc56 h => ?_))))))))
  ·refine AWP.seq ?_
   obtain ⟨a16, ha16, h⟩ := bind_some h
   obtain ⟨a17, ha17, h⟩ := bind_some h
   refine AWP.region (.move rfl rfl (.move rfl rfl (.convInt rfl rfl (.callR rfl rfl rfl rfl (internal_strconv_small_ok ha16) rfl (S.appendStr ha17 rfl rfl rfl rfl rfl rfl rfl rfl rfl rfl (.assign rfl rfl (.nil (thn_normal (.ret (thn_ret (thn_ret ?_)))))))))))
   have ej := Option.some.inj h
   subst ej
   exact ⟨⟨[(6, .c (.own 2 0 a17.length))], [.dead, .dead, .one (vec 1 eU8 a17)]⟩, Sub.env ⟨rfl, trivial⟩, Done.ret rfl ⟨rfl, rfl⟩⟩
  ·cases h
 ·cases h
theorem internal_strconv_AppendInt_w2_ok {iv : Int} {base : Int} {l : List Int} {r : (List Int)} (h : internal_strconv_AppendInt_w2 iv base l = some r) : FnOk Tryd.prog 55 [.c (.own 0 0 l.length), .c (int iv), .c (int base)] (internal_strconv_AppendInt_w2_s0 iv base l) (fun tt ss => tt = .c (.own 3 0 r.length) ∧ ss = [.dead, .dead, .dead, .one (vec 1 eU8 r)]) := by
 refine FnOk.enter (rs := [.t 6]) Tryd.func55 rfl Tryd.ntmps55 Tryd.results55 rfl ⟨trivial, trivial⟩ (by kernel_rfl) rfl ?_
 refine AWP.weak ?_
 unfold internal_strconv_AppendInt_w2 at h
 refine AWP.move (env' := [(0, .c (.own 1 0 l.length)), (1, .c (int iv)), (2, .c (int base))]) (σ' := [.dead, .one (vec 1 eU8 l)]) 1 0 rfl rfl rfl ⟨rfl, rfl, rfl, trivial⟩ rfl ⟨trivial, ⟨Blk.im_ok _ _ _, vec_mv rfl⟩, trivial⟩ (.seq (.region (.assign rfl rfl (.nil (thn_normal (.seq (.region (.move rfl rfl (.convInt rfl rfl (.assign rfl rfl (.nil (thn_normal ?_))))))))))))
 obtain ⟨u, hx55, h⟩ := bind_some h
 refine AWP.seqJ (⟨[(0, .c (.own 1 0 l.length)), (2, .c (int base)), (7, .c (.imm (.val (.int .u64 ((IntKind.u64).wrap iv)))))], [.dead, .one (vec 1 eU8 l)]⟩) ?_ ?_
 ·refine AWP.seq (.region (.move rfl rfl (.lss rfl rfl rfl (.nil (thn_normal (.ite rfl hx55 (fun hc56 hx55 => ?_) (fun hc56 hx55 => ?_)))))))
  ·cases hx55
  ·refine AWP.skip ?_
   have ej := Option.some.inj hx55
   subst ej
   refine thn_normal (Sub.env ⟨rfl, rfl, rfl, trivial⟩)
 ·try dsimp only at h
  refine AWP.seq ?_
  obtain ⟨a20, ha20, h⟩ := bind_some h
  refine AWP.region (.move rfl rfl (.move rfl rfl (.move rfl rfl (.callF (r2 := .c (.own 3 0 a20.length)) (σ'' := [.dead, .dead, .dead, .one (vec 1 eU8 a20)]) rfl rfl rfl (FnOk.lend [1] (internal_strconv_AppendUint_w3_ok ha20) rfl rfl rfl rfl rfl rfl (by exact ⟨.vec, trivial⟩) rfl (by exact ⟨(.live rfl .vec), trivial⟩) rfl rfl (by exact ⟨.dead, .dead, .dead, (.new 2 rfl rfl .vec), trivial⟩)) (.assign rfl rfl (.nil (thn_normal (.ret ?_))))))))
  have ej := Option.some.inj h
  subst ej
  exact ⟨⟨[(6, .c (.own 3 0 a20.length))], [.dead, .dead, .dead, .one (vec 1 eU8 a20)]⟩, Sub.env ⟨rfl, trivial⟩, Done.ret rfl ⟨rfl, rfl⟩⟩
theorem strconv_AppendInt_w1_ok {iv : Int} {base : Int} {l : List Int} {r : (List Int)} (h : strconv_AppendInt_w1 iv base l = some r) : FnOk Tryd.prog 45 [.c (.own 0 0 l.length), .c (int iv), .c (int base)] (strconv_AppendInt_w1_s0 iv base l) (fun tt ss => tt = .c (.own 4 0 r.length) ∧ ss = [.dead, .dead, .dead, .dead, .one (vec 1 eU8 r)]) := by
 refine FnOk.enter (rs := [.t 6]) Tryd.func45 rfl Tryd.ntmps45 Tryd.results45 rfl ⟨trivial, trivial⟩ (by kernel_rfl) rfl ?_
 refine AWP.weak ?_
 unfold strconv_AppendInt_w1 at h
 refine AWP.move (env' := [(0, .c (.own 1 0 l.length)), (1, .c (int iv)), (2, .c (int base))]) (σ' := [.dead, .one (vec 1 eU8 l)]) 1 0 rfl rfl rfl ⟨rfl, rfl, rfl, trivial⟩ rfl ⟨trivial, ⟨Blk.im_ok _ _ _, vec_mv rfl⟩, trivial⟩ (.seq (.region (.assign rfl rfl (.nil (thn_normal (.seq ?_))))))
 obtain ⟨a10, ha10, h⟩ := bind_some h
 refine AWP.region (.move rfl rfl (.move rfl rfl (.move rfl rfl (.callF (r2 := .c (.own 4 0 a10.length)) (σ'' := [.dead, .dead, .dead, .dead, .one (vec 1 eU8 a10)]) rfl rfl rfl (FnOk.lend [1] (internal_strconv_AppendInt_w2_ok ha10) rfl rfl rfl rfl rfl rfl (by exact ⟨.vec, trivial⟩) rfl (by exact ⟨(.live rfl .vec), trivial⟩) rfl rfl (by exact ⟨.dead, .dead, .dead, .dead, (.new 3 rfl rfl .vec), trivial⟩)) (.assign rfl rfl (.nil (thn_normal (.ret ?_))))))))
 have ej := Option.some.inj h
 subst ej
 exact ⟨⟨[(6, .c (.own 4 0 a10.length))], [.dead, .dead, .dead, .dead, .one (vec 1 eU8 a10)]⟩, Sub.env ⟨rfl, trivial⟩, Done.ret rfl ⟨rfl, rfl⟩⟩
theorem belief_Key_ok {l : List (List Int)} {r : ByteArray} (h : belief_Key l = some r) : PureOk Tryd.prog 36 [.c (row 1 eLi64 l)] (.c (.imm (.val (.string r)))) := by
 unfold PureOk
 refine FnOk.enter (rs := [.t 2]) Tryd.func36 rfl Tryd.ntmps36 Tryd.results36 rfl ⟨trivial, trivial⟩ (by kernel_rfl) rfl ?_
 unfold belief_Key at h
 refine AWP.seq (.region (.assign rfl rfl (.nil (thn_normal (.seq (.region (.assign rfl rfl (.nil (thn_normal (.seq (.seq (.region (.move rfl rfl (S.len rfl rfl (fun hl9 => .move rfl rfl (.nil (thn_normal (.block (.virtV 1 eU8 3 rfl rfl rfl ?_)))))))))))))))))))
 obtain ⟨c2, ho1, h⟩ := bind_some h
 refine AWP.forS ho1 (fun t3 c2 => ⟨[(3, .c (.own 0 0 c2.length)), (8, .c (row 1 eLi64 l)), (9, .c (int (l.length : Int))), (10, .c (int t3))], [.one (vec 1 eU8 c2)]⟩) (fun c2 e st => e = .exit 0 ∧ Sub [] st ⟨[(3, .c (.own 0 0 c2.length))], [.one (vec 1 eU8 c2)]⟩) ?_ ?_ ?_ ?_
 ·try dsimp only
  exact Sub.env ⟨(own_len (by first | rfl | simp only [List.length_set])), rfl, rfl, rfl, trivial⟩
 ·intro t3 c2 hlot3 hltt3 _
  try dsimp only
  refine AWP.seq (.region (.lss rfl rfl rfl (.nil (thn_normal (.seq (.condNP rfl hltt3 (.exit (thn_exit (thn_exit ⟨rfl, ?_⟩)))))))))
  exact Sub.env ⟨rfl, trivial⟩
 ·intro t3 c2 o hlot3 hltt3 h
  unfold belief_Key_l1 at h
  try dsimp only at h ⊢
  refine AWP.seq (.region (.lss rfl rfl rfl (.nil (thn_normal (.seq (.condP rfl hltt3 (.skip (thn_normal (.seq (.block (.seq ?_)))))))))))
  obtain ⟨a12, ha12, h⟩ := bind_some h
  refine AWP.region (S.idx ha12 rfl rfl rfl rfl (.loadI rfl rfl rfl rfl (.assign rfl rfl (.nil (thn_normal (.seq (.seq (.region (.move rfl rfl (S.len rfl rfl (fun hl15 => .move rfl rfl (.nil (thn_normal (.block ?_))))))))))))))
  obtain ⟨c4, ho2, h⟩ := bind_some h
  refine AWP.forS ho2 (fun t5 c4 => ⟨[(3, .c (.own 0 0 c4.length)), (8, .c (row 1 eLi64 l)), (9, .c (int (l.length : Int))), (10, .c (int t3)), (14, .c (row 1 intI a12)), (15, .c (int (a12.length : Int))), (16, .c (int t5))], [.one (vec 1 eU8 c4)]⟩) (fun c4 e st => e = .exit 2 ∧ Sub [] st ⟨[(3, .c (.own 0 0 c4.length)), (8, .c (row 1 eLi64 l)), (9, .c (int (l.length : Int))), (10, .c (int t3))], [.one (vec 1 eU8 c4)]⟩) ?_ ?_ ?_ ?_
  ·try dsimp only
   exact Sub.env ⟨rfl, rfl, rfl, rfl, rfl, rfl, rfl, trivial⟩
  ·intro t5 c4 hlot5 hltt5 _
   try dsimp only
   refine AWP.seq (.region (.lss rfl rfl rfl (.nil (thn_normal (.seq (.condNP rfl hltt5 (.exit (thn_exit (thn_exit ⟨rfl, ?_⟩)))))))))
   exact Sub.env ⟨rfl, rfl, rfl, rfl, trivial⟩
  ·intro t5 c4 o hlot5 hltt5 h
   unfold belief_Key_l2 at h
   try dsimp only at h ⊢
   refine AWP.seq (.region (.lss rfl rfl rfl (.nil (thn_normal (.seq (.condP rfl hltt5 (.skip (thn_normal (.seq (.block (.seq ?_)))))))))))
   obtain ⟨a18, ha18, h⟩ := bind_some h
   refine AWP.region (S.idx ha18 rfl rfl rfl rfl (.loadI rfl rfl rfl rfl (.assign rfl rfl (.nil (thn_normal ?_)))))
   obtain ⟨a22, ha22, h⟩ := bind_some h
   obtain ⟨a24, ha24, h⟩ := bind_some h
   refine AWP.region (.move rfl rfl (.move rfl rfl (.callF (r2 := .c (.own 4 0 a22.length)) (σ'' := [.dead, .dead, .dead, .dead, .one (vec 1 eU8 a22)]) rfl rfl rfl (FnOk.lend [0] (strconv_AppendInt_w1_ok ha22) rfl rfl rfl rfl rfl rfl (by exact ⟨.vec, trivial⟩) rfl (by exact ⟨(.live rfl .vec), trivial⟩) rfl rfl (by exact ⟨.dead, .dead, .dead, .dead, (.new 4 rfl rfl .vec), trivial⟩)) (S.lit (f := eU8) (l := [44]) (ess := [[.imm (.val (.int .u8 44))]]) rfl rfl rfl rfl rfl rfl rfl ⟨⟨.inl rfl, trivial⟩, trivial⟩ rfl rfl rfl (S.append (f := eU8) ha24 rfl rfl rfl rfl rfl rfl (.own rfl rfl) rfl rfl rfl rfl (.assign rfl rfl (.nil (inB_normal (thn_normal (.move (env' := [(3, .c (.own 4 0 a24.length)), (8, .c (row 1 eLi64 l)), (9, .c (int (l.length : Int))), (10, .c (int t3)), (14, .c (row 1 intI a12)), (15, .c (int (a12.length : Int))), (16, .c (int t5))]) (σ' := [.dead, .dead, .dead, .dead, .one (vec 1 eU8 a24), .one (vec 1 eU8 [44])]) 4 6 rfl rfl rfl ⟨rfl, rfl, rfl, rfl, rfl, rfl, rfl, trivial⟩ rfl ⟨trivial, trivial, trivial, trivial, ⟨Blk.im_ok _ _ _, vec_mv rfl⟩, ⟨Blk.im_ok _ _ _, vec_mv rfl⟩, trivial⟩ (.region (.add rfl rfl rfl (by omega) (.move rfl rfl (.nil ?_))))))))))))))
   have ej := Option.some.inj h
   subst ej
   refine thn_normal ((Sub.move (env' := [(3, .c (.own 0 0 a24.length)), (8, .c (row 1 eLi64 l)), (9, .c (int (l.length : Int))), (10, .c (int t3)), (14, .c (row 1 intI a12)), (15, .c (int (a12.length : Int))), (16, .c (int (t5 + 1)))]) (σ' := [.one (vec 1 eU8 a24), .dead, .dead, .dead, .dead, .one (vec 1 eU8 [44])]) 0 4 rfl rfl rfl ⟨rfl, rfl, rfl, rfl, rfl, rfl, rfl, trivial⟩ rfl ⟨⟨Blk.im_ok _ _ _, vec_mv rfl⟩, trivial, trivial, trivial, trivial, ⟨Blk.im_ok _ _ _, vec_mv rfl⟩, trivial⟩).trans (Sub.cut ⟨rfl, rfl, rfl, rfl, rfl, rfl, rfl, trivial⟩ rfl ⟨.vec, trivial⟩ rfl))
  ·intro e s hq
   obtain ⟨rfl, hs⟩ := hq
   refine ⟨_, hs, ?_⟩
   refine inB_exit (thn_normal ?_)
   obtain ⟨a28, ha28, h⟩ := bind_some h
   refine AWP.region (.move rfl rfl (S.lit (f := eU8) (l := [59]) (ess := [[.imm (.val (.int .u8 59))]]) rfl rfl rfl rfl rfl rfl rfl ⟨⟨.inl rfl, trivial⟩, trivial⟩ rfl rfl rfl (S.append (f := eU8) ha28 rfl rfl rfl rfl rfl rfl (.own rfl rfl) rfl rfl rfl rfl (.assign rfl rfl (.nil (inB_normal (thn_normal (.move (env' := [(3, .c (.own 0 0 a28.length)), (8, .c (row 1 eLi64 l)), (9, .c (int (l.length : Int))), (10, .c (int t3))]) (σ' := [.one (vec 1 eU8 a28), .one (vec 1 eU8 [59])]) 0 2 rfl rfl rfl ⟨rfl, rfl, rfl, rfl, trivial⟩ rfl ⟨⟨Blk.im_ok _ _ _, vec_mv rfl⟩, ⟨Blk.im_ok _ _ _, vec_mv rfl⟩, trivial⟩ (.region (.add rfl rfl rfl (by omega) (.move rfl rfl (.nil ?_))))))))))))
   have ej := Option.some.inj h
   subst ej
   refine thn_normal (Sub.cut ⟨rfl, rfl, rfl, rfl, trivial⟩ rfl ⟨.vec, trivial⟩ rfl)
 ·intro e s hq
  obtain ⟨rfl, hs⟩ := hq
  refine ⟨_, hs, ?_⟩
  refine inB_exit (thn_normal (.seq (.region (.move rfl rfl (S.bytesStr rfl rfl rfl rfl (.assign rfl rfl (.nil (thn_normal (.ret ?_)))))))))
  have ej := Option.some.inj h
  subst ej
  exact Done.ret rfl rfl
theorem strips_Contains_ok {sv : List Int} {part : List Int} {r : Bool} (h : strips_Contains sv part = some r) : PureOk Tryd.prog 38 [.c (row 1 intI sv), .c (row 1 intI part)] (.c (bool r)) := by
 unfold PureOk
 refine FnOk.enter (rs := [.t 4]) Tryd.func38 rfl Tryd.ntmps38 Tryd.results38 rfl ⟨trivial, trivial⟩ (by kernel_rfl) rfl ?_
 unfold strips_Contains at h
 refine AWP.seq (.region (.assign rfl rfl (.nil (thn_normal (.seq (.region (.assign rfl rfl (.nil (thn_normal (.seq (.seq (.region (.move rfl rfl (S.len rfl rfl (fun hl9 => .move rfl rfl (.nil (thn_normal (.block ?_))))))))))))))))))
 obtain ⟨oo, ho1, h⟩ := bind_some h
 refine AWP.rngS ho1 (fun t4 iv3 => ⟨[(0, .c (row 1 intI sv)), (5, .c (int iv3)), (8, .c (row 1 intI part)), (9, .c (int (part.length : Int))), (10, .c (int t4))], []⟩) (fun o e st => match o with | .inl iv3 => e = .exit 0 ∧ Sub [] st ⟨[], []⟩ | .inr x => e = .ret ∧ Done [.t 4] (fun t _ => t = .c (bool x)) .ret st) ?_ ?_ ?_ ?_
 ·try dsimp only
  exact Sub.env ⟨rfl, rfl, rfl, rfl, rfl, trivial⟩
 ·intro t4 iv3 hlot4 hltt4 _
  try dsimp only
  refine AWP.seq (.region (.lss rfl rfl rfl (.nil (thn_normal (.seq (.condNP rfl hltt4 (.exit (thn_exit (thn_exit ⟨rfl, ?_⟩)))))))))
  exact Sub.env trivial
 ·intro t4 iv3 o hlot4 hltt4 h
  unfold strips_Contains_l1 at h
  try dsimp only at h ⊢
  refine AWP.seq (.region (.lss rfl rfl rfl (.nil (thn_normal (.seq (.condP rfl hltt4 (.skip (thn_normal (.seq (.block (.seq ?_)))))))))))
  obtain ⟨a12, ha12, h⟩ := bind_some h
  refine AWP.region (S.idx ha12 rfl rfl rfl rfl (.loadI rfl rfl rfl rfl (.assign rfl rfl (.nil (thn_normal (.seq (.block ?_)))))))
  obtain ⟨iv6, ho2, h⟩ := bind_some h
  refine AWP.loopS ho2 (fun iv5 => ⟨[(0, .c (row 1 intI sv)), (5, .c (int iv5)), (7, .c (int a12)), (8, .c (row 1 intI part)), (9, .c (int (part.length : Int))), (10, .c (int t4))], []⟩) (fun iv6 e st => e = .exit 2 ∧ Sub [] st ⟨[(0, .c (row 1 intI sv)), (5, .c (int iv6)), (7, .c (int a12)), (8, .c (row 1 intI part)), (9, .c (int (part.length : Int))), (10, .c (int t4))], []⟩) ?_ ?_ ?_
  ·try dsimp only
   exact Sub.env ⟨rfl, rfl, rfl, rfl, rfl, rfl, trivial⟩
  ·intro iv5 o h
   unfold strips_Contains_l2 at h
   try dsimp only at h ⊢
   refine AWP.seq ?_
   obtain ⟨t7, hx8, h⟩ := bind_some h
   refine AWP.seqJ (⟨[(0, .c (row 1 intI sv)), (5, .c (int iv5)), (7, .c (int a12)), (8, .c (row 1 intI part)), (9, .c (int (part.length : Int))), (10, .c (int t4)), (25, .c (bool t7))], []⟩) ?_ ?_
   ·rcases Bool.eq_false_or_eq_true (decide (iv5 < (sv.length : Int))) with hb9 | hb9
    ·replace hx8 := iteDT hb9 hx8
     obtain ⟨a21, ha21, hx8⟩ := bind_some hx8
     refine AWP.region (.move rfl rfl (.move rfl rfl (S.len rfl rfl (fun hl16 => .lss rfl rfl rfl (.move rfl rfl (.guardT rfl rfl rfl hb9 (.move rfl rfl (.guardT rfl rfl rfl hb9 (.move rfl rfl (.guardT rfl rfl rfl hb9 (S.idx ha21 rfl rfl rfl rfl (.guardT rfl rfl rfl hb9 (.loadI rfl rfl rfl rfl (.guardT rfl rfl rfl hb9 (.move rfl rfl (.guardT rfl rfl rfl hb9 (.lss rfl rfl rfl (.pickT rfl hb9 rfl rfl (.nil ?_)))))))))))))))))))
     have ej := Option.some.inj hx8
     subst ej
     refine thn_normal (Sub.env ⟨rfl, rfl, rfl, rfl, rfl, rfl, rfl, trivial⟩)
    ·replace hx8 := iteDF hb9 hx8
     refine AWP.region (.move rfl rfl (.move rfl rfl (S.len rfl rfl (fun hl16 => .lss rfl rfl rfl (.move rfl rfl (.guardF rfl rfl rfl hb9 (.guardF rfl rfl rfl hb9 (.guardF rfl rfl rfl hb9 (.guardF rfl rfl rfl hb9 (.guardF rfl rfl rfl hb9 (.guardF rfl rfl rfl hb9 (.pickF rfl hb9 rfl rfl (.nil ?_)))))))))))))
     have ej := Option.some.inj hx8
     subst ej
     refine thn_normal (Sub.env ⟨rfl, rfl, rfl, rfl, rfl, rfl, rfl, trivial⟩)
   ·refine AWP.iteB rfl h (fun hc10 h => ?_) (fun hc10 h => ?_)
    ·refine AWP.skip (thn_normal (.block (.region (.move rfl rfl (S.add rfl rfl rfl (.assign rfl rfl (.nil (inB_normal ?_))))))))
     have ej := Option.some.inj h
     subst ej
     refine thn_normal ⟨_, rfl, ?_⟩
     exact Sub.env ⟨rfl, rfl, rfl, rfl, rfl, rfl, trivial⟩
    ·refine AWP.exit (thn_exit ?_)
     have ej := Option.some.inj h
     subst ej
     refine thn_exit ⟨_, rfl, rfl, ?_⟩
     exact Sub.env ⟨rfl, rfl, rfl, rfl, rfl, rfl, trivial⟩
  ·intro e s hq
   obtain ⟨rfl, hs⟩ := hq
   refine ⟨_, hs, ?_⟩
   refine inB_exit (thn_normal ?_)
   obtain ⟨t11, hx12, h⟩ := bind_some h
   refine AWP.seqJ (⟨[(0, .c (row 1 intI sv)), (5, .c (int iv6)), (8, .c (row 1 intI part)), (9, .c (int (part.length : Int))), (10, .c (int t4)), (39, .c (bool t11))], []⟩) ?_ ?_
   ·rcases Bool.eq_false_or_eq_true (decide (iv6 = (sv.length : Int))) with hb13 | hb13
    ·replace hx12 := iteDT hb13 hx12
     refine AWP.region (.move rfl rfl (.move rfl rfl (S.len rfl rfl (fun hl30 => .eql rfl rfl rfl (.move rfl rfl (.guardF rfl rfl rfl hb13 (.guardF rfl rfl rfl hb13 (.guardF rfl rfl rfl hb13 (.guardF rfl rfl rfl hb13 (.guardF rfl rfl rfl hb13 (.guardF rfl rfl rfl hb13 (.pickT rfl hb13 rfl rfl (.nil ?_)))))))))))))
     have ej := Option.some.inj hx12
     subst ej
     refine thn_normal (Sub.env ⟨rfl, rfl, rfl, rfl, rfl, rfl, trivial⟩)
    ·replace hx12 := iteDF hb13 hx12
     obtain ⟨a35, ha35, hx12⟩ := bind_some hx12
     refine AWP.region (.move rfl rfl (.move rfl rfl (S.len rfl rfl (fun hl30 => .eql rfl rfl rfl (.move rfl rfl (.guardT rfl rfl rfl hb13 (.move rfl rfl (.guardT rfl rfl rfl hb13 (.move rfl rfl (.guardT rfl rfl rfl hb13 (S.idx ha35 rfl rfl rfl rfl (.guardT rfl rfl rfl hb13 (.loadI rfl rfl rfl rfl (.guardT rfl rfl rfl hb13 (.move rfl rfl (.guardT rfl rfl rfl hb13 (.neq rfl rfl rfl (.pickF rfl hb13 rfl rfl (.nil ?_)))))))))))))))))))
     have ej := Option.some.inj hx12
     subst ej
     refine thn_normal (Sub.env ⟨rfl, rfl, rfl, rfl, rfl, rfl, trivial⟩)
   ·refine AWP.iteB rfl h (fun hc14 h => ?_) (fun hc14 h => ?_)
    ·refine AWP.seq (.region (.assign rfl rfl (.nil (thn_normal (.ret (inB_ret (thn_ret ?_)))))))
     have ej := Option.some.inj h
     subst ej
     refine thn_ret ⟨_, rfl, rfl, ?_⟩
     exact Done.ret rfl rfl
    ·refine AWP.skip (inB_normal (thn_normal (.region (.add rfl rfl rfl (by omega) (.move rfl rfl (.nil ?_))))))
     have ej := Option.some.inj h
     subst ej
     refine thn_normal ⟨_, rfl, ?_⟩
     exact Sub.env ⟨rfl, rfl, rfl, rfl, rfl, trivial⟩
 ·intro e s hq
  rcases oo with iv3 | x
  ·try dsimp only at h hq
   obtain ⟨rfl, hs⟩ := hq
   refine ⟨_, hs, ?_⟩
   refine inB_exit (thn_normal (.seq (.region (.assign rfl rfl (.nil (thn_normal (.ret ?_)))))))
   have ej := Option.some.inj h
   subst ej
   exact Done.ret rfl rfl
  ·try dsimp only at h hq
   obtain ⟨rfl, hs⟩ := hq
   refine ⟨_, Sub.refl _ _, ?_⟩
   refine inB_ret (thn_ret ?_)
   have ej := Option.some.inj h
   subst ej
   exact hs
theorem open_Can_ok {ov : TOpenTask} {sv : List Int} {op : Int} {r : Bool} (h : open_Can ov sv op = some r) : PureOk Tryd.prog 26 [.agg [int ov.facts, row 1 intI ov.init, row 1 intI ov.goal, row 3 eTOpenOperator ov.operators], .c (row 1 intI sv), .c (int op)] (.c (bool r)) := by
 unfold PureOk
 refine FnOk.enter (rs := [.t 6]) Tryd.func26 rfl Tryd.ntmps26 Tryd.results26 rfl ⟨trivial, trivial⟩ (by kernel_rfl) rfl ?_
 unfold open_Can at h
 refine AWP.seq (.region (W.box rfl rfl rfl rfl rfl rfl (.assign rfl rfl (.nil (thn_normal (.seq ?_))))))
 obtain ⟨a11, ha11, h⟩ := bind_some h
 obtain ⟨a14, ha14, h⟩ := bind_some h
 refine AWP.region (.move rfl rfl (W.fieldAddr rfl rfl rfl rfl (.load rfl rfl rfl rfl rfl rfl (.move rfl rfl (S.idx ha11 rfl rfl rfl rfl (W.fieldAddrI rfl rfl rfl rfl (.loadI rfl rfl rfl rfl (.callR rfl rfl rfl rfl (strips_Contains_ok ha14) rfl (.assign rfl rfl (.nil (thn_normal (.ret ?_))))))))))))
 have ej := Option.some.inj h
 subst ej
 exact Done.ret rfl rfl
theorem strips_Update_ok {sv : List Int} {add : List Int} {del : List Int} {r : (List Int)} (h : strips_Update sv add del = some r) : FreshOk Tryd.prog 39 [.c (row 1 intI sv), .c (row 1 intI add), .c (row 1 intI del)] 1 (List.map intI r) := by
 unfold FreshOk
 refine FnOk.enter (rs := [.t 6]) Tryd.func39 rfl Tryd.ntmps39 Tryd.results39 rfl ⟨trivial, trivial⟩ (by kernel_rfl) rfl ?_
 unfold strips_Update at h
 refine AWP.seq (.region (.assign rfl rfl (.nil (thn_normal (.seq (.region (.assign rfl rfl (.nil (thn_normal (.seq (.seq (.region (.move rfl rfl (S.len rfl rfl (fun hl13 => .move rfl rfl (.nil (thn_normal (.block (.virtV 1 intI 7 rfl rfl rfl ?_)))))))))))))))))))
 obtain ⟨c4, ho1, h⟩ := bind_some h
 refine AWP.forS ho1 (fun t5 c4 => ⟨[(1, .c (row 1 intI add)), (2, .c (row 1 intI del)), (7, .c (.own 0 0 c4.length)), (12, .c (row 1 intI sv)), (13, .c (int (sv.length : Int))), (14, .c (int t5))], [.one (vec 1 intI c4)]⟩) (fun c4 e st => e = .exit 0 ∧ Sub [] st ⟨[(1, .c (row 1 intI add)), (7, .c (.own 0 0 c4.length))], [.one (vec 1 intI c4)]⟩) ?_ ?_ ?_ ?_
 ·try dsimp only
  exact Sub.env ⟨rfl, rfl, (own_len (by first | rfl | simp only [List.length_set])), rfl, rfl, rfl, trivial⟩
 ·intro t5 c4 hlot5 hltt5 _
  try dsimp only
  refine AWP.seq (.region (.lss rfl rfl rfl (.nil (thn_normal (.seq (.condNP rfl hltt5 (.exit (thn_exit (thn_exit ⟨rfl, ?_⟩)))))))))
  exact Sub.env ⟨rfl, rfl, trivial⟩
 ·intro t5 c4 o hlot5 hltt5 h
  unfold strips_Update_l1 at h
  try dsimp only at h ⊢
  refine AWP.seq (.region (.lss rfl rfl rfl (.nil (thn_normal (.seq (.condP rfl hltt5 (.skip (thn_normal ?_))))))))
  obtain ⟨c6, hx7, h⟩ := bind_some h
  refine AWP.seqJ (⟨[(1, .c (row 1 intI add)), (2, .c (row 1 intI del)), (7, .c (.own 2 0 c6.length)), (12, .c (row 1 intI sv)), (13, .c (int (sv.length : Int))), (14, .c (int t5))], [.dead, .dead, .one (vec 1 intI c6)]⟩) ?_ ?_
  ·refine AWP.block (.seq ?_)
   obtain ⟨a16, ha16, hx7⟩ := bind_some hx7
   refine AWP.region (S.idx ha16 rfl rfl rfl rfl (.loadI rfl rfl rfl rfl (.assign rfl rfl (.nil (thn_normal (.seq ?_))))))
   obtain ⟨a21, ha21, hx7⟩ := bind_some hx7
   refine AWP.region (.move rfl rfl (.move rfl rfl (.callR rfl rfl rfl rfl (slices_BinarySearch_int_int_ok ha21) rfl (.move rfl rfl (.extract rfl rfl rfl (.extract rfl rfl rfl (.assign rfl rfl (.assign rfl rfl (.nil (thn_normal (.seq (.region (.move rfl rfl (.not rfl rfl (.nil (thn_normal (.iteB rfl hx7 (fun hc8 hx7 => ?_) (fun hc8 hx7 => ?_))))))))))))))))))
   ·obtain ⟨a29, ha29, hx7⟩ := bind_some hx7
    refine AWP.region (.move rfl rfl (.move rfl rfl (S.lit (f := intI) (l := [a16]) (ess := [[int a16]]) rfl rfl rfl rfl rfl rfl rfl ⟨⟨.inl rfl, trivial⟩, trivial⟩ rfl rfl rfl (S.append (f := intI) ha29 rfl rfl rfl rfl rfl rfl (.own rfl rfl) rfl rfl rfl rfl (.assign rfl rfl (.nil (inB_normal ?_)))))))
    have ej := Option.some.inj hx7
    subst ej
    refine thn_normal (Sub.cut ⟨rfl, rfl, rfl, rfl, rfl, rfl, trivial⟩ rfl ⟨.dead, .dead, .vec, trivial⟩ rfl)
   ·refine AWP.skip (inB_normal ?_)
    have ej := Option.some.inj hx7
    subst ej
    refine thn_normal ((Sub.move (env' := [(1, .c (row 1 intI add)), (2, .c (row 1 intI del)), (7, .c (.own 2 0 c4.length)), (12, .c (row 1 intI sv)), (13, .c (int (sv.length : Int))), (14, .c (int t5))]) (σ' := [.dead, .dead, .one (vec 1 intI c4)]) 2 0 rfl rfl rfl ⟨rfl, rfl, rfl, rfl, rfl, rfl, trivial⟩ rfl ⟨trivial, trivial, ⟨Blk.im_ok _ _ _, vec_mv rfl⟩, trivial⟩).trans (Sub.env ⟨rfl, rfl, rfl, rfl, rfl, rfl, trivial⟩))
  ·refine AWP.region (.add rfl rfl rfl (by omega) (.move rfl rfl (.nil ?_)))
   have ej := Option.some.inj h
   subst ej
   refine thn_normal ((Sub.move (env' := [(1, .c (row 1 intI add)), (2, .c (row 1 intI del)), (7, .c (.own 0 0 c6.length)), (12, .c (row 1 intI sv)), (13, .c (int (sv.length : Int))), (14, .c (int (t5 + 1)))]) (σ' := [.one (vec 1 intI c6), .dead]) 0 2 rfl rfl rfl ⟨rfl, rfl, rfl, rfl, rfl, rfl, trivial⟩ rfl ⟨⟨Blk.im_ok _ _ _, vec_mv rfl⟩, trivial, trivial⟩).trans (Sub.cut ⟨rfl, rfl, rfl, rfl, rfl, rfl, trivial⟩ rfl ⟨.vec, trivial⟩ rfl))
 ·intro e s hq
  obtain ⟨rfl, hs⟩ := hq
  refine ⟨_, hs, ?_⟩
  refine inB_exit (thn_normal (.seq ?_))
  obtain ⟨a33, ha33, h⟩ := bind_some h
  refine AWP.region (.move rfl rfl (.move rfl rfl (S.append (f := intI) ha33 rfl rfl rfl rfl rfl rfl .row rfl rfl rfl rfl (.assign rfl rfl (.nil (thn_normal (.seq (.move (env' := [(7, .c (.own 0 0 a33.length))]) (σ' := [.one (vec 1 intI a33)]) 0 1 rfl rfl rfl ⟨rfl, trivial⟩ rfl ⟨⟨Blk.im_ok _ _ _, vec_mv rfl⟩, trivial⟩ ?_))))))))
  obtain ⟨a35, ha35, h⟩ := bind_some h
  refine AWP.region (.move rfl rfl (S.sort ha35 sortL_ok rfl rfl rfl rfl rfl rfl (.nil (thn_normal (.seq (.region (.move rfl rfl (S.compact compactL_ok rfl rfl (sortL_len ha35) rfl rfl rfl rfl rfl (.assign rfl rfl (.nil (thn_normal (.ret ?_))))))))))))
  have ej := Option.some.inj h
  subst ej
  exact Done.ret rfl (Fresh.mk rfl rfl)
theorem cmp_Compare_int_ok {xv : Int} {yv : Int} {r : Int} (h : cmp_Compare_int xv yv = some r) : PureOk Tryd.prog 52 [.c (int xv), .c (int yv)] (.c (int r)) := by
 unfold PureOk
 refine FnOk.enter (rs := [.t 4]) Tryd.func52 rfl Tryd.ntmps52 Tryd.results52 rfl ⟨trivial, trivial⟩ (by kernel_rfl) rfl ?_
 unfold cmp_Compare_int at h
 refine AWP.seq (.region (.assign rfl rfl (.nil (thn_normal (.seq ?_)))))
 obtain ⟨a8, ha8, h⟩ := bind_some h
 refine AWP.region (.move rfl rfl (.callR rfl rfl rfl rfl (cmp_isNaN_int_ok ha8) rfl (.assign rfl rfl (.nil (thn_normal (.seq ?_))))))
 obtain ⟨a10, ha10, h⟩ := bind_some h
 refine AWP.region (.move rfl rfl (.callR rfl rfl rfl rfl (cmp_isNaN_int_ok ha10) rfl (.assign rfl rfl (.nil (thn_normal (.seq (.seq (.region (.move rfl rfl (.nil (thn_normal (.iteB rfl h (fun hc3 h => ?_) (fun hc3 h => ?_)))))))))))))
 ·refine AWP.seq (.seq (.region (.move rfl rfl (.nil (thn_normal (.iteB rfl h (fun hc4 h => ?_) (fun hc4 h => ?_)))))))
  ·refine AWP.seq (.region (.assign rfl rfl (.nil (thn_normal (.ret (thn_ret (thn_ret ?_)))))))
   have ej := Option.some.inj h
   subst ej
   exact Done.ret rfl rfl
  ·refine AWP.skip (thn_normal (.seq (.region (.assign rfl rfl (.nil (thn_normal (.ret (thn_ret ?_))))))))
   have ej := Option.some.inj h
   subst ej
   exact Done.ret rfl rfl
 ·refine AWP.skip (thn_normal (.seq (.seq (.region (.move rfl rfl (.nil (thn_normal (.iteB rfl h (fun hc5 h => ?_) (fun hc5 h => ?_)))))))))
  ·refine AWP.seq (.region (.assign rfl rfl (.nil (thn_normal (.ret (thn_ret ?_))))))
   have ej := Option.some.inj h
   subst ej
   exact Done.ret rfl rfl
  ·refine AWP.skip (thn_normal (.seq (.seq (.region (.move rfl rfl (.move rfl rfl (.lss rfl rfl rfl (.nil (thn_normal (.ite rfl h (fun hc6 h => ?_) (fun hc6 h => ?_)))))))))))
   ·refine AWP.seq (.region (.assign rfl rfl (.nil (thn_normal (.ret (thn_ret ?_))))))
    have ej := Option.some.inj h
    subst ej
    exact Done.ret rfl rfl
   ·refine AWP.skip (thn_normal (.seq (.seq (.region (.move rfl rfl (.move rfl rfl (.gtr rfl rfl rfl (.nil (thn_normal (.ite rfl h (fun hc7 h => ?_) (fun hc7 h => ?_)))))))))))
    ·refine AWP.seq (.region (.assign rfl rfl (.nil (thn_normal (.ret (thn_ret ?_))))))
     have ej := Option.some.inj h
     subst ej
     exact Done.ret rfl rfl
    ·refine AWP.skip (thn_normal (.seq (.region (.assign rfl rfl (.nil (thn_normal (.ret ?_)))))))
     have ej := Option.some.inj h
     subst ej
     exact Done.ret rfl rfl
theorem slices_Compare_int_int_ok {s11 : List Int} {s22 : List Int} {r : Int} (h : slices_Compare_int_int s11 s22 = some r) : PureOk Tryd.prog 42 [.c (row 1 intI s11), .c (row 1 intI s22)] (.c (int r)) := by
 unfold PureOk
 refine FnOk.enter (rs := [.t 4]) Tryd.func42 rfl Tryd.ntmps42 Tryd.results42 rfl ⟨trivial, trivial⟩ (by kernel_rfl) rfl ?_
 unfold slices_Compare_int_int at h
 refine AWP.seq (.region (.assign rfl rfl (.nil (thn_normal (.seq (.seq (.region (.move rfl rfl (S.len rfl rfl (fun hl10 => .move rfl rfl (.nil (thn_normal (.block ?_)))))))))))))
 obtain ⟨oo, ho1, h⟩ := bind_some h
 refine AWP.rngS ho1 (fun t3 _ => ⟨[(0, .c (row 1 intI s11)), (1, .c (row 1 intI s22)), (9, .c (row 1 intI s11)), (10, .c (int (s11.length : Int))), (11, .c (int t3))], []⟩) (fun o e st => match o with | .inl _ => e = .exit 0 ∧ Sub [] st ⟨[(0, .c (row 1 intI s11)), (1, .c (row 1 intI s22))], []⟩ | .inr x => e = .ret ∧ Done [.t 4] (fun t _ => t = .c (int x)) .ret st) ?_ ?_ ?_ ?_
 ·try dsimp only
  exact Sub.env ⟨rfl, rfl, rfl, rfl, rfl, trivial⟩
 ·intro t3 s hlot3 hltt3 _
  try dsimp only
  refine AWP.seq (.region (.lss rfl rfl rfl (.nil (thn_normal (.seq (.condNP rfl hltt3 (.exit (thn_exit (thn_exit ⟨rfl, ?_⟩)))))))))
  exact Sub.env ⟨rfl, rfl, trivial⟩
 ·intro t3 s o hlot3 hltt3 h
  unfold slices_Compare_int_int_l1 at h
  try dsimp only at h ⊢
  refine AWP.seq (.region (.lss rfl rfl rfl (.nil (thn_normal (.seq (.condP rfl hltt3 (.skip (thn_normal (.seq (.block (.seq ?_)))))))))))
  obtain ⟨a14, ha14, h⟩ := bind_some h
  refine AWP.region (.move rfl rfl (S.idx ha14 rfl rfl rfl rfl (.loadI rfl rfl rfl rfl (.assign rfl rfl (.assign rfl rfl (.nil (thn_normal (.seq (.seq (.region (.move rfl rfl (.move rfl rfl (S.len rfl rfl (fun hl18 => .geq rfl rfl rfl (.nil (thn_normal (.ite rfl h (fun hc4 h => ?_) (fun hc4 h => ?_))))))))))))))))))
  ·refine AWP.seq (.region (.assign rfl rfl (.nil (thn_normal (.ret (thn_ret (inB_ret (thn_ret ?_))))))))
   have ej := Option.some.inj h
   subst ej
   refine thn_ret ⟨_, rfl, rfl, ?_⟩
   exact Done.ret rfl rfl
  ·refine AWP.skip (thn_normal (.seq ?_))
   obtain ⟨a22, ha22, h⟩ := bind_some h
   refine AWP.region (.move rfl rfl (.move rfl rfl (S.idx ha22 rfl rfl rfl rfl (.loadI rfl rfl rfl rfl (.assign rfl rfl (.nil (thn_normal (.seq ?_))))))))
   obtain ⟨a26, ha26, h⟩ := bind_some h
   refine AWP.region (.move rfl rfl (.move rfl rfl (.callR rfl rfl rfl rfl (cmp_Compare_int_ok ha26) rfl (.assign rfl rfl (.nil (thn_normal (.seq (.region (.move rfl rfl (.neq rfl rfl rfl (.nil (thn_normal (.iteN rfl h (fun hc5 h => ?_) (fun hc5 h => ?_))))))))))))))
   ·refine AWP.seq (.region (.move rfl rfl (.assign rfl rfl (.nil (thn_normal (.ret (inB_ret (thn_ret ?_))))))))
    have ej := Option.some.inj h
    subst ej
    refine thn_ret ⟨_, rfl, rfl, ?_⟩
    exact Done.ret rfl rfl
   ·refine AWP.skip (inB_normal (thn_normal (.region (.add rfl rfl rfl (by omega) (.move rfl rfl (.nil ?_))))))
    have ej := Option.some.inj h
    subst ej
    refine thn_normal ⟨_, rfl, ?_⟩
    exact Sub.env ⟨rfl, rfl, rfl, rfl, rfl, trivial⟩
 ·intro e s hq
  rcases oo with u | x
  ·try dsimp only at h hq
   obtain ⟨rfl, hs⟩ := hq
   refine ⟨_, hs, ?_⟩
   refine inB_exit (thn_normal (.seq (.seq (.region (.move rfl rfl (S.len rfl rfl (fun hl32 => .move rfl rfl (S.len rfl rfl (fun hl34 => .lss rfl rfl rfl (.nil (thn_normal (.ite rfl h (fun hc6 h => ?_) (fun hc6 h => ?_)))))))))))))
   ·refine AWP.seq (.region (.assign rfl rfl (.nil (thn_normal (.ret (thn_ret ?_))))))
    have ej := Option.some.inj h
    subst ej
    exact Done.ret rfl rfl
   ·refine AWP.skip (thn_normal (.seq (.region (.assign rfl rfl (.nil (thn_normal (.ret ?_)))))))
    have ej := Option.some.inj h
    subst ej
    exact Done.ret rfl rfl
  ·try dsimp only at h hq
   obtain ⟨rfl, hs⟩ := hq
   refine ⟨_, Sub.refl _ _, ?_⟩
   refine inB_ret (thn_ret ?_)
   have ej := Option.some.inj h
   subst ej
   exact hs
theorem slices_Equal_int_int_ok {s11 : List Int} {s22 : List Int} {r : Bool} (h : slices_Equal_int_int s11 s22 = some r) : PureOk Tryd.prog 48 [.c (row 1 intI s11), .c (row 1 intI s22)] (.c (bool r)) := by
 unfold PureOk
 refine FnOk.enter (rs := [.t 4]) Tryd.func48 rfl Tryd.ntmps48 Tryd.results48 rfl ⟨trivial, trivial⟩ (by kernel_rfl) rfl ?_
 unfold slices_Equal_int_int at h
 refine AWP.seq (.region (.assign rfl rfl (.nil (thn_normal (.seq (.seq (.region (.move rfl rfl (S.len rfl rfl (fun hl7 => .move rfl rfl (S.len rfl rfl (fun hl9 => .neq rfl rfl rfl (.nil (thn_normal (.iteN rfl h (fun hc3 h => ?_) (fun hc3 h => ?_))))))))))))))))
 ·refine AWP.seq (.region (.assign rfl rfl (.nil (thn_normal (.ret (thn_ret ?_))))))
  have ej := Option.some.inj h
  subst ej
  exact Done.ret rfl rfl
 ·refine AWP.skip (thn_normal (.seq (.seq (.region (.move rfl rfl (S.len rfl rfl (fun hl12 => .move rfl rfl (.nil (thn_normal (.block ?_))))))))))
  obtain ⟨oo, ho1, h⟩ := bind_some h
  refine AWP.rngS ho1 (fun t4 _ => ⟨[(0, .c (row 1 intI s11)), (1, .c (row 1 intI s22)), (12, .c (int (s11.length : Int))), (13, .c (int t4))], []⟩) (fun o e st => match o with | .inl _ => e = .exit 0 ∧ Sub [] st ⟨[], []⟩ | .inr x => e = .ret ∧ Done [.t 4] (fun t _ => t = .c (bool x)) .ret st) ?_ ?_ ?_ ?_
  ·try dsimp only
   exact Sub.env ⟨rfl, rfl, rfl, rfl, trivial⟩
  ·intro t4 s hlot4 hltt4 _
   try dsimp only
   refine AWP.seq (.region (.lss rfl rfl rfl (.nil (thn_normal (.seq (.condNP rfl hltt4 (.exit (thn_exit (thn_exit ⟨rfl, ?_⟩)))))))))
   exact Sub.env trivial
  ·intro t4 s o hlot4 hltt4 h
   unfold slices_Equal_int_int_l1 at h
   try dsimp only at h ⊢
   refine AWP.seq (.region (.lss rfl rfl rfl (.nil (thn_normal (.seq (.condP rfl hltt4 (.skip (thn_normal (.seq (.block (.seq (.region (.move rfl rfl (.assign rfl rfl (.nil (thn_normal (.seq ?_)))))))))))))))))
   obtain ⟨a18, ha18, h⟩ := bind_some h
   obtain ⟨a22, ha22, h⟩ := bind_some h
   refine AWP.drawI mixed rfl ?_
   apply DrawSeq.consF; exact rfl; intro E
   refine AOps.move rfl rfl (.nil ⟨rfl, rfl⟩)
   exact rfl
   apply DrawSeq.consF; exact rfl; intro E
   refine AOps.move rfl rfl (.nil ⟨rfl, rfl⟩)
   exact rfl
   apply DrawSeq.consF; exact rfl; intro E
   refine S.idx ha18 rfl rfl rfl rfl (.nil ⟨rfl, rfl⟩)
   exact rfl
   apply DrawSeq.consF; exact rfl; intro E
   refine AOps.loadI rfl rfl rfl rfl (.nil ⟨rfl, rfl⟩)
   exact rfl
   apply DrawSeq.consF; exact rfl; intro E
   refine AOps.move rfl rfl (.nil ⟨rfl, rfl⟩)
   exact rfl
   apply DrawSeq.consF; exact rfl; intro E
   refine AOps.move rfl rfl (.nil ⟨rfl, rfl⟩)
   exact rfl
   apply DrawSeq.consF; exact rfl; intro E
   refine S.idx ha22 rfl rfl rfl rfl (.nil ⟨rfl, rfl⟩)
   exact rfl
   apply DrawSeq.consF; exact rfl; intro E
   refine AOps.loadI rfl rfl rfl rfl (.nil ⟨rfl, rfl⟩)
   exact rfl
   apply DrawSeq.consF; exact rfl; intro E
   refine AOps.neq rfl rfl rfl (.nil ⟨rfl, rfl⟩)
   exact rfl
   refine DrawSeq.done ?_
   dsimp only [envEnd]
   refine thn_normal (.iteN rfl h (fun hc5 h => ?_) (fun hc5 h => ?_))
   ·refine AWP.seq (.region (.assign rfl rfl (.nil (thn_normal (.ret (inB_ret (thn_ret ?_)))))))
    have ej := Option.some.inj h
    subst ej
    refine thn_ret ⟨_, rfl, rfl, ?_⟩
    exact Done.ret rfl rfl
   ·refine AWP.skip (inB_normal (thn_normal (.region (.add rfl rfl rfl (by omega) (.move rfl rfl (.nil ?_))))))
    have ej := Option.some.inj h
    subst ej
    refine thn_normal ⟨_, rfl, ?_⟩
    exact Sub.env ⟨rfl, rfl, rfl, rfl, trivial⟩
  ·intro e s hq
   rcases oo with u | x
   ·try dsimp only at h hq
    obtain ⟨rfl, hs⟩ := hq
    refine ⟨_, hs, ?_⟩
    refine inB_exit (thn_normal (.seq (.region (.assign rfl rfl (.nil (thn_normal (.ret ?_)))))))
    have ej := Option.some.inj h
    subst ej
    exact Done.ret rfl rfl
   ·try dsimp only at h hq
    obtain ⟨rfl, hs⟩ := hq
    refine ⟨_, Sub.refl _ _, ?_⟩
    refine inB_ret (thn_ret ?_)
    have ej := Option.some.inj h
    subst ej
    exact hs
theorem slices_BinarySearchFunc_int_int_int_ok {xv : List (List Int)} {target : List Int} {cmp : (List Int) → (List Int) → Option Int} {r : Int × Bool} {fvcmp : FuncId} {cvcmp : List C} (hcvcmp : C.okL 0 cvcmp = true) (hcmp : ∀ {y1 : List Int} {y2 : List Int} {z : Int}, cmp y1 y2 = some z → PureOk Tryd.prog fvcmp ([.c (row 1 intI y1), .c (row 1 intI y2)] ++ cvcmp.map T.c) (.c (int z))) (h : slices_BinarySearchFunc_int_int_int xv target cmp = some r) : PureOk Tryd.prog 41 [.c (row 1 eLi64 xv), .c (row 1 intI target), .c (.fn fvcmp cvcmp)] (.tup [.c (int r.1), .c (bool r.2)]) := by
 unfold PureOk
 refine FnOk.enter (rs := [.t 6, .t 7]) Tryd.func41 rfl Tryd.ntmps41 Tryd.results41 rfl ⟨trivial, trivial, trivial⟩ (by kernel_rfl) rfl ?_
 unfold slices_BinarySearchFunc_int_int_int at h
 refine AWP.seq (.region (.assign rfl rfl (.assign rfl rfl (.nil (thn_normal (.seq (.region (.move rfl rfl (S.len rfl rfl (fun hl13 => .assign rfl rfl (.nil (thn_normal (.seq (.region (.move rfl rfl (.assign rfl rfl (.assign rfl rfl (.nil (thn_normal (.seq (.block ?_)))))))))))))))))))))
 obtain ⟨iv6, ho1, h⟩ := bind_some h
 refine AWP.loopS ho1 (fun (iv4, j5) => ⟨[(0, .c (row 1 eLi64 xv)), (1, .c (row 1 intI target)), (2, .c (.fn fvcmp cvcmp)), (8, .c (int (xv.length : Int))), (9, .c (int iv4)), (10, .c (int j5))], []⟩) (fun iv6 e st => e = .exit 0 ∧ Sub [] st ⟨[(0, .c (row 1 eLi64 xv)), (1, .c (row 1 intI target)), (2, .c (.fn fvcmp cvcmp)), (8, .c (int (xv.length : Int))), (9, .c (int iv6))], []⟩) ?_ ?_ ?_
 ·try dsimp only
  exact Sub.env ⟨rfl, rfl, rfl, rfl, rfl, rfl, trivial⟩
 ·intro s o h
  obtain ⟨iv4, j5⟩ := s
  unfold slices_BinarySearchFunc_int_int_int_l1 at h
  try dsimp only at h ⊢
  refine AWP.seq (.seq (.region (.move rfl rfl (.move rfl rfl (.lss rfl rfl rfl (.nil (thn_normal (.ite rfl h (fun hc7 h => ?_) (fun hc7 h => ?_)))))))))
  ·refine AWP.skip (thn_normal (.block (.seq (.region (.move rfl rfl (.move rfl rfl (S.add rfl rfl rfl (.convInt rfl rfl (.shr rfl rfl rfl (by decide) rfl (.convInt rfl rfl (.assign rfl rfl (.nil (thn_normal (.seq ?_))))))))))))))
   obtain ⟨a27, ha27, h⟩ := bind_some h
   obtain ⟨a30, ha30, h⟩ := bind_some h
   refine AWP.region (.move rfl rfl (.move rfl rfl (.move rfl rfl (S.idx ha27 rfl rfl rfl rfl (.loadI rfl rfl rfl rfl (.move rfl rfl (.callR rfl rfl (okL_app rfl hcvcmp) rfl (hcmp ha30) rfl (.lss rfl rfl rfl (.nil (thn_normal (.ite rfl h (fun hc8 h => ?_) (fun hc8 h => ?_))))))))))))
   ·refine AWP.region (.move rfl rfl (S.add rfl rfl rfl (.assign rfl rfl (.nil (inB_normal ?_)))))
    have ej := Option.some.inj h
    subst ej
    refine thn_normal ⟨_, rfl, ?_⟩
    exact Sub.env ⟨rfl, rfl, rfl, rfl, rfl, rfl, trivial⟩
   ·refine AWP.region (.move rfl rfl (.assign rfl rfl (.nil (inB_normal ?_))))
    have ej := Option.some.inj h
    subst ej
    refine thn_normal ⟨_, rfl, ?_⟩
    exact Sub.env ⟨rfl, rfl, rfl, rfl, rfl, rfl, trivial⟩
  ·refine AWP.exit (thn_exit ?_)
   have ej := Option.some.inj h
   subst ej
   refine thn_exit ⟨_, rfl, rfl, ?_⟩
   exact Sub.env ⟨rfl, rfl, rfl, rfl, rfl, trivial⟩
 ·intro e s hq
  obtain ⟨rfl, hs⟩ := hq
  refine ⟨_, hs, ?_⟩
  refine inB_exit (thn_normal ?_)
  obtain ⟨t9, hx10, h⟩ := bind_some h
  refine AWP.seqJ (⟨[(6, .c (int iv6)), (7, .c (bool t9))], []⟩) ?_ ?_
  ·rcases Bool.eq_false_or_eq_true (decide (iv6 < (xv.length : Int))) with hb11 | hb11
   ·replace hx10 := iteDT hb11 hx10
    obtain ⟨a43, ha43, hx10⟩ := bind_some hx10
    obtain ⟨a46, ha46, hx10⟩ := bind_some hx10
    refine AWP.region (.move rfl rfl (.move rfl rfl (.move rfl rfl (.lss rfl rfl rfl (.move rfl rfl (.guardT rfl rfl rfl hb11 (.move rfl rfl (.guardT rfl rfl rfl hb11 (.move rfl rfl (.guardT rfl rfl rfl hb11 (.move rfl rfl (.guardT rfl rfl rfl hb11 (S.idx ha43 rfl rfl rfl rfl (.guardT rfl rfl rfl hb11 (.loadI rfl rfl rfl rfl (.guardT rfl rfl rfl hb11 (.move rfl rfl (.guardT rfl rfl rfl hb11 (.callR rfl rfl (okL_app rfl hcvcmp) rfl (hcmp ha46) rfl (.guardT rfl rfl rfl hb11 (.eql rfl rfl rfl (.pickT rfl hb11 rfl rfl (.assign rfl rfl (.assign rfl rfl (.nil ?_)))))))))))))))))))))))))
    have ej := Option.some.inj hx10
    subst ej
    refine thn_normal (Sub.env ⟨rfl, rfl, trivial⟩)
   ·replace hx10 := iteDF hb11 hx10
    refine AWP.region (.move rfl rfl (.move rfl rfl (.move rfl rfl (.lss rfl rfl rfl (.move rfl rfl (.guardF rfl rfl rfl hb11 (.guardF rfl rfl rfl hb11 (.guardF rfl rfl rfl hb11 (.guardF rfl rfl rfl hb11 (.guardF rfl rfl rfl hb11 (.guardF rfl rfl rfl hb11 (.guardF rfl rfl rfl hb11 (.guardF rfl rfl rfl hb11 (.pickF rfl hb11 rfl rfl (.assign rfl rfl (.assign rfl rfl (.nil ?_)))))))))))))))))
    have ej := Option.some.inj hx10
    subst ej
    refine thn_normal (Sub.env ⟨rfl, rfl, trivial⟩)
  ·refine AWP.ret ?_
   have ej := Option.some.inj h
   subst ej
   exact Done.ret rfl rfl
theorem slices_CompactFunc_int_int_w_ok {l : List (List Int)} {r : (List (List Int))} (h : slices_CompactFunc_int_int_w l = some r) : FnOk Tryd.prog 47 [.c (.own 0 0 l.length), .c (.fn 48 [])] (slices_CompactFunc_int_int_w_s0 l) (fun tt ss => tt = .c (.own 1 0 r.length) ∧ ss = [.dead, .one (vec 1 eLi64 r)]) := by
 refine FnOk.enter (rs := [.t 4]) Tryd.func47 rfl Tryd.ntmps47 Tryd.results47 rfl ⟨trivial, trivial⟩ (by kernel_rfl) rfl ?_
 refine AWP.weak ?_
 unfold slices_CompactFunc_int_int_w at h
 refine AWP.move (env' := [(0, .c (.own 1 0 l.length)), (1, .c (.fn 48 []))]) (σ' := [.dead, .one (vec 1 eLi64 l)]) 1 0 rfl rfl rfl ⟨rfl, rfl, trivial⟩ rfl ⟨trivial, ⟨Blk.im_ok _ _ _, vec_mv rfl⟩, trivial⟩ (.seq (.region (.assign rfl rfl (.nil (thn_normal (.seq (.seq (.region (.move rfl rfl (S.lenO rfl rfl rfl (fun hl9 => .lss rfl rfl rfl (.nil (thn_normal (.ite rfl h (fun hc53 h => ?_) (fun hc53 h => ?_)))))))))))))))
 ·refine AWP.seq (.region (.move rfl rfl (.assign rfl rfl (.nil (thn_normal (.ret (thn_ret ?_)))))))
  have ej := Option.some.inj h
  subst ej
  exact ⟨⟨[(4, .c (.own 1 0 l.length))], [.dead, .one (vec 1 eLi64 l)]⟩, Sub.env ⟨rfl, trivial⟩, Done.ret rfl ⟨rfl, rfl⟩⟩
 ·refine AWP.skip (thn_normal (.seq (.seq (.region (.assign rfl rfl (.nil (thn_normal (.block ?_))))))))
  obtain ⟨oo, ho1, h⟩ := bind_some h
  refine AWP.rngS ho1 (fun kv54 _ => ⟨[(0, .c (.own 1 0 l.length)), (1, .c (.fn 48 [])), (5, .c (int kv54))], [.dead, .one (vec 1 eLi64 l)]⟩) (fun o e st => match o with | .inl _ => e = .exit 0 ∧ Sub (slices_CompactFunc_int_int_w_s0 l) st ⟨[(0, .c (.own 1 0 l.length))], [.dead, .one (vec 1 eLi64 l)]⟩ | .inr x => e = .ret ∧ ∃ J, Sub (slices_CompactFunc_int_int_w_s0 l) st J ∧ Done [.t 4] (fun tt ss => tt = .c (.own 1 0 x.length) ∧ ss = [.dead, .one (vec 1 eLi64 x)]) .ret J) ?_ ?_ ?_ ?_
  ·try dsimp only
   exact Sub.env ⟨rfl, rfl, rfl, trivial⟩
  ·intro kv54 s hlokv54 hltkv54 _
   try dsimp only
   refine AWP.seq (.seq (.region (.move rfl rfl (.move rfl rfl (S.lenO rfl rfl rfl (fun hl14 => .lss rfl rfl rfl (.nil (thn_normal (.condNP rfl hltkv54 (.exit (thn_exit (thn_exit ⟨rfl, ?_⟩))))))))))))
   exact Sub.env ⟨rfl, trivial⟩
  ·intro kv54 s o hlokv54 hltkv54 h
   unfold slices_CompactFunc_int_int_w_l1 at h
   try dsimp only at h ⊢
   refine AWP.seq (.seq (.region (.move rfl rfl (.move rfl rfl (S.lenO rfl rfl rfl (fun hl14 => .lss rfl rfl rfl (.nil (thn_normal (.condP rfl hltkv54 (.skip (thn_normal (.seq (.block (.seq ?_))))))))))))))
   obtain ⟨a21, ha21, h⟩ := bind_some h
   obtain ⟨a26, ha26, h⟩ := bind_some h
   obtain ⟨a28, ha28, h⟩ := bind_some h
   refine AWP.drawI mixed rfl ?_
   apply DrawSeq.consF; exact rfl; intro E
   refine AOps.move rfl rfl (.nil ⟨rfl, rfl⟩)
   exact rfl
   apply DrawSeq.consF; exact rfl; intro E
   refine AOps.move rfl rfl (.nil ⟨rfl, rfl⟩)
   exact rfl
   apply DrawSeq.consF; exact rfl; intro E
   refine AOps.move rfl rfl (.nil ⟨rfl, rfl⟩)
   exact rfl
   apply DrawSeq.consF; exact rfl; intro E
   refine S.idxO ha21 rfl rfl rfl rfl rfl (.nil ⟨rfl, rfl⟩)
   exact rfl
   apply DrawSeq.consF; exact rfl; intro E
   refine S.loadO ha21 rfl rfl rfl rfl rfl (.nil ⟨rfl, rfl⟩)
   exact rfl
   apply DrawSeq.consF; exact rfl; intro E
   refine AOps.move rfl rfl (.nil ⟨rfl, rfl⟩)
   exact rfl
   apply DrawSeq.consF; exact rfl; intro E
   refine AOps.move rfl rfl (.nil ⟨rfl, rfl⟩)
   exact rfl
   apply DrawSeq.consF; exact rfl; intro E
   refine AOps.sub' rfl rfl rfl (by omega) (.nil ⟨rfl, rfl⟩)
   exact rfl
   apply DrawSeq.consF; exact rfl; intro E
   refine S.idxO ha26 rfl rfl rfl rfl rfl (.nil ⟨rfl, rfl⟩)
   exact rfl
   apply DrawSeq.consF; exact rfl; intro E
   refine S.loadO ha26 rfl rfl rfl rfl rfl (.nil ⟨rfl, rfl⟩)
   exact rfl
   apply DrawSeq.consF; exact rfl; intro E
   refine AOps.callR rfl rfl rfl rfl (slices_Equal_int_int_ok ha28) rfl (.nil ⟨rfl, rfl⟩)
   exact rfl
   refine DrawSeq.done ?_
   dsimp only [envEnd]
   refine thn_normal (.iteB rfl h (fun hc55 h => ?_) (fun hc55 h => ?_))
   ·refine AWP.seq ?_
    obtain ⟨u31, hu31, h⟩ := bind_some h
    refine AWP.region (.move rfl rfl (.move rfl rfl (S.vFrom (vw_full l) hu31 rfl rfl rfl rfl rfl rfl (.assign rfl rfl (.nil (thn_normal (.seq (.seq (.region (.assign rfl rfl (.nil (thn_normal (.block ?_)))))))))))))
    obtain ⟨⟨c56, kv57⟩, ho2, h⟩ := bind_some h
    try dsimp only at h
    refine AWP.forS ho2 (fun k258 (c56, kv57) => ⟨[(0, .c (.own 1 0 c56.length)), (1, .c (.fn 48 [])), (5, .c (int kv57)), (6, .c (.own 1 ((0 + kv54).toNat) (((l.length : Int) - kv54).toNat))), (7, .c (int k258))], [.dead, .one (vec 1 eLi64 c56)]⟩) (fun (c56, kv57) e st => e = .exit 2 ∧ Sub (slices_CompactFunc_int_int_w_s0 l) st ⟨[(0, .c (.own 1 0 c56.length)), (5, .c (int kv57))], [.dead, .one (vec 1 eLi64 c56)]⟩) ?_ ?_ ?_ ?_
    ·try dsimp only
     exact Sub.env ⟨rfl, rfl, rfl, rfl, rfl, trivial⟩
    ·intro k258 s hlok258 hltk258 _
     obtain ⟨c56, kv57⟩ := s
     try dsimp only
     refine AWP.seq (.seq (.region (.move rfl rfl (.move rfl rfl (S.lenV (vw_get (vw_cut (vw_full l) hu31)).2.1 rfl rfl rfl (fun hl34 => .lss rfl rfl rfl (.nil (thn_normal (.condNP rfl hltk258 (.exit (thn_exit (thn_exit ⟨rfl, ?_⟩))))))))))))
     exact Sub.env ⟨rfl, rfl, trivial⟩
    ·intro k258 s o hlok258 hltk258 h
     obtain ⟨c56, kv57⟩ := s
     unfold slices_CompactFunc_int_int_w_l2 at h
     try dsimp only at h ⊢
     refine AWP.seq (.seq (.region (.move rfl rfl (.move rfl rfl (S.lenV (vw_get (vw_cut (vw_full l) hu31)).2.1 rfl rfl rfl (fun hl34 => .lss rfl rfl rfl (.nil (thn_normal (.condP rfl hltk258 (.skip (thn_normal ?_)))))))))))
     obtain ⟨⟨c59, kv60⟩, hx61, h⟩ := bind_some h
     refine AWP.seqJ (⟨[(0, .c (.own 1 0 c59.length)), (1, .c (.fn 48 [])), (5, .c (int kv60)), (6, .c (.own 1 ((0 + kv54).toNat) (((l.length : Int) - kv54).toNat))), (7, .c (int k258))], [.dead, .one (vec 1 eLi64 c59)]⟩) ?_ ?_
     ·refine AWP.block (.seq ?_)
      obtain ⟨a41, ha41, hx61⟩ := bind_some hx61
      obtain ⟨a46, ha46, hx61⟩ := bind_some hx61
      obtain ⟨a48, ha48, hx61⟩ := bind_some hx61
      refine AWP.drawI mixed rfl ?_
      apply DrawSeq.consF; exact rfl; intro E
      refine AOps.move rfl rfl (.nil ⟨rfl, rfl⟩)
      exact rfl
      apply DrawSeq.consF; exact rfl; intro E
      refine AOps.move rfl rfl (.nil ⟨rfl, rfl⟩)
      exact rfl
      apply DrawSeq.consF; exact rfl; intro E
      refine AOps.move rfl rfl (.nil ⟨rfl, rfl⟩)
      exact rfl
      apply DrawSeq.consF; exact rfl; intro E
      refine S.idxV ha41 rfl rfl rfl rfl (.nil ⟨rfl, rfl⟩)
      exact rfl
      apply DrawSeq.consF; exact rfl; intro E
      refine S.loadO (ixV_ix ha41) rfl rfl rfl rfl rfl (.nil ⟨rfl, rfl⟩)
      exact rfl
      apply DrawSeq.consF; exact rfl; intro E
      refine AOps.move rfl rfl (.nil ⟨rfl, rfl⟩)
      exact rfl
      apply DrawSeq.consF; exact rfl; intro E
      refine AOps.move rfl rfl (.nil ⟨rfl, rfl⟩)
      exact rfl
      apply DrawSeq.consF; exact rfl; intro E
      refine AOps.sub' rfl rfl rfl (by omega) (.nil ⟨rfl, rfl⟩)
      exact rfl
      apply DrawSeq.consF; exact rfl; intro E
      refine S.idxV ha46 rfl rfl rfl rfl (.nil ⟨rfl, rfl⟩)
      exact rfl
      apply DrawSeq.consF; exact rfl; intro E
      refine S.loadO (ixV_ix ha46) rfl rfl rfl rfl rfl (.nil ⟨rfl, rfl⟩)
      exact rfl
      apply DrawSeq.consF; exact rfl; intro E
      refine AOps.callR rfl rfl rfl rfl (slices_Equal_int_int_ok ha48) rfl (.nil ⟨rfl, rfl⟩)
      exact rfl
      apply DrawSeq.consF; exact rfl; intro E
      refine AOps.not rfl rfl (.nil ⟨rfl, rfl⟩)
      exact rfl
      refine DrawSeq.done ?_
      dsimp only [envEnd]
      refine thn_normal (.iteB rfl hx61 (fun hc62 hx61 => ?_) (fun hc62 hx61 => ?_))
      ·refine AWP.seq ?_
       obtain ⟨a54, ha54, hx61⟩ := bind_some hx61
       obtain ⟨a56, ha56, hx61⟩ := bind_some hx61
       refine AWP.region (.move rfl rfl (.move rfl rfl (.move rfl rfl (.move rfl rfl (S.idxV ha54 rfl rfl rfl rfl (S.loadO (ixV_ix ha54) rfl rfl rfl rfl rfl (S.idxO ha56 rfl rfl rfl rfl rfl (S.storeO1 (f := eLi64) (a' := a54) (ix_lt ha56) (fun _ => ⟨_, rfl⟩) rfl rfl rfl rfl rfl ?_))))))))
       refine AOps.nil (thn_normal (.region (.move rfl rfl (S.add rfl rfl rfl (.assign rfl rfl (.nil (inB_normal ?_)))))))
       have ej := Option.some.inj hx61
       simp only [Prod.mk.injEq] at ej
       obtain ⟨ej0, ej1⟩ := ej
       subst ej0
       subst ej1
       refine thn_normal (Sub.env ⟨(own_len (by first | rfl | simp only [List.length_set])), rfl, rfl, rfl, rfl, trivial⟩)
      ·refine AWP.skip (inB_normal ?_)
       have ej := Option.some.inj hx61
       simp only [Prod.mk.injEq] at ej
       obtain ⟨ej0, ej1⟩ := ej
       subst ej0
       subst ej1
       refine thn_normal (Sub.env ⟨rfl, rfl, rfl, rfl, rfl, trivial⟩)
     ·try dsimp only at h
      refine AWP.region (.move rfl rfl (.add rfl rfl rfl (by omega) (.assign rfl rfl (.nil ?_))))
      have ej := Option.some.inj h
      subst ej
      refine thn_normal (Sub.env ⟨rfl, rfl, rfl, rfl, rfl, trivial⟩)
    ·intro e s hq
     obtain ⟨rfl, hs⟩ := hq
     refine ⟨_, hs, ?_⟩
     refine inB_exit (thn_normal (.seq ?_))
     obtain ⟨u61, hu61, h⟩ := bind_some h
     refine AWP.region (.move rfl rfl (.move rfl rfl (S.vFrom (vw_full c56) hu61 rfl rfl rfl rfl rfl rfl (S.clear (a0 := []) rfl rfl rfl (fun _ _ _ _ => .imm .slNil) (vw_cut (vw_full c56) hu61) rfl rfl rfl rfl rfl ?_))))
     refine AOps.nil (thn_normal (.seq ?_))
     obtain ⟨u64, hu64, h⟩ := bind_some h
     refine AWP.region (.move rfl rfl (.move rfl rfl ?_))
     refine S.vTo (vw_full (clrL c56 (0 + kv57) ((c56.length : Int) - kv57) [])) hu64 rfl rfl (by rw [Int.toNat_natCast]; exact (clrL_len (vw_cut (vw_full c56) hu61)).symm) rfl rfl rfl ?_
     refine AOps.assign rfl rfl (.nil (thn_normal (.reown (env' := [(4, .c (.own 2 0 ((viewL (clrL c56 (0 + kv57) ((c56.length : Int) - kv57) []) 0 kv57).length)))]) 4 (vw_to (vw_full (clrL c56 (0 + kv57) ((c56.length : Int) - kv57) [])) hu64) rfl rfl rfl rfl rfl rfl rfl rfl (by exact ⟨.inl ⟨rfl, rfl⟩, trivial⟩) (.ret (inB_ret (thn_ret ?_))))))
     have ej := Option.some.inj h
     subst ej
     refine thn_ret ⟨_, rfl, rfl, ?_⟩
     exact ⟨⟨[(4, .c (.own 1 0 ((viewL (clrL c56 (0 + kv57) ((c56.length : Int) - kv57) []) 0 kv57).length)))], [.dead, .one (vec 1 eLi64 (viewL (clrL c56 (0 + kv57) ((c56.length : Int) - kv57) []) 0 kv57))]⟩, (Sub.move (env' := [(4, .c (.own 1 0 ((viewL (clrL c56 (0 + kv57) ((c56.length : Int) - kv57) []) 0 kv57).length)))]) (σ' := [.dead, .one (vec 1 eLi64 (viewL (clrL c56 (0 + kv57) ((c56.length : Int) - kv57) []) 0 kv57))]) 1 2 rfl rfl rfl ⟨rfl, trivial⟩ rfl ⟨trivial, ⟨Blk.im_ok _ _ _, vec_mv rfl⟩, trivial⟩).trans (Sub.env ⟨rfl, trivial⟩), Done.ret rfl ⟨rfl, rfl⟩⟩
   ·refine AWP.skip (inB_normal (thn_normal (.region (.move rfl rfl (.add rfl rfl rfl (by omega) (.assign rfl rfl (.nil ?_)))))))
    have ej := Option.some.inj h
    subst ej
    refine thn_normal ⟨_, rfl, ?_⟩
    exact Sub.env ⟨rfl, rfl, rfl, trivial⟩
  ·intro e s hq
   rcases oo with u | x
   ·try dsimp only at h hq
    obtain ⟨rfl, hs⟩ := hq
    refine ⟨_, hs, ?_⟩
    refine inB_exit (thn_normal (.seq (.region (.move rfl rfl (.assign rfl rfl (.nil (thn_normal (.ret ?_))))))))
    have ej := Option.some.inj h
    subst ej
    exact ⟨⟨[(4, .c (.own 1 0 l.length))], [.dead, .one (vec 1 eLi64 l)]⟩, Sub.env ⟨rfl, trivial⟩, Done.ret rfl ⟨rfl, rfl⟩⟩
   ·try dsimp only at h hq
    obtain ⟨rfl, hs⟩ := hq
    refine ⟨_, Sub.refl _ _, ?_⟩
    refine inB_ret (thn_ret ?_)
    have ej := Option.some.inj h
    subst ej
    exact hs
theorem belief_Normal_w_ok {l : List (List Int)} {r : (List (List Int))} (h : belief_Normal_w l = some r) : FnOk Tryd.prog 37 [.c (.own 0 0 l.length)] (belief_Normal_w_s0 l) (fun tt ss => tt = .c (.own 2 0 r.length) ∧ ss = [.dead, .dead, .one (vec 1 eLi64 r)]) := by
 refine FnOk.enter (rs := [.t 2]) Tryd.func37 rfl Tryd.ntmps37 Tryd.results37 rfl ⟨trivial, trivial⟩ (by kernel_rfl) rfl ?_
 refine AWP.weak ?_
 unfold belief_Normal_w at h
 refine AWP.move (env' := [(0, .c (.own 1 0 l.length))]) (σ' := [.dead, .one (vec 1 eLi64 l)]) 1 0 rfl rfl rfl ⟨rfl, trivial⟩ rfl ⟨trivial, ⟨Blk.im_ok _ _ _, vec_mv rfl⟩, trivial⟩ (.seq (.region (.assign rfl rfl (.nil (thn_normal (.seq ?_))))))
 obtain ⟨a4, ha4, h⟩ := bind_some h
 refine AWP.region (.move rfl rfl (S.sortF (fun x => .sl 1 (List.map intI x)) ha4 rfl (fun hy => slices_Compare_int_int_ok hy) sortF_LLi64_ok (⟨_, Tryd.func42, rfl, rfl⟩) rfl rfl rfl rfl rfl rfl ?_))
 refine AOps.nil (thn_normal (.seq ?_))
 obtain ⟨a6, ha6, h⟩ := bind_some h
 refine AWP.region (.move rfl rfl ?_)
 refine AOps.callF (r2 := .c (.own 2 0 a6.length)) (σ'' := [.dead, .dead, .one (vec 1 eLi64 a6)]) rfl rfl rfl (FnOk.lend [1] (slices_CompactFunc_int_int_w_ok ha6) rfl rfl rfl rfl rfl rfl (by exact ⟨.vec, trivial⟩) (by rw [(sortFL_len ha4)] <;> rfl) (by exact ⟨(.live rfl .vec), trivial⟩) rfl rfl (by exact ⟨.dead, .dead, (.new 1 rfl rfl .vec), trivial⟩)) ?_
 refine AOps.assign rfl rfl (.nil (thn_normal (.ret ?_)))
 have ej := Option.some.inj h
 subst ej
 exact ⟨⟨[(2, .c (.own 2 0 a6.length))], [.dead, .dead, .one (vec 1 eLi64 a6)]⟩, Sub.env ⟨rfl, trivial⟩, Done.ret rfl ⟨rfl, rfl⟩⟩
theorem open_Results_ok {ov : TOpenTask} {sv : List Int} {op : Int} {r : (List (List Int)) × (List Int)} (h : open_Results ov sv op = some r) : PureOk Tryd.prog 27 [.agg [int ov.facts, row 1 intI ov.init, row 1 intI ov.goal, row 3 eTOpenOperator ov.operators], .c (row 1 intI sv), .c (int op)] (.tup [.c (row 1 eLi64 r.1), .c (row 1 intI r.2)]) := by
 unfold PureOk
 refine FnOk.enter (rs := [.t 6, .t 7]) Tryd.func27 rfl Tryd.ntmps27 Tryd.results27 rfl ⟨trivial, trivial, trivial⟩ (by kernel_rfl) rfl ?_
 unfold open_Results at h
 refine AWP.seq (.region (W.box rfl rfl rfl rfl rfl rfl (.assign rfl rfl (.assign rfl rfl (.nil (thn_normal (.seq (.region (.assign rfl rfl (.nil (thn_normal (.seq (.seq ?_)))))))))))))
 obtain ⟨a20, ha20, h⟩ := bind_some h
 refine AWP.region (W.fieldAddr rfl rfl rfl rfl (.load rfl rfl rfl rfl rfl rfl (.move rfl rfl (S.idx ha20 rfl rfl rfl rfl (W.fieldAddrI rfl rfl rfl rfl (.loadI rfl rfl rfl rfl (S.len rfl rfl (fun hl23 => .move rfl rfl (.nil (thn_normal (.block (.virtV 1 eLi64 8 rfl rfl rfl ?_))))))))))))
 obtain ⟨c4, ho1, h⟩ := bind_some h
 refine AWP.forS ho1 (fun t5 c4 => ⟨[(1, .c (row 1 intI sv)), (2, .c (int op)), (3, .c (.ptr 0 0 0)), (8, .c (.own 1 0 c4.length)), (22, .c (row 3 eTOutcome a20.outcomes)), (23, .c (int (a20.outcomes.length : Int))), (24, .c (int t5))], [.one (.cells 4 [[int ov.facts, row 1 intI ov.init, row 1 intI ov.goal, row 3 eTOpenOperator ov.operators]]), .one (vec 1 eLi64 c4)]⟩) (fun c4 e st => e = .exit 0 ∧ Sub [] st ⟨[(2, .c (int op)), (3, .c (.ptr 0 0 0)), (8, .c (.own 1 0 c4.length))], [.one (.cells 4 [[int ov.facts, row 1 intI ov.init, row 1 intI ov.goal, row 3 eTOpenOperator ov.operators]]), .one (vec 1 eLi64 c4)]⟩) ?_ ?_ ?_ ?_
 ·try dsimp only
  exact Sub.env ⟨rfl, rfl, rfl, (own_len (by first | rfl | simp only [List.length_set])), rfl, rfl, rfl, trivial⟩
 ·intro t5 c4 hlot5 hltt5 _
  try dsimp only
  refine AWP.seq (.region (.lss rfl rfl rfl (.nil (thn_normal (.seq (.condNP rfl hltt5 (.exit (thn_exit (thn_exit ⟨rfl, ?_⟩)))))))))
  exact Sub.env ⟨rfl, rfl, rfl, trivial⟩
 ·intro t5 c4 o hlot5 hltt5 h
  unfold open_Results_l1 at h
  try dsimp only at h ⊢
  refine AWP.seq (.region (.lss rfl rfl rfl (.nil (thn_normal (.seq (.condP rfl hltt5 (.skip (thn_normal (.seq (.block (.seq ?_)))))))))))
  obtain ⟨a26, ha26, h⟩ := bind_some h
  refine AWP.region (S.idx ha26 rfl rfl rfl rfl (W.loadIAgg rfl rfl rfl rfl rfl (W.alloc rfl rfl rfl rfl (W.storeAgg rfl rfl rfl rfl rfl rfl rfl (.nil (thn_normal ?_))))))
  obtain ⟨a34, ha34, h⟩ := bind_some h
  obtain ⟨a36, ha36, h⟩ := bind_some h
  refine AWP.region (.move rfl rfl (.move rfl rfl (W.fieldAddr rfl rfl rfl rfl (.load rfl rfl rfl rfl rfl rfl (W.fieldAddr rfl rfl rfl rfl (.load rfl rfl rfl rfl rfl rfl (S.fresh rfl rfl rfl rfl (strips_Update_ok ha34) rfl rfl (.frzV (id := 3) (l := a34) (env2 := [(1, .c (row 1 intI sv)), (2, .c (int op)), (3, .c (.ptr 0 0 0)), (22, .c (row 3 eTOutcome a20.outcomes)), (23, .c (int (a20.outcomes.length : Int))), (24, .c (int t5)), (28, .c (.own 1 0 c4.length)), (34, .c (row 1 intI a34))]) (σ2 := [.one (.cells 4 [[int ov.facts, row 1 intI ov.init, row 1 intI ov.goal, row 3 eTOpenOperator ov.operators]]), .one (vec 1 eLi64 c4), .one (.cells 3 [[row 1 intI a26.add, row 1 intI a26.del, int a26.weight]]), .dead]) rfl rfl (by exact ⟨⟨_, rfl, .inl ⟨rfl, rfl⟩⟩, ⟨_, rfl, .inl ⟨rfl, rfl⟩⟩, ⟨_, rfl, .inl ⟨rfl, rfl⟩⟩, ⟨_, rfl, .inl ⟨rfl, rfl⟩⟩, ⟨_, rfl, .inl ⟨rfl, rfl⟩⟩, ⟨_, rfl, .inl ⟨rfl, rfl⟩⟩, ⟨_, rfl, .inl ⟨rfl, rfl⟩⟩, ⟨_, rfl, .inr ⟨_, rfl, rfl, rfl⟩⟩, trivial⟩) rfl (by exact ⟨⟨rfl, .inl ⟨rfl, rfl⟩, .inl ⟨rfl, rfl⟩, .inl ⟨rfl, rfl⟩, .inl ⟨rfl, rfl⟩, trivial⟩, FrzB.vec, ⟨rfl, .inl ⟨rfl, rfl⟩, .inl ⟨rfl, rfl⟩, .inl ⟨rfl, rfl⟩, trivial⟩, trivial, trivial⟩) (S.lit (f := eLi64) (l := [a34]) (ess := [[row 1 intI a34]]) rfl rfl rfl rfl rfl rfl rfl ⟨⟨.inl rfl, trivial⟩, trivial⟩ rfl rfl rfl (S.append (f := eLi64) ha36 rfl rfl rfl rfl rfl rfl (.own rfl rfl) rfl rfl rfl rfl (.assign rfl rfl (.nil (inB_normal (thn_normal (.move (env' := [(1, .c (row 1 intI sv)), (2, .c (int op)), (3, .c (.ptr 0 0 0)), (8, .c (.own 1 0 a36.length)), (22, .c (row 3 eTOutcome a20.outcomes)), (23, .c (int (a20.outcomes.length : Int))), (24, .c (int t5))]) (σ' := [.one (.cells 4 [[int ov.facts, row 1 intI ov.init, row 1 intI ov.goal, row 3 eTOpenOperator ov.operators]]), .one (vec 1 eLi64 a36), .one (.cells 3 [[row 1 intI a26.add, row 1 intI a26.del, int a26.weight]]), .dead, .one (vec 1 eLi64 [a34])]) 1 5 rfl rfl rfl ⟨rfl, rfl, rfl, rfl, rfl, rfl, rfl, trivial⟩ rfl ⟨⟨rfl, rfl⟩, ⟨Blk.im_ok _ _ _, vec_mv rfl⟩, ⟨rfl, rfl⟩, trivial, ⟨Blk.im_ok _ _ _, vec_mv rfl⟩, trivial⟩ (.region (.add rfl rfl rfl (by omega) (.move rfl rfl (.nil ?_)))))))))))))))))))
  have ej := Option.some.inj h
  subst ej
  refine thn_normal (Sub.cut ⟨rfl, rfl, rfl, rfl, rfl, rfl, rfl, trivial⟩ rfl ⟨.one rfl, .vec, trivial⟩ rfl)
 ·intro e s hq
  obtain ⟨rfl, hs⟩ := hq
  refine ⟨_, hs, ?_⟩
  refine inB_exit (thn_normal (.seq ?_))
  obtain ⟨a39, ha39, h⟩ := bind_some h
  obtain ⟨a40, ha40, h⟩ := bind_some h
  refine AWP.region (.move rfl rfl (.frzV (id := 1) (l := c4) (env2 := [(2, .c (int op)), (3, .c (.ptr 0 0 0)), (8, .c (row 1 eLi64 c4)), (38, .c (row 1 eLi64 c4))]) (σ2 := [.one (.cells 4 [[int ov.facts, row 1 intI ov.init, row 1 intI ov.goal, row 3 eTOpenOperator ov.operators]]), .dead]) rfl rfl (by exact ⟨⟨_, rfl, .inl ⟨rfl, rfl⟩⟩, ⟨_, rfl, .inl ⟨rfl, rfl⟩⟩, ⟨_, rfl, .inr ⟨_, rfl, rfl, rfl⟩⟩, ⟨_, rfl, .inr ⟨_, rfl, rfl, rfl⟩⟩, trivial⟩) rfl (by exact ⟨⟨rfl, .inl ⟨rfl, rfl⟩, .inl ⟨rfl, rfl⟩, .inl ⟨rfl, rfl⟩, .inl ⟨rfl, rfl⟩, trivial⟩, trivial, trivial⟩) (S.fresh rfl rfl rfl rfl (slices_Clone_Lint_int_ok ha39) rfl rfl (.callF (r2 := .c (.own 4 0 a40.length)) (σ'' := [.one (.cells 4 [[int ov.facts, row 1 intI ov.init, row 1 intI ov.goal, row 3 eTOpenOperator ov.operators]]), .dead, .dead, .dead, .one (vec 1 eLi64 a40)]) rfl rfl rfl (FnOk.lend [2] (belief_Normal_w_ok ha40) rfl rfl rfl rfl rfl rfl (by exact ⟨.vec, trivial⟩) rfl (by exact ⟨(.live rfl .vec), trivial⟩) rfl rfl (by exact ⟨(.old rfl rfl rfl), .dead, .dead, .dead, (.new 2 rfl rfl .vec), trivial⟩)) (.assign rfl rfl (.nil (thn_normal (.seq ?_))))))))
  obtain ⟨a43, ha43, h⟩ := bind_some h
  refine AWP.region (.move rfl rfl (S.lenO rfl rfl rfl (fun hl42 => S.make (f := intI) ha43 (.val .nil) rfl rfl rfl rfl rfl rfl (.assign rfl rfl (.nil (thn_normal (.seq (.seq ?_))))))))
  obtain ⟨a47, ha47, h⟩ := bind_some h
  refine AWP.region (W.fieldAddr rfl rfl rfl rfl (.load rfl rfl rfl rfl rfl rfl (.move rfl rfl (S.idx ha47 rfl rfl rfl rfl (W.fieldAddrI rfl rfl rfl rfl (.loadI rfl rfl rfl rfl (S.len rfl rfl (fun hl50 => .move rfl rfl (.nil (thn_normal (.block ?_)))))))))))
  obtain ⟨c6, ho2, h⟩ := bind_some h
  refine AWP.forS ho2 (fun t7 c6 => ⟨[(8, .c (row 1 eLi64 c4)), (11, .c (.own 4 0 a40.length)), (12, .c (.own 5 0 c6.length)), (49, .c (row 3 eTOutcome a47.outcomes)), (50, .c (int (a47.outcomes.length : Int))), (51, .c (int t7))], [.dead, .dead, .dead, .dead, .one (vec 1 eLi64 a40), .one (vec 1 intI c6)]⟩) (fun c6 e st => e = .exit 2 ∧ Sub [] st ⟨[(11, .c (.own 4 0 a40.length)), (12, .c (.own 5 0 c6.length))], [.dead, .dead, .dead, .dead, .one (vec 1 eLi64 a40), .one (vec 1 intI c6)]⟩) ?_ ?_ ?_ ?_
  ·try dsimp only
   exact Sub.cut ⟨rfl, rfl, rfl, rfl, rfl, rfl, trivial⟩ rfl ⟨.dead, .dead, .dead, .dead, .vec, .vec, trivial⟩ rfl
  ·intro t7 c6 hlot7 hltt7 _
   try dsimp only
   refine AWP.seq (.region (.lss rfl rfl rfl (.nil (thn_normal (.seq (.condNP rfl hltt7 (.exit (thn_exit (thn_exit ⟨rfl, ?_⟩)))))))))
   exact Sub.env ⟨rfl, rfl, trivial⟩
  ·intro t7 c6 o hlot7 hltt7 h
   unfold open_Results_l2 at h
   try dsimp only at h ⊢
   refine AWP.seq (.region (.lss rfl rfl rfl (.nil (thn_normal (.seq (.condP rfl hltt7 (.skip (thn_normal (.seq (.block (.seq ?_)))))))))))
   obtain ⟨a54, ha54, h⟩ := bind_some h
   refine AWP.region (.move rfl rfl (S.idx ha54 rfl rfl rfl rfl (W.loadIAgg rfl rfl rfl rfl rfl (W.alloc rfl rfl rfl rfl (.assign rfl rfl (W.storeAgg rfl rfl rfl rfl rfl rfl rfl (.nil (thn_normal (.seq ?_)))))))))
   obtain ⟨a60, ha60, h⟩ := bind_some h
   obtain ⟨a62, ha62, h⟩ := bind_some h
   refine AWP.region (.move rfl rfl (.move rfl rfl (.move rfl rfl (S.idx ha60 rfl rfl rfl rfl (.loadI rfl rfl rfl rfl (.callL rfl rfl (.cons (.c (.own rfl rfl)) (.cons (.c .imm) (.cons (.c (.fn .nil)) .nil))) rfl (slices_BinarySearchFunc_int_int_int_ok rfl (fun hy => slices_Compare_int_int_ok hy) ha62) rfl ?_))))))
   refine AOps.move rfl rfl (.extract rfl rfl rfl (.extract rfl rfl rfl (.assign rfl rfl (.assign rfl rfl (.nil (thn_normal ?_))))))
   obtain ⟨a67, ha67, h⟩ := bind_some h
   obtain ⟨a72, ha72, h⟩ := bind_some h
   refine AWP.drawEI [8] mixed rfl rfl rfl ?_
   apply DrawSeqE.consN; exact rfl; exact rfl; intro E
   refine AOps.move rfl rfl (.nil ⟨rfl, rfl⟩)
   exact rfl
   apply DrawSeqE.consN; exact rfl; exact rfl; intro E
   refine AOps.move rfl rfl (.nil ⟨rfl, rfl⟩)
   exact rfl
   apply DrawSeqE.consN; exact rfl; exact rfl; intro E
   refine S.idxO ha67 rfl rfl rfl rfl rfl (.nil ⟨rfl, rfl⟩)
   exact rfl
   apply DrawSeqE.consN; exact rfl; exact rfl; intro E
   refine S.loadO ha67 rfl rfl rfl rfl rfl (.nil ⟨rfl, rfl⟩)
   exact rfl
   apply DrawSeqE.consN; exact rfl; exact rfl; intro E
   refine W.fieldAddr rfl rfl rfl rfl (.nil ⟨rfl, rfl⟩)
   exact rfl
   apply DrawSeqE.consN; exact rfl; exact rfl; intro E
   refine AOps.load rfl rfl rfl rfl rfl rfl (.nil ⟨rfl, rfl⟩)
   exact rfl
   apply DrawSeqE.consN; exact rfl; exact rfl; intro E
   refine S.add rfl rfl rfl (.nil ⟨rfl, rfl⟩)
   exact rfl
   apply DrawSeqE.consN; exact rfl; exact rfl; intro E
   refine S.idxO ha72 rfl rfl rfl rfl rfl (.nil ⟨rfl, rfl⟩)
   exact rfl
   apply DrawSeqE.consE (v := .undef); exact rfl; exact rfl; intro E
   refine S.storeO1 (f := intI) (a' := w64 (a67 + a54.weight)) (ix_lt ha72) (fun _ => ⟨_, rfl⟩) rfl rfl rfl rfl rfl ?_
   exact AOps.nil ⟨rfl, rfl⟩
   exact rfl
   exact rfl
   refine DrawSeqE.done rfl ?_ ?_
   ·apply RestI.cons; exact rfl; exact rfl
    first | refine RestK.skip rfl ?_ | (apply RestK.go; exact rfl; exact rfl; intro E; (refine AOps.move rfl rfl ?_); exact AOps.nil ⟨rfl, rfl⟩)
    first | refine RestK.skip rfl ?_ | (apply RestK.go; exact rfl; exact rfl; intro E; (refine AOps.move rfl rfl ?_); exact AOps.nil ⟨rfl, rfl⟩)
    exact RestK.nil
    apply RestI.cons; exact rfl; exact rfl
    first | refine RestK.skip rfl ?_ | (apply RestK.go; exact rfl; exact rfl; intro E; (refine AOps.move rfl rfl ?_); exact AOps.nil ⟨rfl, rfl⟩)
    first | refine RestK.skip rfl ?_ | (apply RestK.go; exact rfl; exact rfl; intro E; (refine AOps.move rfl rfl ?_); exact AOps.nil ⟨rfl, rfl⟩)
    exact RestK.nil
    apply RestI.cons; exact rfl; exact rfl
    first | refine RestK.skip rfl ?_ | (apply RestK.go; exact rfl; exact rfl; intro E; (refine S.idxO ha67 rfl rfl rfl rfl rfl ?_); exact AOps.nil ⟨rfl, rfl⟩)
    first | refine RestK.skip rfl ?_ | (apply RestK.go; exact rfl; exact rfl; intro E; (refine S.idxO ha67 rfl rfl rfl rfl rfl ?_); exact AOps.nil ⟨rfl, rfl⟩)
    exact RestK.nil
    apply RestI.cons; exact rfl; exact rfl
    first | refine RestK.skip rfl ?_ | (apply RestK.go; exact rfl; exact rfl; intro E; (refine S.loadO ha67 rfl rfl rfl rfl rfl ?_); exact AOps.nil ⟨rfl, rfl⟩)
    first | refine RestK.skip rfl ?_ | (apply RestK.go; exact rfl; exact rfl; intro E; (refine S.loadO ha67 rfl rfl rfl rfl rfl ?_); exact AOps.nil ⟨rfl, rfl⟩)
    exact RestK.nil
    apply RestI.cons; exact rfl; exact rfl
    first | refine RestK.skip rfl ?_ | (apply RestK.go; exact rfl; exact rfl; intro E; (refine W.fieldAddr rfl rfl rfl rfl ?_); exact AOps.nil ⟨rfl, rfl⟩)
    first | refine RestK.skip rfl ?_ | (apply RestK.go; exact rfl; exact rfl; intro E; (refine W.fieldAddr rfl rfl rfl rfl ?_); exact AOps.nil ⟨rfl, rfl⟩)
    exact RestK.nil
    apply RestI.cons; exact rfl; exact rfl
    first | refine RestK.skip rfl ?_ | (apply RestK.go; exact rfl; exact rfl; intro E; (refine AOps.load rfl rfl rfl rfl rfl rfl ?_); exact AOps.nil ⟨rfl, rfl⟩)
    first | refine RestK.skip rfl ?_ | (apply RestK.go; exact rfl; exact rfl; intro E; (refine AOps.load rfl rfl rfl rfl rfl rfl ?_); exact AOps.nil ⟨rfl, rfl⟩)
    exact RestK.nil
    apply RestI.cons; exact rfl; exact rfl
    first | refine RestK.skip rfl ?_ | (apply RestK.go; exact rfl; exact rfl; intro E; (refine S.add rfl rfl rfl ?_); exact AOps.nil ⟨rfl, rfl⟩)
    first | refine RestK.skip rfl ?_ | (apply RestK.go; exact rfl; exact rfl; intro E; (refine S.add rfl rfl rfl ?_); exact AOps.nil ⟨rfl, rfl⟩)
    exact RestK.nil
    apply RestI.cons; exact rfl; exact rfl
    first | refine RestK.skip rfl ?_ | (apply RestK.go; exact rfl; exact rfl; intro E; (refine S.idxO ha72 rfl rfl rfl rfl rfl ?_); exact AOps.nil ⟨rfl, rfl⟩)
    first | refine RestK.skip rfl ?_ | (apply RestK.go; exact rfl; exact rfl; intro E; (refine S.idxO ha72 rfl rfl rfl rfl rfl ?_); exact AOps.nil ⟨rfl, rfl⟩)
    exact RestK.nil
    refine RestI.skip rfl (RestI.nil)
   dsimp only [envEnd]
   refine inB_normal (thn_normal (.region (.add rfl rfl rfl (by omega) (.move rfl rfl (.nil ?_)))))
   have ej := Option.some.inj h
   subst ej
   refine thn_normal (Sub.cut ⟨rfl, rfl, (own_len (by first | rfl | simp only [List.length_set])), rfl, rfl, rfl, trivial⟩ rfl ⟨.dead, .dead, .dead, .dead, .vec, .vec, trivial⟩ rfl)
  ·intro e s hq
   obtain ⟨rfl, hs⟩ := hq
   refine ⟨_, hs, ?_⟩
   refine inB_exit (thn_normal (.seq (.region (.move rfl rfl (.move rfl rfl (.assign rfl rfl (.assign rfl rfl (.nil (thn_normal (.frzV (id := 4) (l := a40) (env2 := [(6, .c (row 1 eLi64 a40)), (7, .c (.own 5 0 c6.length))]) (σ2 := [.dead, .dead, .dead, .dead, .dead, .one (vec 1 intI c6)]) rfl rfl (by exact ⟨⟨_, rfl, .inr ⟨_, rfl, rfl, rfl⟩⟩, ⟨_, rfl, .inl ⟨rfl, rfl⟩⟩, trivial⟩) rfl (by exact ⟨trivial, trivial, trivial, trivial, trivial, FrzB.vec, trivial⟩) (.frzV (id := 5) (l := c6) (env2 := [(6, .c (row 1 eLi64 a40)), (7, .c (row 1 intI c6))]) (σ2 := [.dead, .dead, .dead, .dead, .dead, .dead]) rfl rfl (by exact ⟨⟨_, rfl, .inl ⟨rfl, rfl⟩⟩, ⟨_, rfl, .inr ⟨_, rfl, rfl, rfl⟩⟩, trivial⟩) rfl (by exact ⟨trivial, trivial, trivial, trivial, trivial, trivial, trivial⟩) (.ret ?_))))))))))))
   have ej := Option.some.inj h
   subst ej
   exact Done.ret rfl rfl
theorem open_Reach_ok {ov : TOpenTask} {r : (List (List Int)) × Bool} (h : open_Reach ov = some r) : PureOk Tryd.prog 22 [.agg [int ov.facts, row 1 intI ov.init, row 1 intI ov.goal, row 3 eTOpenOperator ov.operators]] (.tup [.c (row 1 eLi64 r.1), .c (bool r.2)]) := by
 unfold PureOk
 refine FnOk.enter (rs := [.t 2, .t 3]) Tryd.func22 rfl Tryd.ntmps22 Tryd.results22 rfl ⟨trivial, trivial, trivial⟩ (by kernel_rfl) rfl ?_
 unfold open_Reach at h
 refine AWP.seq (.region (W.box rfl rfl rfl rfl rfl rfl (.assign rfl rfl (.assign rfl rfl (.nil (thn_normal (.seq ?_)))))))
 obtain ⟨a15, ha15, h⟩ := bind_some h
 refine AWP.region (W.fieldAddr rfl rfl rfl rfl (.load rfl rfl rfl rfl rfl rfl (S.fresh rfl rfl rfl rfl (slices_Clone_int_int_ok ha15) rfl rfl (.frzV (id := 1) (l := a15) (env2 := [(1, .c (.ptr 0 0 0)), (15, .c (row 1 intI a15))]) (σ2 := [.one (.cells 4 [[int ov.facts, row 1 intI ov.init, row 1 intI ov.goal, row 3 eTOpenOperator ov.operators]]), .dead]) rfl rfl (by exact ⟨⟨_, rfl, .inl ⟨rfl, rfl⟩⟩, ⟨_, rfl, .inr ⟨_, rfl, rfl, rfl⟩⟩, trivial⟩) rfl (by exact ⟨⟨rfl, .inl ⟨rfl, rfl⟩, .inl ⟨rfl, rfl⟩, .inl ⟨rfl, rfl⟩, .inl ⟨rfl, rfl⟩, trivial⟩, trivial, trivial⟩) (S.lit (f := eLi64) (l := [a15]) (ess := [[row 1 intI a15]]) rfl rfl rfl rfl rfl rfl rfl ⟨⟨.inl rfl, trivial⟩, trivial⟩ rfl rfl rfl (.assign rfl rfl (.nil (thn_normal (.seq ?_)))))))))
 obtain ⟨a19, ha19, h⟩ := bind_some h
 refine AWP.region (W.makeMap Value.string (Value.int .i64) rfl rfl rfl (.move rfl rfl (.callL rfl rfl (.cons (.c (.own rfl rfl)) .nil) rfl (belief_Key_ok ha19) rfl (W.insert (fk := Value.string) (fv := (Value.int .i64)) (k := a19) (a := 1) keyStr rfl rfl rfl rfl rfl (.move rfl rfl (.assign rfl rfl (.nil (thn_normal (.seq (.seq (.region (.assign rfl rfl (.nil (thn_normal (.block ?_)))))))))))))))
 obtain ⟨oo, ho1, h⟩ := bind_some h
 refine AWP.loopS ho1 (fun (c2, c3, atv4) => ⟨[(1, .c (.ptr 0 0 0)), (4, .c (.own 2 0 c2.length)), (5, .c (.map 3)), (6, .c (int atv4))], [.one (.cells 4 [[int ov.facts, row 1 intI ov.init, row 1 intI ov.goal, row 3 eTOpenOperator ov.operators]]), .dead, .one (vec 1 eLi64 c2), .one (mapB Value.string (Value.int .i64) c3)]⟩) (fun o e st => match o with | .inl c5 => e = .exit 0 ∧ Sub [] st ⟨[(4, .c (.own 2 0 c5.length))], [.dead, .dead, .one (vec 1 eLi64 c5)]⟩ | .inr x => e = .ret ∧ Done [.t 2, .t 3] (fun t _ => t = .tup [.c (row 1 eLi64 x.1), .c (bool x.2)]) .ret st) ?_ ?_ ?_
 ·try dsimp only
  exact Sub.env ⟨rfl, rfl, rfl, rfl, trivial⟩
 ·intro s o h
  obtain ⟨c2, c3, atv4⟩ := s
  unfold open_Reach_l1 at h
  try dsimp only at h ⊢
  refine AWP.seq (.seq (.region (.move rfl rfl (.move rfl rfl (S.lenO rfl rfl rfl (fun hl23 => .lss rfl rfl rfl (.nil (thn_normal (.ite rfl h (fun hc6 h => ?_) (fun hc6 h => ?_))))))))))
  ·refine AWP.skip (thn_normal (.seq (.block (.seq (.region (W.fieldAddr rfl rfl rfl rfl (.load rfl rfl rfl rfl rfl rfl (S.len rfl rfl (fun hl29 => .move rfl rfl (.nil (thn_normal (.block ?_))))))))))))
   obtain ⟨oo, ho2, h⟩ := bind_some h
   refine AWP.rngS ho2 (fun t9 (c7, c8) => ⟨[(1, .c (.ptr 0 0 0)), (4, .c (.own 2 0 c7.length)), (5, .c (.map 3)), (6, .c (int atv4)), (29, .c (int (ov.operators.length : Int))), (30, .c (int t9))], [.one (.cells 4 [[int ov.facts, row 1 intI ov.init, row 1 intI ov.goal, row 3 eTOpenOperator ov.operators]]), .dead, .one (vec 1 eLi64 c7), .one (mapB Value.string (Value.int .i64) c8)]⟩) (fun o e st => match o with | .inl (c7, c8) => e = .exit 2 ∧ Sub [] st ⟨[(1, .c (.ptr 0 0 0)), (4, .c (.own 2 0 c7.length)), (5, .c (.map 3)), (6, .c (int atv4))], [.one (.cells 4 [[int ov.facts, row 1 intI ov.init, row 1 intI ov.goal, row 3 eTOpenOperator ov.operators]]), .dead, .one (vec 1 eLi64 c7), .one (mapB Value.string (Value.int .i64) c8)]⟩ | .inr x => e = .ret ∧ Done [.t 2, .t 3] (fun t _ => t = .tup [.c (row 1 eLi64 x.1), .c (bool x.2)]) .ret st) ?_ ?_ ?_ ?_
   ·try dsimp only
    exact Sub.env ⟨rfl, rfl, rfl, rfl, rfl, rfl, trivial⟩
   ·intro t9 s hlot9 hltt9 _
    obtain ⟨c7, c8⟩ := s
    try dsimp only
    refine AWP.seq (.region (.lss rfl rfl rfl (.nil (thn_normal (.seq (.condNP rfl hltt9 (.exit (thn_exit (thn_exit ⟨rfl, ?_⟩)))))))))
    exact Sub.env ⟨rfl, rfl, rfl, rfl, trivial⟩
   ·intro t9 s o hlot9 hltt9 h
    obtain ⟨c7, c8⟩ := s
    unfold open_Reach_l2 at h
    try dsimp only at h ⊢
    refine AWP.seq (.region (.lss rfl rfl rfl (.nil (thn_normal (.seq (.condP rfl hltt9 (.skip (thn_normal (.seqF (open_Reach_j3) o (fun (c10, c11) => ⟨[(1, .c (.ptr 0 0 0)), (4, .c (.own 2 0 c10.length)), (5, .c (.map 3)), (6, .c (int atv4)), (29, .c (int (ov.operators.length : Int))), (30, .c (int t9))], [.one (.cells 4 [[int ov.facts, row 1 intI ov.init, row 1 intI ov.goal, row 3 eTOpenOperator ov.operators]]), .dead, .one (vec 1 eLi64 c10), .one (mapB Value.string (Value.int .i64) c11)]⟩) (fun x h => ?_) ?_)))))))))
    ·obtain ⟨c10, c11⟩ := x
     unfold open_Reach_j3 at h
     try dsimp only at h ⊢
     refine AWP.region (.add rfl rfl rfl (by omega) (.move rfl rfl (.nil ?_)))
     have ej := Option.some.inj h
     subst ej
     refine thn_normal ⟨_, rfl, ?_⟩
     exact Sub.env ⟨rfl, rfl, rfl, rfl, rfl, rfl, trivial⟩
    ·refine AWP.block (.seq (.region (.move rfl rfl (.assign rfl rfl (.nil (thn_normal (.seq (.seq ?_))))))))
     obtain ⟨a36, ha36, h⟩ := bind_some h
     obtain ⟨a39, ha39, h⟩ := bind_some h
     refine AWP.drawI mixed rfl ?_
     apply DrawSeq.consF; exact rfl; intro E
     refine W.loadAgg rfl rfl rfl rfl rfl rfl rfl (.nil ⟨rfl, rfl⟩)
     exact rfl
     apply DrawSeq.consF; exact rfl; intro E
     refine AOps.move rfl rfl (.nil ⟨rfl, rfl⟩)
     exact rfl
     apply DrawSeq.consF; exact rfl; intro E
     refine AOps.move rfl rfl (.nil ⟨rfl, rfl⟩)
     exact rfl
     apply DrawSeq.consF; exact rfl; intro E
     refine S.idxO ha36 rfl rfl rfl rfl rfl (.nil ⟨rfl, rfl⟩)
     exact rfl
     apply DrawSeq.consF; exact rfl; intro E
     refine S.loadO ha36 rfl rfl rfl rfl rfl (.nil ⟨rfl, rfl⟩)
     exact rfl
     apply DrawSeq.consF; exact rfl; intro E
     refine AOps.move rfl rfl (.nil ⟨rfl, rfl⟩)
     exact rfl
     apply DrawSeq.consF; exact rfl; intro E
     refine AOps.callR rfl rfl rfl rfl (open_Can_ok ha39) rfl (.nil ⟨rfl, rfl⟩)
     exact rfl
     apply DrawSeq.consF; exact rfl; intro E
     refine AOps.not rfl rfl (.nil ⟨rfl, rfl⟩)
     exact rfl
     refine DrawSeq.done ?_
     dsimp only [envEnd]
     refine thn_normal (.iteB rfl h (fun hc12 h => ?_) (fun hc12 h => ?_))
     ·refine AWP.exit (thn_exit (inB_exit (thn_normal ⟨_, h, ?_⟩)))
      exact Sub.env ⟨rfl, rfl, rfl, rfl, rfl, rfl, trivial⟩
     ·refine AWP.skip (thn_normal (.seq ?_))
      obtain ⟨a45, ha45, h⟩ := bind_some h
      obtain ⟨a48, ha48, h⟩ := bind_some h
      refine AWP.drawI mixed rfl ?_
      apply DrawSeq.consF; exact rfl; intro E
      refine W.loadAgg rfl rfl rfl rfl rfl rfl rfl (.nil ⟨rfl, rfl⟩)
      exact rfl
      apply DrawSeq.consF; exact rfl; intro E
      refine AOps.move rfl rfl (.nil ⟨rfl, rfl⟩)
      exact rfl
      apply DrawSeq.consF; exact rfl; intro E
      refine AOps.move rfl rfl (.nil ⟨rfl, rfl⟩)
      exact rfl
      apply DrawSeq.consF; exact rfl; intro E
      refine S.idxO ha45 rfl rfl rfl rfl rfl (.nil ⟨rfl, rfl⟩)
      exact rfl
      apply DrawSeq.consF; exact rfl; intro E
      refine S.loadO ha45 rfl rfl rfl rfl rfl (.nil ⟨rfl, rfl⟩)
      exact rfl
      apply DrawSeq.consF; exact rfl; intro E
      refine AOps.move rfl rfl (.nil ⟨rfl, rfl⟩)
      exact rfl
      apply DrawSeq.consF; exact rfl; intro E
      refine AOps.callR rfl rfl rfl rfl (open_Results_ok ha48) rfl (.nil ⟨rfl, rfl⟩)
      exact rfl
      apply DrawSeq.consF; exact rfl; intro E
      refine AOps.move rfl rfl (.nil ⟨rfl, rfl⟩)
      exact rfl
      apply DrawSeq.consF; exact rfl; intro E
      refine AOps.extract rfl rfl rfl (.nil ⟨rfl, rfl⟩)
      exact rfl
      apply DrawSeq.consF; exact rfl; intro E
      refine AOps.extract rfl rfl rfl (.nil ⟨rfl, rfl⟩)
      exact rfl
      apply DrawSeq.consF; exact rfl; intro E
      refine AOps.assign rfl rfl (.nil ⟨rfl, rfl⟩)
      exact rfl
      apply DrawSeq.consF; exact rfl; intro E
      refine AOps.assign rfl rfl (.nil ⟨rfl, rfl⟩)
      exact rfl
      refine DrawSeq.done ?_
      dsimp only [envEnd]
      refine thn_normal (.seq (.region (.move rfl rfl (S.len rfl rfl (fun hl52 => .move rfl rfl (.nil (thn_normal (.block ?_))))))))
      obtain ⟨oo, ho4, h⟩ := bind_some h
      refine AWP.rngS ho4 (fun t15 (c13, c14) => ⟨[(1, .c (.ptr 0 0 0)), (4, .c (.own 2 0 c13.length)), (5, .c (.map 3)), (6, .c (int atv4)), (29, .c (int (ov.operators.length : Int))), (30, .c (int t9)), (51, .c (row 1 eLi64 a48.1)), (52, .c (int (a48.1.length : Int))), (53, .c (int t15))], [.one (.cells 4 [[int ov.facts, row 1 intI ov.init, row 1 intI ov.goal, row 3 eTOpenOperator ov.operators]]), .dead, .one (vec 1 eLi64 c13), .one (mapB Value.string (Value.int .i64) c14)]⟩) (fun o e st => match o with | .inl (c13, c14) => e = .exit 4 ∧ Sub [] st ⟨[(1, .c (.ptr 0 0 0)), (4, .c (.own 2 0 c13.length)), (5, .c (.map 3)), (6, .c (int atv4)), (29, .c (int (ov.operators.length : Int))), (30, .c (int t9))], [.one (.cells 4 [[int ov.facts, row 1 intI ov.init, row 1 intI ov.goal, row 3 eTOpenOperator ov.operators]]), .dead, .one (vec 1 eLi64 c13), .one (mapB Value.string (Value.int .i64) c14)]⟩ | .inr x => e = .ret ∧ Done [.t 2, .t 3] (fun t _ => t = .tup [.c (row 1 eLi64 x.1), .c (bool x.2)]) .ret st) ?_ ?_ ?_ ?_
      ·try dsimp only
       exact Sub.env ⟨rfl, rfl, rfl, rfl, rfl, rfl, rfl, rfl, rfl, trivial⟩
      ·intro t15 s hlot15 hltt15 _
       obtain ⟨c13, c14⟩ := s
       try dsimp only
       refine AWP.seq (.region (.lss rfl rfl rfl (.nil (thn_normal (.seq (.condNP rfl hltt15 (.exit (thn_exit (thn_exit ⟨rfl, ?_⟩)))))))))
       exact Sub.env ⟨rfl, rfl, rfl, rfl, rfl, rfl, trivial⟩
      ·intro t15 s o hlot15 hltt15 h
       obtain ⟨c13, c14⟩ := s
       unfold open_Reach_l4 at h
       try dsimp only at h ⊢
       refine AWP.seq (.region (.lss rfl rfl rfl (.nil (thn_normal (.seq (.condP rfl hltt15 (.skip (thn_normal (.seqF (open_Reach_j5) o (fun (c16, c17) => ⟨[(1, .c (.ptr 0 0 0)), (4, .c (.own 2 0 c16.length)), (5, .c (.map 3)), (6, .c (int atv4)), (29, .c (int (ov.operators.length : Int))), (30, .c (int t9)), (51, .c (row 1 eLi64 a48.1)), (52, .c (int (a48.1.length : Int))), (53, .c (int t15))], [.one (.cells 4 [[int ov.facts, row 1 intI ov.init, row 1 intI ov.goal, row 3 eTOpenOperator ov.operators]]), .dead, .one (vec 1 eLi64 c16), .one (mapB Value.string (Value.int .i64) c17)]⟩) (fun x h => ?_) ?_)))))))))
       ·obtain ⟨c16, c17⟩ := x
        unfold open_Reach_j5 at h
        try dsimp only at h ⊢
        refine AWP.region (.add rfl rfl rfl (by omega) (.move rfl rfl (.nil ?_)))
        have ej := Option.some.inj h
        subst ej
        refine thn_normal ⟨_, rfl, ?_⟩
        exact Sub.env ⟨rfl, rfl, rfl, rfl, rfl, rfl, rfl, rfl, rfl, trivial⟩
       ·refine AWP.block (.seq ?_)
        obtain ⟨a55, ha55, h⟩ := bind_some h
        refine AWP.region (S.idx ha55 rfl rfl rfl rfl (.loadI rfl rfl rfl rfl (.assign rfl rfl (.nil (thn_normal (.seq ?_))))))
        obtain ⟨a59, ha59, h⟩ := bind_some h
        refine AWP.region (.move rfl rfl (S.lit (f := eLi64) (l := [a55]) (ess := [[row 1 intI a55]]) rfl rfl rfl rfl rfl rfl rfl ⟨⟨.inl rfl, trivial⟩, trivial⟩ rfl rfl rfl (.callL rfl rfl (.cons (.c (.own rfl rfl)) .nil) rfl (belief_Key_ok ha59) rfl (.assign rfl rfl (.nil (thn_normal (.seq (.seq (.region (.move rfl rfl (.move rfl rfl (W.lookup (fk := Value.string) (fv := (Value.int .i64)) (k := a59) (z := 0) keyStr rfl (fun _ => rfl) rfl rfl rfl rfl ?_))))))))))))
        refine AOps.gtr rfl rfl rfl (.nil (thn_normal (.ite rfl h (fun hc18 h => ?_) (fun hc18 h => ?_))))
        ·refine AWP.exit (thn_exit (inB_exit (thn_normal ⟨_, h, ?_⟩)))
         exact Sub.cut ⟨rfl, rfl, rfl, rfl, rfl, rfl, rfl, rfl, rfl, trivial⟩ rfl ⟨.one rfl, .dead, .vec, .one rfl, trivial⟩ rfl
        ·refine AWP.skip (thn_normal (.seq (.seq (.region (.move rfl rfl (S.lenO rfl rfl rfl (fun hl65 => .eql rfl rfl rfl (.nil (thn_normal (.ite rfl h (fun hc19 h => ?_) (fun hc19 h => ?_)))))))))))
         ·refine AWP.seq (.region (.assign rfl rfl (.assign rfl rfl (.nil (thn_normal (.nilrow 1 2 rfl (.ret (thn_ret (inB_ret (thn_ret ?_))))))))))
          have ej := Option.some.inj h
          subst ej
          refine thn_ret ⟨_, rfl, rfl, ?_⟩
          exact Done.ret rfl rfl
         ·refine AWP.skip (thn_normal (.seq (.region (.move rfl rfl (.move rfl rfl (W.mapUpdate (fk := Value.string) (fv := (Value.int .i64)) (k := a59) (a := 1) keyStr rfl rfl rfl rfl rfl (.nil (thn_normal ?_))))))))
          obtain ⟨a72, ha72, h⟩ := bind_some h
          refine AWP.region (.move rfl rfl (.move rfl rfl (S.lit (f := eLi64) (l := [a55]) (ess := [[row 1 intI a55]]) rfl rfl rfl rfl rfl rfl rfl ⟨⟨.inl rfl, trivial⟩, trivial⟩ rfl rfl rfl (S.append (f := eLi64) ha72 rfl rfl rfl rfl rfl rfl (.own rfl rfl) rfl rfl rfl rfl (.assign rfl rfl (.nil (inB_normal (thn_normal ⟨_, h, ?_⟩))))))))
          exact (Sub.move (env' := [(1, .c (.ptr 0 0 0)), (4, .c (.own 2 0 a72.length)), (5, .c (.map 3)), (6, .c (int atv4)), (29, .c (int (ov.operators.length : Int))), (30, .c (int t9)), (51, .c (row 1 eLi64 a48.1)), (52, .c (int (a48.1.length : Int))), (53, .c (int t15))]) (σ' := [.one (.cells 4 [[int ov.facts, row 1 intI ov.init, row 1 intI ov.goal, row 3 eTOpenOperator ov.operators]]), .dead, .one (vec 1 eLi64 a72), .one (mapB Value.string (Value.int .i64) (mset c14 a59 1)), .one (vec 1 eLi64 [a55]), .one (vec 1 eLi64 [a55])]) 2 6 rfl rfl rfl ⟨rfl, rfl, rfl, rfl, rfl, rfl, rfl, rfl, rfl, trivial⟩ rfl ⟨⟨rfl, rfl⟩, trivial, ⟨Blk.im_ok _ _ _, vec_mv rfl⟩, ⟨rfl, rfl⟩, ⟨Blk.im_ok _ _ _, vec_mv rfl⟩, ⟨Blk.im_ok _ _ _, vec_mv rfl⟩, trivial⟩).trans (Sub.cut ⟨rfl, rfl, rfl, rfl, rfl, rfl, rfl, rfl, rfl, trivial⟩ rfl ⟨.one rfl, .dead, .vec, .one rfl, trivial⟩ rfl)
      ·intro e s hq
       rcases oo with ⟨c13, c14⟩ | x
       ·try dsimp only at h hq
        obtain ⟨rfl, hs⟩ := hq
        refine ⟨_, hs, ?_⟩
        refine inB_exit (inB_normal (thn_normal ⟨_, h, ?_⟩))
        exact Sub.env ⟨rfl, rfl, rfl, rfl, rfl, rfl, trivial⟩
       ·try dsimp only at h hq
        obtain ⟨rfl, hs⟩ := hq
        refine ⟨_, Sub.refl _ _, ?_⟩
        refine inB_ret (inB_ret (thn_ret ?_))
        have ej := Option.some.inj h
        subst ej
        refine thn_ret ⟨_, rfl, rfl, ?_⟩
        exact hs
   ·intro e s hq
    rcases oo with ⟨c7, c8⟩ | x
    ·try dsimp only at h hq
     obtain ⟨rfl, hs⟩ := hq
     refine ⟨_, hs, ?_⟩
     refine inB_exit (inB_normal (thn_normal (.region (.move rfl rfl (S.add rfl rfl rfl (.assign rfl rfl (.nil ?_)))))))
     have ej := Option.some.inj h
     subst ej
     refine thn_normal ⟨_, rfl, ?_⟩
     exact Sub.env ⟨rfl, rfl, rfl, rfl, trivial⟩
    ·try dsimp only at h hq
     obtain ⟨rfl, hs⟩ := hq
     refine ⟨_, Sub.refl _ _, ?_⟩
     refine inB_ret (inB_ret (thn_ret ?_))
     have ej := Option.some.inj h
     subst ej
     refine thn_ret ⟨_, rfl, rfl, ?_⟩
     exact hs
  ·refine AWP.exit (thn_exit ?_)
   have ej := Option.some.inj h
   subst ej
   refine thn_exit ⟨_, rfl, rfl, ?_⟩
   exact Sub.cut ⟨rfl, trivial⟩ rfl ⟨.dead, .dead, .vec, trivial⟩ rfl
 ·intro e s hq
  rcases oo with c5 | x
  ·try dsimp only at h hq
   obtain ⟨rfl, hs⟩ := hq
   refine ⟨_, hs, ?_⟩
   refine inB_exit (thn_normal (.seq ?_))
   obtain ⟨a76, ha76, h⟩ := bind_some h
   refine AWP.region (.move rfl rfl (.callF (r2 := .c (.own 4 0 a76.length)) (σ'' := [.dead, .dead, .dead, .dead, .one (vec 1 eLi64 a76)]) rfl rfl rfl (FnOk.lend [2] (belief_Normal_w_ok ha76) rfl rfl rfl rfl rfl rfl (by exact ⟨.vec, trivial⟩) rfl (by exact ⟨(.live rfl .vec), trivial⟩) rfl rfl (by exact ⟨.dead, .dead, .dead, .dead, (.new 2 rfl rfl .vec), trivial⟩)) (.assign rfl rfl (.assign rfl rfl (.nil (thn_normal (.frzV (id := 4) (l := a76) (env2 := [(2, .c (row 1 eLi64 a76)), (3, .c (bool true))]) (σ2 := [.dead, .dead, .dead, .dead, .dead]) rfl rfl (by exact ⟨⟨_, rfl, .inr ⟨_, rfl, rfl, rfl⟩⟩, ⟨_, rfl, .inl ⟨rfl, rfl⟩⟩, trivial⟩) rfl (by exact ⟨trivial, trivial, trivial, trivial, trivial, trivial⟩) (.ret ?_))))))))
   have ej := Option.some.inj h
   subst ej
   exact Done.ret rfl rfl
  ·try dsimp only at h hq
   obtain ⟨rfl, hs⟩ := hq
   refine ⟨_, Sub.refl _ _, ?_⟩
   refine inB_ret (thn_ret ?_)
   have ej := Option.some.inj h
   subst ej
   exact hs
theorem open_Explore_ok {ov : TOpenTask} {r : (List (List Int)) × TFault} (h : open_Explore ov = some r) : PureOk Tryd.prog 5 [.agg [int ov.facts, row 1 intI ov.init, row 1 intI ov.goal, row 3 eTOpenOperator ov.operators]] (.tup [.c (row 1 eLi64 r.1), .agg [int r.2.code, int r.2.index]]) := by
 unfold PureOk
 refine FnOk.enter (rs := [.t 2, .cell 3 28 2]) Tryd.func5 rfl Tryd.ntmps5 Tryd.results5 rfl ⟨trivial, rv _ rfl, trivial⟩ (by kernel_rfl) rfl ?_
 unfold open_Explore at h
 refine AWP.seq (.region (W.box rfl rfl rfl rfl rfl rfl (.assign rfl rfl (W.alloc rfl rfl rfl rfl (.nil (thn_normal (.seq (.seq ?_))))))))
 obtain ⟨a8, ha8, h⟩ := bind_some h
 refine AWP.region (W.loadAgg rfl rfl rfl rfl rfl rfl rfl (.callR rfl rfl rfl rfl (open_Validate_ok ha8) rfl (W.alloc rfl rfl rfl rfl (W.storeAgg rfl rfl rfl rfl rfl rfl rfl (.nil (thn_normal (.seq (.region (W.loadAgg rfl rfl rfl rfl rfl rfl rfl (W.build rfl rfl rfl rfl (.neqP rfl rfl rfl rfl rfl rfl rfl (.nil (thn_normal (.iteB rfl h (fun hc2 h => ?_) (fun hc2 h => ?_)))))))))))))))
 ·refine AWP.seq (.drawEI [2] mixed rfl rfl rfl ?_)
  apply DrawSeqE.consN; exact rfl; exact rfl; intro E
  refine W.loadAgg rfl rfl rfl rfl rfl rfl rfl (.nil ⟨rfl, rfl⟩)
  exact rfl
  apply DrawSeqE.consN; exact rfl; exact rfl; intro E
  refine AOps.assign rfl rfl (.nil ⟨rfl, rfl⟩)
  exact rfl
  apply DrawSeqE.consE (v := .undef); exact rfl; exact rfl; intro E
  refine W.storeAgg rfl rfl rfl rfl rfl rfl rfl (.nil ⟨rfl, rfl⟩)
  exact rfl
  exact rfl
  refine DrawSeqE.done rfl ?_ ?_
  ·apply RestI.cons; exact rfl; exact rfl
   first | refine RestK.skip rfl ?_ | (apply RestK.go; exact rfl; exact rfl; intro E; (refine W.loadAgg rfl rfl rfl rfl rfl rfl rfl ?_); exact AOps.nil ⟨rfl, rfl⟩)
   first | refine RestK.skip rfl ?_ | (apply RestK.go; exact rfl; exact rfl; intro E; (refine W.loadAgg rfl rfl rfl rfl rfl rfl rfl ?_); exact AOps.nil ⟨rfl, rfl⟩)
   exact RestK.nil
   apply RestI.cons; exact rfl; exact rfl
   first | refine RestK.skip rfl ?_ | (apply RestK.go; exact rfl; exact rfl; intro E; (refine AOps.assign rfl rfl ?_); exact AOps.nil ⟨rfl, rfl⟩)
   first | refine RestK.skip rfl ?_ | (apply RestK.go; exact rfl; exact rfl; intro E; (refine AOps.assign rfl rfl ?_); exact AOps.nil ⟨rfl, rfl⟩)
   exact RestK.nil
   refine RestI.skip rfl (RestI.nil)
  dsimp only [envEnd]
  refine thn_normal (.nilrow 1 2 rfl (.ret (thn_ret ?_)))
  have ej := Option.some.inj h
  subst ej
  exact Done.ret rfl rfl
 ·refine AWP.skip (thn_normal (.seq ?_))
  obtain ⟨a15, ha15, h⟩ := bind_some h
  refine AWP.region (W.loadAgg rfl rfl rfl rfl rfl rfl rfl (.callR rfl rfl rfl rfl (open_Reach_ok ha15) rfl (.move rfl rfl (.extract rfl rfl rfl (.extract rfl rfl rfl (.assign rfl rfl (.assign rfl rfl (.nil (thn_normal (.seq (.seq (.region (.move rfl rfl (.not rfl rfl (.nil (thn_normal (.iteB rfl h (fun hc3 h => ?_) (fun hc3 h => ?_))))))))))))))))))
  ·refine AWP.seq (.region (W.build rfl rfl rfl rfl (.assign rfl rfl (W.storeAgg rfl rfl rfl rfl rfl rfl rfl (.nil (thn_normal (.nilrow 1 2 rfl (.ret (thn_ret ?_)))))))))
   have ej := Option.some.inj h
   subst ej
   exact Done.ret rfl rfl
  ·refine AWP.skip (thn_normal (.seq (.region (.move rfl rfl (W.build rfl rfl rfl rfl (.assign rfl rfl (W.storeAgg rfl rfl rfl rfl rfl rfl rfl (.nil (thn_normal (.ret ?_))))))))))
   have ej := Option.some.inj h
   subst ej
   exact Done.ret rfl rfl
theorem ref1_In_ok {nv : Int} {low : Int} {high : Int} {r : Bool} (h : ref1_In nv low high = some r) : PureOk Tryd.prog 6 [.c (int nv), .c (int low), .c (int high)] (.c (bool r)) := by
 unfold PureOk
 refine FnOk.enter (rs := [.t 6]) Tryd.func6 rfl Tryd.ntmps6 Tryd.results6 rfl ⟨trivial, trivial⟩ (by kernel_rfl) rfl ?_
 unfold ref1_In at h
 refine AWP.seq (.region (.assign rfl rfl (.nil (thn_normal (.seqJ (⟨[(6, .c (bool ((decide (low ≤ nv)) && (decide (nv ≤ high)))))], []⟩) ?_ ?_)))))
 ·rcases Bool.eq_false_or_eq_true (decide (low ≤ nv)) with hb1 | hb1
  ·refine AWP.region (.move rfl rfl (.move rfl rfl (.geq rfl rfl rfl (.move rfl rfl (.guardT rfl rfl rfl hb1 (.move rfl rfl (.guardT rfl rfl rfl hb1 (.move rfl rfl (.guardT rfl rfl rfl hb1 (.leq rfl rfl rfl (.pickT rfl hb1 rfl rfl (.assign rfl rfl (.nil (thn_normal ?_))))))))))))))
   simp only [and_t hb1, or_t hb1, Bool.false_or, Bool.true_or, Bool.false_and, Bool.true_and]
   exact Sub.env ⟨rfl, trivial⟩
  ·refine AWP.region (.move rfl rfl (.move rfl rfl (.geq rfl rfl rfl (.move rfl rfl (.guardF rfl rfl rfl hb1 (.guardF rfl rfl rfl hb1 (.guardF rfl rfl rfl hb1 (.pickF rfl hb1 rfl rfl (.assign rfl rfl (.nil (thn_normal ?_)))))))))))
   simp only [and_f hb1, or_f hb1, Bool.false_or, Bool.true_or, Bool.false_and, Bool.true_and]
   exact Sub.env ⟨rfl, trivial⟩
 ·refine AWP.ret ?_
  have ej := Option.some.inj h
  subst ej
  exact Done.ret rfl rfl
theorem law8_coin_ok {r : TOpenTask} (h : law8_coin = some r) : PureOk Tryd.prog 23 [] (.agg [int r.facts, row 1 intI r.init, row 1 intI r.goal, row 3 eTOpenOperator r.operators]) := by
 unfold PureOk
 refine FnOk.enter (rs := [.cell 0 25 4]) Tryd.func23 rfl Tryd.ntmps23 Tryd.results23 rfl ⟨rv _ rfl, trivial⟩ (by kernel_rfl) rfl ?_
 unfold law8_coin at h
 refine AWP.seq (.region (W.alloc rfl rfl rfl rfl (.nil (thn_normal (.seq (.region (S.lit (f := intI) (l := [0]) (ess := [[int 0]]) rfl rfl rfl rfl rfl rfl rfl ⟨⟨.inl rfl, trivial⟩, trivial⟩ rfl rfl rfl (S.lit (f := intI) (l := [0]) (ess := [[int 0]]) rfl rfl rfl rfl rfl rfl rfl ⟨⟨.inl rfl, trivial⟩, trivial⟩ rfl rfl rfl (W.build rfl rfl rfl rfl (W.build rfl rfl rfl rfl (.frzV (id := 2) (l := [0]) (env2 := [(0, .c (.ptr 0 0 0)), (1, .c (.own 1 0 ([0].length))), (3, .agg [row 1 intI [0], .imm (.val (.slice none 0 0)), int 1]), (4, .agg [.imm (.val (.slice none 0 0)), .imm (.val (.slice none 0 0)), int 2])]) (σ2 := [.one (.cells 4 [[int 0, .imm (.val (.slice none 0 0)), .imm (.val (.slice none 0 0)), .imm (.val (.slice none 0 0))]]), .one (vec 1 intI [0]), .dead]) rfl rfl (by exact ⟨⟨_, rfl, .inl ⟨rfl, rfl⟩⟩, ⟨_, rfl, .inl ⟨rfl, rfl⟩⟩, ⟨_, rfl, ⟨.inr ⟨_, rfl, rfl, rfl⟩, .inl ⟨rfl, rfl⟩, .inl ⟨rfl, rfl⟩, trivial⟩⟩, ⟨_, rfl, ⟨.inl ⟨rfl, rfl⟩, .inl ⟨rfl, rfl⟩, .inl ⟨rfl, rfl⟩, trivial⟩⟩, trivial⟩) rfl (by exact ⟨⟨rfl, .inl ⟨rfl, rfl⟩, .inl ⟨rfl, rfl⟩, .inl ⟨rfl, rfl⟩, .inl ⟨rfl, rfl⟩, trivial⟩, FrzB.vec, trivial, trivial⟩) (S.lit (f := eTOutcome) (l := [(⟨[0], [], 1⟩ : TOutcome), (⟨[], [], 2⟩ : TOutcome)]) (ess := [[row 1 intI [0], .imm (.val (.slice none 0 0)), int 1], [.imm (.val (.slice none 0 0)), .imm (.val (.slice none 0 0)), int 2]]) rfl rfl rfl rfl rfl rfl rfl ⟨⟨.inl rfl, .inr ⟨rfl, _, rfl⟩, .inl rfl, trivial⟩, ⟨.inr ⟨rfl, _, rfl⟩, .inr ⟨rfl, _, rfl⟩, .inl rfl, trivial⟩, trivial⟩ rfl rfl rfl (W.build rfl rfl rfl rfl (.frzV (id := 3) (l := [(⟨[0], [], 1⟩ : TOutcome), (⟨[], [], 2⟩ : TOutcome)]) (env2 := [(0, .c (.ptr 0 0 0)), (1, .c (.own 1 0 ([0].length))), (6, .agg [.imm (.val (.slice none 0 0)), row 3 eTOutcome ([(⟨[0], [], 1⟩ : TOutcome), (⟨[], [], 2⟩ : TOutcome)]), int 1])]) (σ2 := [.one (.cells 4 [[int 0, .imm (.val (.slice none 0 0)), .imm (.val (.slice none 0 0)), .imm (.val (.slice none 0 0))]]), .one (vec 1 intI [0]), .dead, .dead]) rfl rfl (by exact ⟨⟨_, rfl, .inl ⟨rfl, rfl⟩⟩, ⟨_, rfl, .inl ⟨rfl, rfl⟩⟩, ⟨_, rfl, ⟨.inl ⟨rfl, rfl⟩, .inr ⟨_, rfl, rfl, rfl⟩, .inl ⟨rfl, rfl⟩, trivial⟩⟩, trivial⟩) rfl (by exact ⟨⟨rfl, .inl ⟨rfl, rfl⟩, .inl ⟨rfl, rfl⟩, .inl ⟨rfl, rfl⟩, .inl ⟨rfl, rfl⟩, trivial⟩, FrzB.vec, trivial, trivial, trivial⟩) (S.lit (f := eTOpenOperator) (l := [(⟨[], [(⟨[0], [], 1⟩ : TOutcome), (⟨[], [], 2⟩ : TOutcome)], 1⟩ : TOpenOperator)]) (ess := [[.imm (.val (.slice none 0 0)), row 3 eTOutcome ([(⟨[0], [], 1⟩ : TOutcome), (⟨[], [], 2⟩ : TOutcome)]), int 1]]) rfl rfl rfl rfl rfl rfl rfl ⟨⟨.inr ⟨rfl, _, rfl⟩, .inl rfl, .inl rfl, trivial⟩, trivial⟩ rfl rfl rfl (W.build rfl rfl rfl rfl (W.storeAgg rfl rfl rfl rfl rfl rfl rfl (.nil (thn_normal (.frzV (id := 1) (l := [0]) (env2 := [(0, .c (.ptr 0 0 0))]) (σ2 := [.one (.cells 4 [[int 1, .imm (.val (.slice none 0 0)), row 1 intI [0], .own 4 0 (([(⟨[], [(⟨[0], [], 1⟩ : TOutcome), (⟨[], [], 2⟩ : TOutcome)], 1⟩ : TOpenOperator)]).length)]]), .dead, .dead, .dead, .one (vec 3 eTOpenOperator ([(⟨[], [(⟨[0], [], 1⟩ : TOutcome), (⟨[], [], 2⟩ : TOutcome)], 1⟩ : TOpenOperator)]))]) rfl rfl (by exact ⟨⟨_, rfl, .inl ⟨rfl, rfl⟩⟩, trivial⟩) rfl (by exact ⟨⟨rfl, .inl ⟨rfl, rfl⟩, .inl ⟨rfl, rfl⟩, .inr ⟨_, rfl, rfl, rfl⟩, .inl ⟨rfl, rfl⟩, trivial⟩, trivial, trivial, trivial, FrzB.vec, trivial⟩) (.frzV (id := 4) (l := [(⟨[], [(⟨[0], [], 1⟩ : TOutcome), (⟨[], [], 2⟩ : TOutcome)], 1⟩ : TOpenOperator)]) (env2 := [(0, .c (.ptr 0 0 0))]) (σ2 := [.one (.cells 4 [[int 1, .imm (.val (.slice none 0 0)), row 1 intI [0], row 3 eTOpenOperator ([(⟨[], [(⟨[0], [], 1⟩ : TOutcome), (⟨[], [], 2⟩ : TOutcome)], 1⟩ : TOpenOperator)])]]), .dead, .dead, .dead, .dead]) rfl rfl (by exact ⟨⟨_, rfl, .inl ⟨rfl, rfl⟩⟩, trivial⟩) rfl (by exact ⟨⟨rfl, .inl ⟨rfl, rfl⟩, .inl ⟨rfl, rfl⟩, .inl ⟨rfl, rfl⟩, .inr ⟨_, rfl, rfl, rfl⟩, trivial⟩, trivial, trivial, trivial, trivial, trivial⟩) (.nilB (b := 0) [int 1, row 1 intI [], row 1 intI [0], row 3 eTOpenOperator ([(⟨[], [(⟨[0], [], 1⟩ : TOutcome), (⟨[], [], 2⟩ : TOutcome)], 1⟩ : TOpenOperator)])] rfl (by exact ⟨.inl rfl, .inr ⟨rfl, _, rfl⟩, .inl rfl, .inl rfl, trivial⟩) rfl rfl (.ret ?_)))))))))))))))))))))))
 have ej := Option.some.inj h
 subst ej
 exact Done.ret rfl rfl
theorem open_Outcomes_ok {ov : TOpenTask} {sv : List Int} {op : Int} {r : (List (List Int)) × (List Int) × TFault} (h : open_Outcomes ov sv op = some r) : PureOk Tryd.prog 9 [.agg [int ov.facts, row 1 intI ov.init, row 1 intI ov.goal, row 3 eTOpenOperator ov.operators], .c (row 1 intI sv), .c (int op)] (.tup [.c (row 1 eLi64 r.1), .c (row 1 intI r.2.1), .agg [int r.2.2.code, int r.2.2.index]]) := by
 unfold PureOk
 refine FnOk.enter (rs := [.t 6, .t 7, .cell 8 28 2]) Tryd.func9 rfl Tryd.ntmps9 Tryd.results9 rfl ⟨trivial, trivial, rv _ rfl, trivial⟩ (by kernel_rfl) rfl ?_
 unfold open_Outcomes at h
 refine AWP.seq (.region (W.box rfl rfl rfl rfl rfl rfl (.assign rfl rfl (.assign rfl rfl (W.alloc rfl rfl rfl rfl (.nil (thn_normal (.seq (.seq ?_)))))))))
 obtain ⟨a13, ha13, h⟩ := bind_some h
 refine AWP.region (W.loadAgg rfl rfl rfl rfl rfl rfl rfl (.callR rfl rfl rfl rfl (open_Validate_ok ha13) rfl (W.alloc rfl rfl rfl rfl (W.storeAgg rfl rfl rfl rfl rfl rfl rfl (.nil (thn_normal (.seq (.region (W.loadAgg rfl rfl rfl rfl rfl rfl rfl (W.build rfl rfl rfl rfl (.neqP rfl rfl rfl rfl rfl rfl rfl (.nil (thn_normal (.iteB rfl h (fun hc4 h => ?_) (fun hc4 h => ?_)))))))))))))))
 ·refine AWP.seq (.drawEI [3] mixed rfl rfl rfl ?_)
  apply DrawSeqE.consN; exact rfl; exact rfl; intro E
  refine W.loadAgg rfl rfl rfl rfl rfl rfl rfl (.nil ⟨rfl, rfl⟩)
  exact rfl
  apply DrawSeqE.consN; exact rfl; exact rfl; intro E
  refine AOps.assign rfl rfl (.nil ⟨rfl, rfl⟩)
  exact rfl
  apply DrawSeqE.consN; exact rfl; exact rfl; intro E
  refine AOps.assign rfl rfl (.nil ⟨rfl, rfl⟩)
  exact rfl
  apply DrawSeqE.consE (v := .undef); exact rfl; exact rfl; intro E
  refine W.storeAgg rfl rfl rfl rfl rfl rfl rfl (.nil ⟨rfl, rfl⟩)
  exact rfl
  exact rfl
  refine DrawSeqE.done rfl ?_ ?_
  ·apply RestI.cons; exact rfl; exact rfl
   first | refine RestK.skip rfl ?_ | (apply RestK.go; exact rfl; exact rfl; intro E; (refine W.loadAgg rfl rfl rfl rfl rfl rfl rfl ?_); exact AOps.nil ⟨rfl, rfl⟩)
   first | refine RestK.skip rfl ?_ | (apply RestK.go; exact rfl; exact rfl; intro E; (refine W.loadAgg rfl rfl rfl rfl rfl rfl rfl ?_); exact AOps.nil ⟨rfl, rfl⟩)
   exact RestK.nil
   apply RestI.cons; exact rfl; exact rfl
   first | refine RestK.skip rfl ?_ | (apply RestK.go; exact rfl; exact rfl; intro E; (refine AOps.assign rfl rfl ?_); exact AOps.nil ⟨rfl, rfl⟩)
   first | refine RestK.skip rfl ?_ | (apply RestK.go; exact rfl; exact rfl; intro E; (refine AOps.assign rfl rfl ?_); exact AOps.nil ⟨rfl, rfl⟩)
   exact RestK.nil
   apply RestI.cons; exact rfl; exact rfl
   first | refine RestK.skip rfl ?_ | (apply RestK.go; exact rfl; exact rfl; intro E; (refine AOps.assign rfl rfl ?_); exact AOps.nil ⟨rfl, rfl⟩)
   first | refine RestK.skip rfl ?_ | (apply RestK.go; exact rfl; exact rfl; intro E; (refine AOps.assign rfl rfl ?_); exact AOps.nil ⟨rfl, rfl⟩)
   exact RestK.nil
   refine RestI.skip rfl (RestI.nil)
  dsimp only [envEnd]
  refine thn_normal (.nilrow 1 6 rfl (.nilrow 1 7 rfl (.ret (thn_ret ?_))))
  have ej := Option.some.inj h
  subst ej
  exact Done.ret rfl rfl
 ·refine AWP.skip (thn_normal (.seq (.block (.seq ?_))))
  obtain ⟨a22, ha22, h⟩ := bind_some h
  refine AWP.region (.move rfl rfl (W.fieldAddr rfl rfl rfl rfl (.load rfl rfl rfl rfl rfl rfl (.callR rfl rfl rfl rfl (strips_IsSet_ok ha22) rfl (.not rfl rfl (.assign rfl rfl (.nil (thn_normal (.iteB rfl h (fun hc5 h => ?_) (fun hc5 h => ?_))))))))))
  ·refine AWP.seq (.region (W.build rfl rfl rfl rfl (.assign rfl rfl (.assign rfl rfl (W.storeAgg rfl rfl rfl rfl rfl rfl rfl (.nil (thn_normal (.nilrow 1 6 rfl (.nilrow 1 7 rfl (.ret (inB_ret (thn_ret ?_))))))))))))
   have ej := Option.some.inj h
   subst ej
   exact Done.ret rfl rfl
  ·refine AWP.seqJ (⟨[(1, .c (row 1 intI sv)), (2, .c (int op)), (3, .c (.ptr 0 0 0)), (8, .c (.ptr 1 0 0)), (25, .c (bool ((decide (op < 0)) || (decide ((ov.operators.length : Int) ≤ op)))))], [.one (.cells 4 [[int ov.facts, row 1 intI ov.init, row 1 intI ov.goal, row 3 eTOpenOperator ov.operators]]), .one (.cells 2 [[int 0, int 0]]), .one (.cells 2 [[int a13.code, int a13.index]])]⟩) ?_ ?_
   ·rcases Bool.eq_false_or_eq_true (decide (op < 0)) with hb1 | hb1
    ·refine AWP.region (.move rfl rfl (.lss rfl rfl rfl (.move rfl rfl (.guardF rfl rfl rfl hb1 (.guardF rfl rfl rfl hb1 (.guardF rfl rfl rfl hb1 (.guardF rfl rfl rfl hb1 (.guardF rfl rfl rfl hb1 (.pickT rfl hb1 rfl rfl (.assign rfl rfl (.nil (thn_normal ?_))))))))))))
     simp only [and_t hb1, or_t hb1, Bool.false_or, Bool.true_or, Bool.false_and, Bool.true_and]
     exact Sub.env ⟨rfl, rfl, rfl, rfl, rfl, trivial⟩
    ·refine AWP.region (.move rfl rfl (.lss rfl rfl rfl (.move rfl rfl (.guardT rfl rfl rfl hb1 (.move rfl rfl (.guardT rfl rfl rfl hb1 (W.fieldAddr rfl rfl rfl rfl (.guardT rfl rfl rfl hb1 (.load rfl rfl rfl rfl rfl rfl ?_)))))))))
     refine AOps.guardT rfl rfl rfl hb1 ?_; refine S.len rfl rfl (fun hl32 => ?_)
     refine AOps.guardT rfl rfl rfl hb1 (.geq rfl rfl rfl (.pickF rfl hb1 rfl rfl (.assign rfl rfl (.nil (thn_normal ?_)))))
     simp only [and_f hb1, or_f hb1, Bool.false_or, Bool.true_or, Bool.false_and, Bool.true_and]
     exact Sub.env ⟨rfl, rfl, rfl, rfl, rfl, trivial⟩
   ·refine AWP.iteB rfl h (fun hc6 h => ?_) (fun hc6 h => ?_)
    ·refine AWP.seq (.region (W.build rfl rfl rfl rfl (.assign rfl rfl (.assign rfl rfl (W.storeAgg rfl rfl rfl rfl rfl rfl rfl (.nil (thn_normal (.nilrow 1 6 rfl (.nilrow 1 7 rfl (.ret (inB_ret (thn_ret ?_))))))))))))
     have ej := Option.some.inj h
     subst ej
     exact Done.ret rfl rfl
    ·refine AWP.seq ?_
     obtain ⟨a40, ha40, h⟩ := bind_some h
     refine AWP.region (W.loadAgg rfl rfl rfl rfl rfl rfl rfl (.move rfl rfl (.move rfl rfl (.callR rfl rfl rfl rfl (open_Can_ok ha40) rfl (.not rfl rfl (.assign rfl rfl (.nil (thn_normal (.iteB rfl h (fun hc7 h => ?_) (fun hc7 h => ?_))))))))))
     ·refine AWP.seq (.region (.move rfl rfl (W.build rfl rfl rfl rfl (.assign rfl rfl (.assign rfl rfl (W.storeAgg rfl rfl rfl rfl rfl rfl rfl (.nil (thn_normal (.nilrow 1 6 rfl (.nilrow 1 7 rfl (.ret (inB_ret (thn_ret ?_)))))))))))))
      have ej := Option.some.inj h
      subst ej
      exact Done.ret rfl rfl
     ·refine AWP.skip (inB_normal (thn_normal (.seq ?_)))
      obtain ⟨a48, ha48, h⟩ := bind_some h
      refine AWP.region (W.loadAgg rfl rfl rfl rfl rfl rfl rfl (.move rfl rfl (.move rfl rfl (.callR rfl rfl rfl rfl (open_Results_ok ha48) rfl (.move rfl rfl (.extract rfl rfl rfl (.extract rfl rfl rfl (.assign rfl rfl (.assign rfl rfl (.nil (thn_normal (.seq (.region (.move rfl rfl (.move rfl rfl (W.build rfl rfl rfl rfl (.assign rfl rfl (.assign rfl rfl (W.storeAgg rfl rfl rfl rfl rfl rfl rfl (.nil (thn_normal (.ret ?_))))))))))))))))))))))
      have ej := Option.some.inj h
      subst ej
      exact Done.ret rfl rfl
theorem equal_Numbers_ok {av : List Int} {bv : List Int} {r : Bool} (h : equal_Numbers av bv = some r) : PureOk Tryd.prog 21 [.c (row 1 intI av), .c (row 1 intI bv)] (.c (bool r)) := by
 unfold PureOk
 refine FnOk.enter (rs := [.t 4]) Tryd.func21 rfl Tryd.ntmps21 Tryd.results21 rfl ⟨trivial, trivial⟩ (by kernel_rfl) rfl ?_
 unfold equal_Numbers at h
 refine AWP.seq (.region (.assign rfl rfl (.nil (thn_normal (.seq (.seq (.region (.move rfl rfl (S.len rfl rfl (fun hl7 => .move rfl rfl (S.len rfl rfl (fun hl9 => .neq rfl rfl rfl (.nil (thn_normal (.iteN rfl h (fun hc3 h => ?_) (fun hc3 h => ?_))))))))))))))))
 ·refine AWP.seq (.region (.assign rfl rfl (.nil (thn_normal (.ret (thn_ret ?_))))))
  have ej := Option.some.inj h
  subst ej
  exact Done.ret rfl rfl
 ·refine AWP.skip (thn_normal (.seq (.seq (.region (.assign rfl rfl (.nil (thn_normal (.block ?_))))))))
  obtain ⟨oo, ho1, h⟩ := bind_some h
  refine AWP.rngS ho1 (fun iv4 _ => ⟨[(0, .c (row 1 intI av)), (1, .c (row 1 intI bv)), (5, .c (int iv4))], []⟩) (fun o e st => match o with | .inl _ => e = .exit 0 ∧ Sub [] st ⟨[], []⟩ | .inr x => e = .ret ∧ Done [.t 4] (fun t _ => t = .c (bool x)) .ret st) ?_ ?_ ?_ ?_
  ·try dsimp only
   exact Sub.env ⟨rfl, rfl, rfl, trivial⟩
  ·intro iv4 s hloiv4 hltiv4 _
   try dsimp only
   refine AWP.seq (.seq (.region (.move rfl rfl (.move rfl rfl (S.len rfl rfl (fun hl13 => .lss rfl rfl rfl (.nil (thn_normal (.condNP rfl hltiv4 (.exit (thn_exit (thn_exit ⟨rfl, ?_⟩))))))))))))
   exact Sub.env trivial
  ·intro iv4 s o hloiv4 hltiv4 h
   unfold equal_Numbers_l1 at h
   try dsimp only at h ⊢
   refine AWP.seq (.seq (.region (.move rfl rfl (.move rfl rfl (S.len rfl rfl (fun hl13 => .lss rfl rfl rfl (.nil (thn_normal (.condP rfl hltiv4 (.skip (thn_normal (.seq (.block (.seq ?_))))))))))))))
   obtain ⟨a19, ha19, h⟩ := bind_some h
   obtain ⟨a23, ha23, h⟩ := bind_some h
   refine AWP.drawI mixed rfl ?_
   apply DrawSeq.consF; exact rfl; intro E
   refine AOps.move rfl rfl (.nil ⟨rfl, rfl⟩)
   exact rfl
   apply DrawSeq.consF; exact rfl; intro E
   refine AOps.move rfl rfl (.nil ⟨rfl, rfl⟩)
   exact rfl
   apply DrawSeq.consF; exact rfl; intro E
   refine S.idx ha19 rfl rfl rfl rfl (.nil ⟨rfl, rfl⟩)
   exact rfl
   apply DrawSeq.consF; exact rfl; intro E
   refine AOps.loadI rfl rfl rfl rfl (.nil ⟨rfl, rfl⟩)
   exact rfl
   apply DrawSeq.consF; exact rfl; intro E
   refine AOps.move rfl rfl (.nil ⟨rfl, rfl⟩)
   exact rfl
   apply DrawSeq.consF; exact rfl; intro E
   refine AOps.move rfl rfl (.nil ⟨rfl, rfl⟩)
   exact rfl
   apply DrawSeq.consF; exact rfl; intro E
   refine S.idx ha23 rfl rfl rfl rfl (.nil ⟨rfl, rfl⟩)
   exact rfl
   apply DrawSeq.consF; exact rfl; intro E
   refine AOps.loadI rfl rfl rfl rfl (.nil ⟨rfl, rfl⟩)
   exact rfl
   apply DrawSeq.consF; exact rfl; intro E
   refine AOps.neq rfl rfl rfl (.nil ⟨rfl, rfl⟩)
   exact rfl
   refine DrawSeq.done ?_
   dsimp only [envEnd]
   refine thn_normal (.iteN rfl h (fun hc5 h => ?_) (fun hc5 h => ?_))
   ·refine AWP.seq (.region (.assign rfl rfl (.nil (thn_normal (.ret (inB_ret (thn_ret ?_)))))))
    have ej := Option.some.inj h
    subst ej
    refine thn_ret ⟨_, rfl, rfl, ?_⟩
    exact Done.ret rfl rfl
   ·refine AWP.skip (inB_normal (thn_normal (.region (.move rfl rfl (.add rfl rfl rfl (by omega) (.assign rfl rfl (.nil ?_)))))))
    have ej := Option.some.inj h
    subst ej
    refine thn_normal ⟨_, rfl, ?_⟩
    exact Sub.env ⟨rfl, rfl, rfl, trivial⟩
  ·intro e s hq
   rcases oo with u | x
   ·try dsimp only at h hq
    obtain ⟨rfl, hs⟩ := hq
    refine ⟨_, hs, ?_⟩
    refine inB_exit (thn_normal (.seq (.region (.assign rfl rfl (.nil (thn_normal (.ret ?_)))))))
    have ej := Option.some.inj h
    subst ej
    exact Done.ret rfl rfl
   ·try dsimp only at h hq
    obtain ⟨rfl, hs⟩ := hq
    refine ⟨_, Sub.refl _ _, ?_⟩
    refine inB_ret (thn_ret ?_)
    have ej := Option.some.inj h
    subst ej
    exact hs
theorem equal_Sets_ok {av : List (List Int)} {bv : List (List Int)} {r : Bool} (h : equal_Sets av bv = some r) : PureOk Tryd.prog 16 [.c (row 1 eLi64 av), .c (row 1 eLi64 bv)] (.c (bool r)) := by
 unfold PureOk
 refine FnOk.enter (rs := [.t 4]) Tryd.func16 rfl Tryd.ntmps16 Tryd.results16 rfl ⟨trivial, trivial⟩ (by kernel_rfl) rfl ?_
 unfold equal_Sets at h
 refine AWP.seq (.region (.assign rfl rfl (.nil (thn_normal (.seq (.seq (.region (.move rfl rfl (S.len rfl rfl (fun hl7 => .move rfl rfl (S.len rfl rfl (fun hl9 => .neq rfl rfl rfl (.nil (thn_normal (.iteN rfl h (fun hc3 h => ?_) (fun hc3 h => ?_))))))))))))))))
 ·refine AWP.seq (.region (.assign rfl rfl (.nil (thn_normal (.ret (thn_ret ?_))))))
  have ej := Option.some.inj h
  subst ej
  exact Done.ret rfl rfl
 ·refine AWP.skip (thn_normal (.seq (.seq (.region (.assign rfl rfl (.nil (thn_normal (.block ?_))))))))
  obtain ⟨oo, ho1, h⟩ := bind_some h
  refine AWP.rngS ho1 (fun iv4 _ => ⟨[(0, .c (row 1 eLi64 av)), (1, .c (row 1 eLi64 bv)), (5, .c (int iv4))], []⟩) (fun o e st => match o with | .inl _ => e = .exit 0 ∧ Sub [] st ⟨[], []⟩ | .inr x => e = .ret ∧ Done [.t 4] (fun t _ => t = .c (bool x)) .ret st) ?_ ?_ ?_ ?_
  ·try dsimp only
   exact Sub.env ⟨rfl, rfl, rfl, trivial⟩
  ·intro iv4 s hloiv4 hltiv4 _
   try dsimp only
   refine AWP.seq (.seq (.region (.move rfl rfl (.move rfl rfl (S.len rfl rfl (fun hl13 => .lss rfl rfl rfl (.nil (thn_normal (.condNP rfl hltiv4 (.exit (thn_exit (thn_exit ⟨rfl, ?_⟩))))))))))))
   exact Sub.env trivial
  ·intro iv4 s o hloiv4 hltiv4 h
   unfold equal_Sets_l1 at h
   try dsimp only at h ⊢
   refine AWP.seq (.seq (.region (.move rfl rfl (.move rfl rfl (S.len rfl rfl (fun hl13 => .lss rfl rfl rfl (.nil (thn_normal (.condP rfl hltiv4 (.skip (thn_normal (.seq (.block (.seq ?_))))))))))))))
   obtain ⟨a19, ha19, h⟩ := bind_some h
   obtain ⟨a23, ha23, h⟩ := bind_some h
   obtain ⟨a25, ha25, h⟩ := bind_some h
   refine AWP.drawI mixed rfl ?_
   apply DrawSeq.consF; exact rfl; intro E
   refine AOps.move rfl rfl (.nil ⟨rfl, rfl⟩)
   exact rfl
   apply DrawSeq.consF; exact rfl; intro E
   refine AOps.move rfl rfl (.nil ⟨rfl, rfl⟩)
   exact rfl
   apply DrawSeq.consF; exact rfl; intro E
   refine S.idx ha19 rfl rfl rfl rfl (.nil ⟨rfl, rfl⟩)
   exact rfl
   apply DrawSeq.consF; exact rfl; intro E
   refine AOps.loadI rfl rfl rfl rfl (.nil ⟨rfl, rfl⟩)
   exact rfl
   apply DrawSeq.consF; exact rfl; intro E
   refine AOps.move rfl rfl (.nil ⟨rfl, rfl⟩)
   exact rfl
   apply DrawSeq.consF; exact rfl; intro E
   refine AOps.move rfl rfl (.nil ⟨rfl, rfl⟩)
   exact rfl
   apply DrawSeq.consF; exact rfl; intro E
   refine S.idx ha23 rfl rfl rfl rfl (.nil ⟨rfl, rfl⟩)
   exact rfl
   apply DrawSeq.consF; exact rfl; intro E
   refine AOps.loadI rfl rfl rfl rfl (.nil ⟨rfl, rfl⟩)
   exact rfl
   apply DrawSeq.consF; exact rfl; intro E
   refine AOps.callR rfl rfl rfl rfl (equal_Numbers_ok ha25) rfl (.nil ⟨rfl, rfl⟩)
   exact rfl
   apply DrawSeq.consF; exact rfl; intro E
   refine AOps.not rfl rfl (.nil ⟨rfl, rfl⟩)
   exact rfl
   refine DrawSeq.done ?_
   dsimp only [envEnd]
   refine thn_normal (.iteB rfl h (fun hc5 h => ?_) (fun hc5 h => ?_))
   ·refine AWP.seq (.region (.assign rfl rfl (.nil (thn_normal (.ret (inB_ret (thn_ret ?_)))))))
    have ej := Option.some.inj h
    subst ej
    refine thn_ret ⟨_, rfl, rfl, ?_⟩
    exact Done.ret rfl rfl
   ·refine AWP.skip (inB_normal (thn_normal (.region (.move rfl rfl (.add rfl rfl rfl (by omega) (.assign rfl rfl (.nil ?_)))))))
    have ej := Option.some.inj h
    subst ej
    refine thn_normal ⟨_, rfl, ?_⟩
    exact Sub.env ⟨rfl, rfl, rfl, trivial⟩
  ·intro e s hq
   rcases oo with u | x
   ·try dsimp only at h hq
    obtain ⟨rfl, hs⟩ := hq
    refine ⟨_, hs, ?_⟩
    refine inB_exit (thn_normal (.seq (.region (.assign rfl rfl (.nil (thn_normal (.ret ?_)))))))
    have ej := Option.some.inj h
    subst ej
    exact Done.ret rfl rfl
   ·try dsimp only at h hq
    obtain ⟨rfl, hs⟩ := hq
    refine ⟨_, Sub.refl _ _, ?_⟩
    refine inB_ret (thn_ret ?_)
    have ej := Option.some.inj h
    subst ej
    exact hs
theorem law8_tossed_ok {r : Bool} (h : law8_tossed = some r) : PureOk Tryd.prog 7 [] (.c (bool r)) := by
 unfold PureOk
 refine FnOk.enter (rs := [.t 0]) Tryd.func7 rfl Tryd.ntmps7 Tryd.results7 rfl ⟨trivial, trivial⟩ (by kernel_rfl) rfl ?_
 unfold law8_tossed at h
 refine AWP.seq (.region (.assign rfl rfl (.nil (thn_normal (.seq ?_)))))
 obtain ⟨a5, ha5, h⟩ := bind_some h
 obtain ⟨a6, ha6, h⟩ := bind_some h
 refine AWP.region (.callR rfl rfl rfl rfl (law8_coin_ok ha5) rfl (.callR rfl rfl rfl rfl (PureOk.nil (by exact ⟨⟨(.inl rfl), (.inl rfl), (.inl rfl), (.inl rfl), trivial⟩, (.inr ⟨rfl, _, rfl⟩), (.inl rfl), trivial⟩) (open_Outcomes_ok ha6)) rfl (.move rfl rfl (.extract rfl rfl rfl (.extract rfl rfl rfl (.extract rfl rfl rfl (W.alloc rfl rfl rfl rfl (.assign rfl rfl (.assign rfl rfl (W.storeAgg rfl rfl rfl rfl rfl rfl rfl (.nil (thn_normal ?_))))))))))))
 obtain ⟨t1, hx2, h⟩ := bind_some h
 refine AWP.seqJ (⟨[(0, .c (bool t1))], []⟩) ?_ ?_
 ·rcases Bool.eq_false_or_eq_true (decide (a6.2.2.code = 0)) with hb3 | hb3
  ·replace hx2 := iteDT hb3 hx2
   obtain ⟨a17, ha17, hx2⟩ := bind_some hx2
   rcases Bool.eq_false_or_eq_true (a17) with hb4 | hb4
   ·replace hx2 := iteBT hb4 hx2
    obtain ⟨a22, ha22, hx2⟩ := bind_some hx2
    refine AWP.region (W.fieldAddr rfl rfl rfl rfl (.load rfl rfl rfl rfl rfl rfl (.eql rfl rfl rfl (.move rfl rfl (.guardT rfl rfl rfl hb3 (.move rfl rfl (.guardT rfl rfl rfl hb3 (S.lit (f := intI) (l := [0]) (ess := [[int 0]]) rfl rfl rfl rfl rfl rfl rfl ⟨⟨.inl rfl, trivial⟩, trivial⟩ rfl rfl rfl ?_))))))))
    refine AOps.guardT rfl rfl rfl hb3 ?_; refine AOps.frzV (id := 1) (l := [0]) (env2 := [(2, .c (row 1 intI a6.2.1)), (13, .c (bool (decide (a6.2.2.code = 0)))), (14, .c (row 1 eLi64 a6.1)), (15, .c (row 1 intI [0]))]) (σ2 := [.one (.cells 2 [[int a6.2.2.code, int a6.2.2.index]]), .dead]) rfl rfl (by exact ⟨⟨_, rfl, .inl ⟨rfl, rfl⟩⟩, ⟨_, rfl, .inl ⟨rfl, rfl⟩⟩, ⟨_, rfl, .inl ⟨rfl, rfl⟩⟩, ⟨_, rfl, .inr ⟨_, rfl, rfl, rfl⟩⟩, trivial⟩) rfl (by exact ⟨⟨rfl, .inl ⟨rfl, rfl⟩, .inl ⟨rfl, rfl⟩, trivial⟩, trivial, trivial⟩) ?_; refine S.lit (f := eLi64) (l := [[], [0]]) (ess := [[.imm (.val (.slice none 0 0))], [row 1 intI [0]]]) rfl rfl rfl rfl rfl rfl rfl ⟨⟨.inr ⟨rfl, _, rfl⟩, trivial⟩, ⟨.inl rfl, trivial⟩, trivial⟩ rfl rfl rfl ?_
    refine AOps.guardT rfl rfl rfl hb3 (.callL rfl rfl (.cons (.c .imm) (.cons (.c (.own rfl rfl)) .nil)) rfl (equal_Sets_ok ha17) rfl (.pickT rfl hb3 rfl rfl (.move rfl rfl (.guardT rfl rfl rfl hb4 (.move rfl rfl (.guardT rfl rfl rfl hb4 (S.lit (f := intI) (l := [2, 1]) (ess := [[int 2], [int 1]]) rfl rfl rfl rfl rfl rfl rfl ⟨⟨.inl rfl, trivial⟩, ⟨.inl rfl, trivial⟩, trivial⟩ rfl rfl rfl (.guardT rfl rfl rfl hb4 (.callL rfl rfl (.cons (.c .imm) (.cons (.c (.own rfl rfl)) .nil)) rfl (equal_Numbers_ok ha22) rfl (.pickT rfl hb4 rfl rfl (.assign rfl rfl (.nil ?_))))))))))))
    have ej := Option.some.inj hx2
    subst ej
    refine thn_normal (Sub.cut ⟨rfl, trivial⟩ rfl trivial rfl)
   ·replace hx2 := iteBF hb4 hx2
    refine AWP.region (W.fieldAddr rfl rfl rfl rfl (.load rfl rfl rfl rfl rfl rfl (.eql rfl rfl rfl (.move rfl rfl (.guardT rfl rfl rfl hb3 (.move rfl rfl (.guardT rfl rfl rfl hb3 (S.lit (f := intI) (l := [0]) (ess := [[int 0]]) rfl rfl rfl rfl rfl rfl rfl ⟨⟨.inl rfl, trivial⟩, trivial⟩ rfl rfl rfl ?_))))))))
    refine AOps.guardT rfl rfl rfl hb3 ?_; refine AOps.frzV (id := 1) (l := [0]) (env2 := [(2, .c (row 1 intI a6.2.1)), (13, .c (bool (decide (a6.2.2.code = 0)))), (14, .c (row 1 eLi64 a6.1)), (15, .c (row 1 intI [0]))]) (σ2 := [.one (.cells 2 [[int a6.2.2.code, int a6.2.2.index]]), .dead]) rfl rfl (by exact ⟨⟨_, rfl, .inl ⟨rfl, rfl⟩⟩, ⟨_, rfl, .inl ⟨rfl, rfl⟩⟩, ⟨_, rfl, .inl ⟨rfl, rfl⟩⟩, ⟨_, rfl, .inr ⟨_, rfl, rfl, rfl⟩⟩, trivial⟩) rfl (by exact ⟨⟨rfl, .inl ⟨rfl, rfl⟩, .inl ⟨rfl, rfl⟩, trivial⟩, trivial, trivial⟩) ?_; refine S.lit (f := eLi64) (l := [[], [0]]) (ess := [[.imm (.val (.slice none 0 0))], [row 1 intI [0]]]) rfl rfl rfl rfl rfl rfl rfl ⟨⟨.inr ⟨rfl, _, rfl⟩, trivial⟩, ⟨.inl rfl, trivial⟩, trivial⟩ rfl rfl rfl ?_
    refine AOps.guardT rfl rfl rfl hb3 (.callL rfl rfl (.cons (.c .imm) (.cons (.c (.own rfl rfl)) .nil)) rfl (equal_Sets_ok ha17) rfl (.pickT rfl hb3 rfl rfl (.move rfl rfl (.guardF rfl rfl rfl hb4 (.guardF rfl rfl rfl hb4 (.guardF rfl rfl rfl hb4 (.pickF rfl hb4 rfl rfl (.assign rfl rfl (.nil ?_)))))))))
    have ej := Option.some.inj hx2
    subst ej
    refine thn_normal (Sub.cut ⟨rfl, trivial⟩ rfl trivial rfl)
  ·replace hx2 := iteDF hb3 hx2
   refine AWP.region (W.fieldAddr rfl rfl rfl rfl (.load rfl rfl rfl rfl rfl rfl (.eql rfl rfl rfl (.move rfl rfl (.guardF rfl rfl rfl hb3 (.guardF rfl rfl rfl hb3 (.guardF rfl rfl rfl hb3 (.guardF rfl rfl rfl hb3 (.pickF rfl hb3 rfl rfl (.move rfl rfl (.guardF rfl rfl rfl rfl (.guardF rfl rfl rfl rfl (.guardF rfl rfl rfl rfl (.pickF rfl rfl rfl rfl (.assign rfl rfl (.nil ?_))))))))))))))))
   have ej := Option.some.inj hx2
   subst ej
   refine thn_normal (Sub.cut ⟨rfl, trivial⟩ rfl trivial rfl)
 ·refine AWP.ret ?_
  have ej := Option.some.inj h
  subst ej
  exact Done.ret rfl rfl
theorem ref1_Ints_ok {av : List Int} {bv : List Int} {r : Bool} (h : ref1_Ints av bv = some r) : PureOk Tryd.prog 24 [.c (row 1 intI av), .c (row 1 intI bv)] (.c (bool r)) := by
 unfold PureOk
 refine FnOk.enter (rs := [.t 4]) Tryd.func24 rfl Tryd.ntmps24 Tryd.results24 rfl ⟨trivial, trivial⟩ (by kernel_rfl) rfl ?_
 unfold ref1_Ints at h
 refine AWP.seq (.region (.assign rfl rfl (.nil (thn_normal (.seq (.seq (.region (.move rfl rfl (S.len rfl rfl (fun hl7 => .move rfl rfl (S.len rfl rfl (fun hl9 => .neq rfl rfl rfl (.nil (thn_normal (.iteN rfl h (fun hc3 h => ?_) (fun hc3 h => ?_))))))))))))))))
 ·refine AWP.seq (.region (.assign rfl rfl (.nil (thn_normal (.ret (thn_ret ?_))))))
  have ej := Option.some.inj h
  subst ej
  exact Done.ret rfl rfl
 ·refine AWP.skip (thn_normal (.seq (.seq (.region (.assign rfl rfl (.nil (thn_normal (.block ?_))))))))
  obtain ⟨oo, ho1, h⟩ := bind_some h
  refine AWP.rngS ho1 (fun iv4 _ => ⟨[(0, .c (row 1 intI av)), (1, .c (row 1 intI bv)), (5, .c (int iv4))], []⟩) (fun o e st => match o with | .inl _ => e = .exit 0 ∧ Sub [] st ⟨[], []⟩ | .inr x => e = .ret ∧ Done [.t 4] (fun t _ => t = .c (bool x)) .ret st) ?_ ?_ ?_ ?_
  ·try dsimp only
   exact Sub.env ⟨rfl, rfl, rfl, trivial⟩
  ·intro iv4 s hloiv4 hltiv4 _
   try dsimp only
   refine AWP.seq (.seq (.region (.move rfl rfl (.move rfl rfl (S.len rfl rfl (fun hl13 => .lss rfl rfl rfl (.nil (thn_normal (.condNP rfl hltiv4 (.exit (thn_exit (thn_exit ⟨rfl, ?_⟩))))))))))))
   exact Sub.env trivial
  ·intro iv4 s o hloiv4 hltiv4 h
   unfold ref1_Ints_l1 at h
   try dsimp only at h ⊢
   refine AWP.seq (.seq (.region (.move rfl rfl (.move rfl rfl (S.len rfl rfl (fun hl13 => .lss rfl rfl rfl (.nil (thn_normal (.condP rfl hltiv4 (.skip (thn_normal (.seq (.block (.seq ?_))))))))))))))
   obtain ⟨a19, ha19, h⟩ := bind_some h
   obtain ⟨a23, ha23, h⟩ := bind_some h
   refine AWP.drawI mixed rfl ?_
   apply DrawSeq.consF; exact rfl; intro E
   refine AOps.move rfl rfl (.nil ⟨rfl, rfl⟩)
   exact rfl
   apply DrawSeq.consF; exact rfl; intro E
   refine AOps.move rfl rfl (.nil ⟨rfl, rfl⟩)
   exact rfl
   apply DrawSeq.consF; exact rfl; intro E
   refine S.idx ha19 rfl rfl rfl rfl (.nil ⟨rfl, rfl⟩)
   exact rfl
   apply DrawSeq.consF; exact rfl; intro E
   refine AOps.loadI rfl rfl rfl rfl (.nil ⟨rfl, rfl⟩)
   exact rfl
   apply DrawSeq.consF; exact rfl; intro E
   refine AOps.move rfl rfl (.nil ⟨rfl, rfl⟩)
   exact rfl
   apply DrawSeq.consF; exact rfl; intro E
   refine AOps.move rfl rfl (.nil ⟨rfl, rfl⟩)
   exact rfl
   apply DrawSeq.consF; exact rfl; intro E
   refine S.idx ha23 rfl rfl rfl rfl (.nil ⟨rfl, rfl⟩)
   exact rfl
   apply DrawSeq.consF; exact rfl; intro E
   refine AOps.loadI rfl rfl rfl rfl (.nil ⟨rfl, rfl⟩)
   exact rfl
   apply DrawSeq.consF; exact rfl; intro E
   refine AOps.neq rfl rfl rfl (.nil ⟨rfl, rfl⟩)
   exact rfl
   refine DrawSeq.done ?_
   dsimp only [envEnd]
   refine thn_normal (.iteN rfl h (fun hc5 h => ?_) (fun hc5 h => ?_))
   ·refine AWP.seq (.region (.assign rfl rfl (.nil (thn_normal (.ret (inB_ret (thn_ret ?_)))))))
    have ej := Option.some.inj h
    subst ej
    refine thn_ret ⟨_, rfl, rfl, ?_⟩
    exact Done.ret rfl rfl
   ·refine AWP.skip (inB_normal (thn_normal (.region (.move rfl rfl (.add rfl rfl rfl (by omega) (.assign rfl rfl (.nil ?_)))))))
    have ej := Option.some.inj h
    subst ej
    refine thn_normal ⟨_, rfl, ?_⟩
    exact Sub.env ⟨rfl, rfl, rfl, trivial⟩
  ·intro e s hq
   rcases oo with u | x
   ·try dsimp only at h hq
    obtain ⟨rfl, hs⟩ := hq
    refine ⟨_, hs, ?_⟩
    refine inB_exit (thn_normal (.seq (.region (.assign rfl rfl (.nil (thn_normal (.ret ?_)))))))
    have ej := Option.some.inj h
    subst ej
    exact Done.ret rfl rfl
   ·try dsimp only at h hq
    obtain ⟨rfl, hs⟩ := hq
    refine ⟨_, Sub.refl _ _, ?_⟩
    refine inB_ret (thn_ret ?_)
    have ej := Option.some.inj h
    subst ej
    exact hs
theorem ref1_Place_ok {l : List (List Int)} {sv : List Int} {r : Int} (h : ref1_Place l sv = some r) : PureOk Tryd.prog 8 [.c (row 1 eLi64 l), .c (row 1 intI sv)] (.c (int r)) := by
 unfold PureOk
 refine FnOk.enter (rs := [.t 4]) Tryd.func8 rfl Tryd.ntmps8 Tryd.results8 rfl ⟨trivial, trivial⟩ (by kernel_rfl) rfl ?_
 unfold ref1_Place at h
 refine AWP.seq (.region (.assign rfl rfl (.nil (thn_normal (.seq (.seq (.region (.assign rfl rfl (.nil (thn_normal (.block ?_)))))))))))
 obtain ⟨oo, ho1, h⟩ := bind_some h
 refine AWP.rngS ho1 (fun iv3 _ => ⟨[(0, .c (row 1 eLi64 l)), (1, .c (row 1 intI sv)), (5, .c (int iv3))], []⟩) (fun o e st => match o with | .inl _ => e = .exit 0 ∧ Sub [] st ⟨[], []⟩ | .inr x => e = .ret ∧ Done [.t 4] (fun t _ => t = .c (int x)) .ret st) ?_ ?_ ?_ ?_
 ·try dsimp only
  exact Sub.env ⟨rfl, rfl, rfl, trivial⟩
 ·intro iv3 s hloiv3 hltiv3 _
  try dsimp only
  refine AWP.seq (.seq (.region (.move rfl rfl (.move rfl rfl (S.len rfl rfl (fun hl8 => .lss rfl rfl rfl (.nil (thn_normal (.condNP rfl hltiv3 (.exit (thn_exit (thn_exit ⟨rfl, ?_⟩))))))))))))
  exact Sub.env trivial
 ·intro iv3 s o hloiv3 hltiv3 h
  unfold ref1_Place_l1 at h
  try dsimp only at h ⊢
  refine AWP.seq (.seq (.region (.move rfl rfl (.move rfl rfl (S.len rfl rfl (fun hl8 => .lss rfl rfl rfl (.nil (thn_normal (.condP rfl hltiv3 (.skip (thn_normal (.seq (.block (.seq ?_))))))))))))))
  obtain ⟨a14, ha14, h⟩ := bind_some h
  obtain ⟨a17, ha17, h⟩ := bind_some h
  refine AWP.region (.move rfl rfl (.move rfl rfl (S.idx ha14 rfl rfl rfl rfl (.loadI rfl rfl rfl rfl (.move rfl rfl (.callR rfl rfl rfl rfl (ref1_Ints_ok ha17) rfl (.nil (thn_normal (.iteB rfl h (fun hc4 h => ?_) (fun hc4 h => ?_))))))))))
  ·refine AWP.seq (.region (.move rfl rfl (.assign rfl rfl (.nil (thn_normal (.ret (inB_ret (thn_ret ?_))))))))
   have ej := Option.some.inj h
   subst ej
   refine thn_ret ⟨_, rfl, rfl, ?_⟩
   exact Done.ret rfl rfl
  ·refine AWP.skip (inB_normal (thn_normal (.region (.move rfl rfl (.add rfl rfl rfl (by omega) (.assign rfl rfl (.nil ?_)))))))
   have ej := Option.some.inj h
   subst ej
   refine thn_normal ⟨_, rfl, ?_⟩
   exact Sub.env ⟨rfl, rfl, rfl, trivial⟩
 ·intro e s hq
  rcases oo with u | x
  ·try dsimp only at h hq
   obtain ⟨rfl, hs⟩ := hq
   refine ⟨_, hs, ?_⟩
   refine inB_exit (thn_normal (.seq (.region (.assign rfl rfl (.nil (thn_normal (.ret ?_)))))))
   have ej := Option.some.inj h
   subst ej
   exact Done.ret rfl rfl
  ·try dsimp only at h hq
   obtain ⟨rfl, hs⟩ := hq
   refine ⟨_, Sub.refl _ _, ?_⟩
   refine inB_ret (thn_ret ?_)
   have ej := Option.some.inj h
   subst ej
   exact hs
theorem law8_OpenExploreIsClosed_ok {ov : TOpenTask} {iv : Int} {op : Int} {r : Bool} (h : law8_OpenExploreIsClosed ov iv op = some r) : PureOk Tryd.prog 3 [.agg [int ov.facts, row 1 intI ov.init, row 1 intI ov.goal, row 3 eTOpenOperator ov.operators], .c (int iv), .c (int op)] (.c (bool r)) := by
 unfold PureOk
 refine FnOk.enter (rs := [.t 6]) Tryd.func3 rfl Tryd.ntmps3 Tryd.results3 rfl ⟨trivial, trivial⟩ (by kernel_rfl) rfl ?_
 unfold law8_OpenExploreIsClosed at h
 refine AWP.seq (.region (W.box rfl rfl rfl rfl rfl rfl (.assign rfl rfl (.nil (thn_normal (.seq ?_))))))
 obtain ⟨a15, ha15, h⟩ := bind_some h
 refine AWP.region (W.loadAgg rfl rfl rfl rfl rfl rfl rfl (.callR rfl rfl rfl rfl (open_Explore_ok ha15) rfl (.move rfl rfl (.extract rfl rfl rfl (.extract rfl rfl rfl (W.alloc rfl rfl rfl rfl (.assign rfl rfl (W.storeAgg rfl rfl rfl rfl rfl rfl rfl (.nil (thn_normal (.seq ?_)))))))))))
 obtain ⟨t4, hx5, h⟩ := bind_some h
 refine AWP.seqJ (⟨[(1, .c (int iv)), (2, .c (int op)), (3, .c (.ptr 0 0 0)), (7, .c (row 1 eLi64 a15.1)), (8, .c (.ptr 1 0 0)), (28, .c (bool t4))], [.one (.cells 4 [[int ov.facts, row 1 intI ov.init, row 1 intI ov.goal, row 3 eTOpenOperator ov.operators]]), .one (.cells 2 [[int a15.2.code, int a15.2.index]])]⟩) ?_ ?_
 ·rcases Bool.eq_false_or_eq_true (!(decide (a15.2.code = 0))) with hb6 | hb6
  ·replace hx5 := iteBT hb6 hx5
   refine AWP.region (W.fieldAddr rfl rfl rfl rfl (.load rfl rfl rfl rfl rfl rfl (.neq rfl rfl rfl (.move rfl rfl (.guardF rfl rfl rfl hb6 (.guardF rfl rfl rfl hb6 (.guardF rfl rfl rfl hb6 (.guardF rfl rfl rfl hb6 (.guardF rfl rfl rfl hb6 (.guardF rfl rfl rfl hb6 (.pickT rfl hb6 rfl rfl (.nil ?_))))))))))))
   have ej := Option.some.inj hx5
   subst ej
   refine thn_normal (Sub.env ⟨rfl, rfl, rfl, rfl, rfl, rfl, trivial⟩)
  ·replace hx5 := iteBF hb6 hx5
   obtain ⟨a26, ha26, hx5⟩ := bind_some hx5
   refine AWP.region (W.fieldAddr rfl rfl rfl rfl (.load rfl rfl rfl rfl rfl rfl (.neq rfl rfl rfl (.move rfl rfl (.guardT rfl rfl rfl hb6 (.move rfl rfl (.guardT rfl rfl rfl hb6 (.move rfl rfl ?_))))))))
   refine AOps.guardT rfl rfl rfl hb6 ?_; refine S.len rfl rfl (fun hl24 => ?_)
   refine AOps.guardT rfl rfl rfl hb6 (.sub' rfl rfl rfl (by omega) (.guardT rfl rfl rfl hb6 (.callR rfl rfl rfl rfl (ref1_In_ok ha26) rfl (.guardT rfl rfl rfl hb6 (.not rfl rfl (.pickF rfl hb6 rfl rfl (.nil ?_)))))))
   have ej := Option.some.inj hx5
   subst ej
   refine thn_normal (Sub.env ⟨rfl, rfl, rfl, rfl, rfl, rfl, trivial⟩)
 ·refine AWP.iteB rfl h (fun hc7 h => ?_) (fun hc7 h => ?_)
  ·obtain ⟨t8, hx9, h⟩ := bind_some h
   refine AWP.seqJ (⟨[(6, .c (bool t8))], []⟩) ?_ ?_
   ·rcases Bool.eq_false_or_eq_true (!(decide (a15.2.code = 0))) with hb10 | hb10
    ·replace hx9 := iteBT hb10 hx9
     obtain ⟨a38, ha38, hx9⟩ := bind_some hx9
     refine AWP.region (W.fieldAddr rfl rfl rfl rfl (.load rfl rfl rfl rfl rfl rfl (.neq rfl rfl rfl (.move rfl rfl (.guardF rfl rfl rfl hb10 (.guardF rfl rfl rfl hb10 (.guardF rfl rfl rfl hb10 (.pickT rfl hb10 rfl rfl (.move rfl rfl (.guardT rfl rfl rfl rfl (.callR rfl rfl rfl rfl (law8_tossed_ok ha38) rfl (.pickT rfl rfl rfl rfl (.assign rfl rfl (.nil ?_))))))))))))))
     have ej := Option.some.inj hx9
     subst ej
     refine thn_normal (Sub.cut ⟨rfl, trivial⟩ rfl trivial rfl)
    ·replace hx9 := iteBF hb10 hx9
     rcases Bool.eq_false_or_eq_true (decide (0 < (a15.1.length : Int))) with hb11 | hb11
     ·replace hx9 := iteDT hb11 hx9
      obtain ⟨a38, ha38, hx9⟩ := bind_some hx9
      refine AWP.region (W.fieldAddr rfl rfl rfl rfl (.load rfl rfl rfl rfl rfl rfl (.neq rfl rfl rfl (.move rfl rfl (.guardT rfl rfl rfl hb10 (.move rfl rfl ?_))))))
      refine AOps.guardT rfl rfl rfl hb10 ?_; refine S.len rfl rfl (fun hl34 => ?_)
      refine AOps.guardT rfl rfl rfl hb10 (.gtr rfl rfl rfl (.pickF rfl hb10 rfl rfl (.move rfl rfl (.guardT rfl rfl rfl hb11 (.callR rfl rfl rfl rfl (law8_tossed_ok ha38) rfl (.pickT rfl hb11 rfl rfl (.assign rfl rfl (.nil ?_))))))))
      have ej := Option.some.inj hx9
      subst ej
      refine thn_normal (Sub.cut ⟨rfl, trivial⟩ rfl trivial rfl)
     ·replace hx9 := iteDF hb11 hx9
      refine AWP.region (W.fieldAddr rfl rfl rfl rfl (.load rfl rfl rfl rfl rfl rfl (.neq rfl rfl rfl (.move rfl rfl (.guardT rfl rfl rfl hb10 (.move rfl rfl ?_))))))
      refine AOps.guardT rfl rfl rfl hb10 ?_; refine S.len rfl rfl (fun hl34 => ?_)
      refine AOps.guardT rfl rfl rfl hb10 (.gtr rfl rfl rfl (.pickF rfl hb10 rfl rfl (.move rfl rfl (.guardF rfl rfl rfl hb11 (.pickF rfl hb11 rfl rfl (.assign rfl rfl (.nil ?_)))))))
      have ej := Option.some.inj hx9
      subst ej
      refine thn_normal (Sub.cut ⟨rfl, trivial⟩ rfl trivial rfl)
   ·refine AWP.ret (thn_ret ?_)
    have ej := Option.some.inj h
    subst ej
    exact Done.ret rfl rfl
  ·refine AWP.skip (thn_normal (.seq (.seq ?_)))
   obtain ⟨a43, ha43, h⟩ := bind_some h
   refine AWP.region (.move rfl rfl (W.fieldAddr rfl rfl rfl rfl (.load rfl rfl rfl rfl rfl rfl (.callR rfl rfl rfl rfl (ref1_Place_ok ha43) rfl (.lss rfl rfl rfl (.nil (thn_normal (.ite rfl h (fun hc12 h => ?_) (fun hc12 h => ?_)))))))))
   ·refine AWP.seq (.region (.assign rfl rfl (.nil (thn_normal (.ret (thn_ret ?_))))))
    have ej := Option.some.inj h
    subst ej
    exact Done.ret rfl rfl
   ·refine AWP.skip (thn_normal (.seq ?_))
    obtain ⟨a49, ha49, h⟩ := bind_some h
    obtain ⟨a52, ha52, h⟩ := bind_some h
    refine AWP.drawEI [11, 14] mixed rfl rfl rfl ?_
    apply DrawSeqE.consN; exact rfl; exact rfl; intro E
    refine W.loadAgg rfl rfl rfl rfl rfl rfl rfl (.nil ⟨rfl, rfl⟩)
    exact rfl
    apply DrawSeqE.consN; exact rfl; exact rfl; intro E
    refine AOps.move rfl rfl (.nil ⟨rfl, rfl⟩)
    exact rfl
    apply DrawSeqE.consN; exact rfl; exact rfl; intro E
    refine AOps.move rfl rfl (.nil ⟨rfl, rfl⟩)
    exact rfl
    apply DrawSeqE.consN; exact rfl; exact rfl; intro E
    refine S.idx ha49 rfl rfl rfl rfl (.nil ⟨rfl, rfl⟩)
    exact rfl
    apply DrawSeqE.consN; exact rfl; exact rfl; intro E
    refine AOps.loadI rfl rfl rfl rfl (.nil ⟨rfl, rfl⟩)
    exact rfl
    apply DrawSeqE.consN; exact rfl; exact rfl; intro E
    refine AOps.move rfl rfl (.nil ⟨rfl, rfl⟩)
    exact rfl
    apply DrawSeqE.consN; exact rfl; exact rfl; intro E
    refine AOps.callR rfl rfl rfl rfl (open_Outcomes_ok ha52) rfl (.nil ⟨rfl, rfl⟩)
    exact rfl
    apply DrawSeqE.consN; exact rfl; exact rfl; intro E
    refine AOps.move rfl rfl (.nil ⟨rfl, rfl⟩)
    exact rfl
    apply DrawSeqE.consN; exact rfl; exact rfl; intro E
    refine AOps.extract rfl rfl rfl (.nil ⟨rfl, rfl⟩)
    exact rfl
    apply DrawSeqE.consN; exact rfl; exact rfl; intro E
    refine AOps.extract rfl rfl rfl (.nil ⟨rfl, rfl⟩)
    exact rfl
    apply DrawSeqE.consN; exact rfl; exact rfl; intro E
    refine AOps.extract rfl rfl rfl (.nil ⟨rfl, rfl⟩)
    exact rfl
    apply DrawSeqE.consE; exact rfl; exact rfl; intro E
    refine W.alloc rfl rfl rfl rfl (.nil ⟨rfl, rfl⟩)
    exact rfl
    exact rfl
    apply DrawSeqE.consN; exact rfl; exact rfl; intro E
    refine AOps.assign rfl rfl (.nil ⟨rfl, rfl⟩)
    exact rfl
    apply DrawSeqE.consN; exact rfl; exact rfl; intro E
    refine AOps.assign rfl rfl (.nil ⟨rfl, rfl⟩)
    exact rfl
    apply DrawSeqE.consE (v := .undef); exact rfl; exact rfl; intro E
    refine W.storeAgg rfl rfl rfl rfl rfl rfl rfl (.nil ⟨rfl, rfl⟩)
    exact rfl
    exact rfl
    refine DrawSeqE.done rfl ?_ ?_
    ·apply RestI.cons; exact rfl; exact rfl
     first | refine RestK.skip rfl ?_ | (apply RestK.go; exact rfl; exact rfl; intro E; (refine W.loadAgg rfl rfl rfl rfl rfl rfl rfl ?_); exact AOps.nil ⟨rfl, rfl⟩)
     first | refine RestK.skip rfl ?_ | (apply RestK.go; exact rfl; exact rfl; intro E; (refine W.loadAgg rfl rfl rfl rfl rfl rfl rfl ?_); exact AOps.nil ⟨rfl, rfl⟩)
     first | refine RestK.skip rfl ?_ | (apply RestK.go; exact rfl; exact rfl; intro E; (refine W.loadAgg rfl rfl rfl rfl rfl rfl rfl ?_); exact AOps.nil ⟨rfl, rfl⟩)
     exact RestK.nil
     apply RestI.cons; exact rfl; exact rfl
     first | refine RestK.skip rfl ?_ | (apply RestK.go; exact rfl; exact rfl; intro E; (refine AOps.move rfl rfl ?_); exact AOps.nil ⟨rfl, rfl⟩)
     first | refine RestK.skip rfl ?_ | (apply RestK.go; exact rfl; exact rfl; intro E; (refine AOps.move rfl rfl ?_); exact AOps.nil ⟨rfl, rfl⟩)
     first | refine RestK.skip rfl ?_ | (apply RestK.go; exact rfl; exact rfl; intro E; (refine AOps.move rfl rfl ?_); exact AOps.nil ⟨rfl, rfl⟩)
     exact RestK.nil
     apply RestI.cons; exact rfl; exact rfl
     first | refine RestK.skip rfl ?_ | (apply RestK.go; exact rfl; exact rfl; intro E; (refine AOps.move rfl rfl ?_); exact AOps.nil ⟨rfl, rfl⟩)
     first | refine RestK.skip rfl ?_ | (apply RestK.go; exact rfl; exact rfl; intro E; (refine AOps.move rfl rfl ?_); exact AOps.nil ⟨rfl, rfl⟩)
     first | refine RestK.skip rfl ?_ | (apply RestK.go; exact rfl; exact rfl; intro E; (refine AOps.move rfl rfl ?_); exact AOps.nil ⟨rfl, rfl⟩)
     exact RestK.nil
     apply RestI.cons; exact rfl; exact rfl
     first | refine RestK.skip rfl ?_ | (apply RestK.go; exact rfl; exact rfl; intro E; (refine S.idx ha49 rfl rfl rfl rfl ?_); exact AOps.nil ⟨rfl, rfl⟩)
     first | refine RestK.skip rfl ?_ | (apply RestK.go; exact rfl; exact rfl; intro E; (refine S.idx ha49 rfl rfl rfl rfl ?_); exact AOps.nil ⟨rfl, rfl⟩)
     first | refine RestK.skip rfl ?_ | (apply RestK.go; exact rfl; exact rfl; intro E; (refine S.idx ha49 rfl rfl rfl rfl ?_); exact AOps.nil ⟨rfl, rfl⟩)
     exact RestK.nil
     apply RestI.cons; exact rfl; exact rfl
     first | refine RestK.skip rfl ?_ | (apply RestK.go; exact rfl; exact rfl; intro E; (refine AOps.loadI rfl rfl rfl rfl ?_); exact AOps.nil ⟨rfl, rfl⟩)
     first | refine RestK.skip rfl ?_ | (apply RestK.go; exact rfl; exact rfl; intro E; (refine AOps.loadI rfl rfl rfl rfl ?_); exact AOps.nil ⟨rfl, rfl⟩)
     first | refine RestK.skip rfl ?_ | (apply RestK.go; exact rfl; exact rfl; intro E; (refine AOps.loadI rfl rfl rfl rfl ?_); exact AOps.nil ⟨rfl, rfl⟩)
     exact RestK.nil
     apply RestI.cons; exact rfl; exact rfl
     first | refine RestK.skip rfl ?_ | (apply RestK.go; exact rfl; exact rfl; intro E; (refine AOps.move rfl rfl ?_); exact AOps.nil ⟨rfl, rfl⟩)
     first | refine RestK.skip rfl ?_ | (apply RestK.go; exact rfl; exact rfl; intro E; (refine AOps.move rfl rfl ?_); exact AOps.nil ⟨rfl, rfl⟩)
     first | refine RestK.skip rfl ?_ | (apply RestK.go; exact rfl; exact rfl; intro E; (refine AOps.move rfl rfl ?_); exact AOps.nil ⟨rfl, rfl⟩)
     exact RestK.nil
     apply RestI.cons; exact rfl; exact rfl
     first | refine RestK.skip rfl ?_ | (apply RestK.go; exact rfl; exact rfl; intro E; (refine AOps.callR rfl rfl rfl rfl (open_Outcomes_ok ha52) rfl ?_); exact AOps.nil ⟨rfl, rfl⟩)
     first | refine RestK.skip rfl ?_ | (apply RestK.go; exact rfl; exact rfl; intro E; (refine AOps.callR rfl rfl rfl rfl (open_Outcomes_ok ha52) rfl ?_); exact AOps.nil ⟨rfl, rfl⟩)
     first | refine RestK.skip rfl ?_ | (apply RestK.go; exact rfl; exact rfl; intro E; (refine AOps.callR rfl rfl rfl rfl (open_Outcomes_ok ha52) rfl ?_); exact AOps.nil ⟨rfl, rfl⟩)
     exact RestK.nil
     apply RestI.cons; exact rfl; exact rfl
     first | refine RestK.skip rfl ?_ | (apply RestK.go; exact rfl; exact rfl; intro E; (refine AOps.move rfl rfl ?_); exact AOps.nil ⟨rfl, rfl⟩)
     first | refine RestK.skip rfl ?_ | (apply RestK.go; exact rfl; exact rfl; intro E; (refine AOps.move rfl rfl ?_); exact AOps.nil ⟨rfl, rfl⟩)
     first | refine RestK.skip rfl ?_ | (apply RestK.go; exact rfl; exact rfl; intro E; (refine AOps.move rfl rfl ?_); exact AOps.nil ⟨rfl, rfl⟩)
     exact RestK.nil
     apply RestI.cons; exact rfl; exact rfl
     first | refine RestK.skip rfl ?_ | (apply RestK.go; exact rfl; exact rfl; intro E; (refine AOps.extract rfl rfl rfl ?_); exact AOps.nil ⟨rfl, rfl⟩)
     first | refine RestK.skip rfl ?_ | (apply RestK.go; exact rfl; exact rfl; intro E; (refine AOps.extract rfl rfl rfl ?_); exact AOps.nil ⟨rfl, rfl⟩)
     first | refine RestK.skip rfl ?_ | (apply RestK.go; exact rfl; exact rfl; intro E; (refine AOps.extract rfl rfl rfl ?_); exact AOps.nil ⟨rfl, rfl⟩)
     exact RestK.nil
     apply RestI.cons; exact rfl; exact rfl
     first | refine RestK.skip rfl ?_ | (apply RestK.go; exact rfl; exact rfl; intro E; (refine AOps.extract rfl rfl rfl ?_); exact AOps.nil ⟨rfl, rfl⟩)
     first | refine RestK.skip rfl ?_ | (apply RestK.go; exact rfl; exact rfl; intro E; (refine AOps.extract rfl rfl rfl ?_); exact AOps.nil ⟨rfl, rfl⟩)
     first | refine RestK.skip rfl ?_ | (apply RestK.go; exact rfl; exact rfl; intro E; (refine AOps.extract rfl rfl rfl ?_); exact AOps.nil ⟨rfl, rfl⟩)
     exact RestK.nil
     apply RestI.cons; exact rfl; exact rfl
     first | refine RestK.skip rfl ?_ | (apply RestK.go; exact rfl; exact rfl; intro E; (refine AOps.extract rfl rfl rfl ?_); exact AOps.nil ⟨rfl, rfl⟩)
     first | refine RestK.skip rfl ?_ | (apply RestK.go; exact rfl; exact rfl; intro E; (refine AOps.extract rfl rfl rfl ?_); exact AOps.nil ⟨rfl, rfl⟩)
     first | refine RestK.skip rfl ?_ | (apply RestK.go; exact rfl; exact rfl; intro E; (refine AOps.extract rfl rfl rfl ?_); exact AOps.nil ⟨rfl, rfl⟩)
     exact RestK.nil
     refine RestI.skip rfl ?_
     apply RestI.cons; exact rfl; exact rfl
     first | refine RestK.skip rfl ?_ | (apply RestK.go; exact rfl; exact rfl; intro E; (refine AOps.assign rfl rfl ?_); exact AOps.nil ⟨rfl, rfl⟩)
     first | refine RestK.skip rfl ?_ | (apply RestK.go; exact rfl; exact rfl; intro E; (refine AOps.assign rfl rfl ?_); exact AOps.nil ⟨rfl, rfl⟩)
     first | refine RestK.skip rfl ?_ | (apply RestK.go; exact rfl; exact rfl; intro E; (refine AOps.assign rfl rfl ?_); exact AOps.nil ⟨rfl, rfl⟩)
     exact RestK.nil
     apply RestI.cons; exact rfl; exact rfl
     first | refine RestK.skip rfl ?_ | (apply RestK.go; exact rfl; exact rfl; intro E; (refine AOps.assign rfl rfl ?_); exact AOps.nil ⟨rfl, rfl⟩)
     first | refine RestK.skip rfl ?_ | (apply RestK.go; exact rfl; exact rfl; intro E; (refine AOps.assign rfl rfl ?_); exact AOps.nil ⟨rfl, rfl⟩)
     first | refine RestK.skip rfl ?_ | (apply RestK.go; exact rfl; exact rfl; intro E; (refine AOps.assign rfl rfl ?_); exact AOps.nil ⟨rfl, rfl⟩)
     exact RestK.nil
     refine RestI.skip rfl (RestI.nil)
    dsimp only [envEnd]
    refine thn_normal (.seq (.seq (.region (.assign rfl rfl (.nil (thn_normal (.block ?_)))))))
    obtain ⟨oo, ho1, h⟩ := bind_some h
    refine AWP.rngS ho1 (fun kv13 _ => ⟨[(7, .c (row 1 eLi64 a15.1)), (9, .c (row 1 eLi64 a52.1)), (11, .c (.ptr 2 0 0)), (12, .c (int kv13))], [.dead, .dead, .one (.cells 2 [[int a52.2.2.code, int a52.2.2.index]])]⟩) (fun o e st => match o with | .inl _ => e = .exit 0 ∧ Sub [] st ⟨[(11, .c (.ptr 2 0 0))], [.dead, .dead, .one (.cells 2 [[int a52.2.2.code, int a52.2.2.index]])]⟩ | .inr x => e = .ret ∧ Done [.t 6] (fun t _ => t = .c (bool x)) .ret st) ?_ ?_ ?_ ?_
    ·try dsimp only
     exact Sub.cut ⟨rfl, rfl, rfl, rfl, trivial⟩ rfl ⟨.dead, .dead, .one rfl, trivial⟩ rfl
    ·intro kv13 s hlokv13 hltkv13 _
     try dsimp only
     refine AWP.seq (.seq (.region (.move rfl rfl (.move rfl rfl (S.len rfl rfl (fun hl58 => .lss rfl rfl rfl (.nil (thn_normal (.condNP rfl hltkv13 (.exit (thn_exit (thn_exit ⟨rfl, ?_⟩))))))))))))
     exact Sub.env ⟨rfl, trivial⟩
    ·intro kv13 s o hlokv13 hltkv13 h
     unfold law8_OpenExploreIsClosed_l1 at h
     try dsimp only at h ⊢
     refine AWP.seq (.seq (.region (.move rfl rfl (.move rfl rfl (S.len rfl rfl (fun hl58 => .lss rfl rfl rfl (.nil (thn_normal (.condP rfl hltkv13 (.skip (thn_normal (.seq (.block (.seq ?_))))))))))))))
     obtain ⟨a65, ha65, h⟩ := bind_some h
     obtain ⟨a67, ha67, h⟩ := bind_some h
     refine AWP.region (.move rfl rfl (.move rfl rfl (.move rfl rfl (S.idx ha65 rfl rfl rfl rfl (.loadI rfl rfl rfl rfl (.callR rfl rfl rfl rfl (ref1_Place_ok ha67) rfl (.lss rfl rfl rfl (.nil (thn_normal (.ite rfl h (fun hc14 h => ?_) (fun hc14 h => ?_)))))))))))
     ·refine AWP.seq (.region (.assign rfl rfl (.nil (thn_normal (.ret (inB_ret (thn_ret ?_)))))))
      have ej := Option.some.inj h
      subst ej
      refine thn_ret ⟨_, rfl, rfl, ?_⟩
      exact Done.ret rfl rfl
     ·refine AWP.skip (inB_normal (thn_normal (.region (.move rfl rfl (.add rfl rfl rfl (by omega) (.assign rfl rfl (.nil ?_)))))))
      have ej := Option.some.inj h
      subst ej
      refine thn_normal ⟨_, rfl, ?_⟩
      exact Sub.env ⟨rfl, rfl, rfl, rfl, trivial⟩
    ·intro e s hq
     rcases oo with u | x
     ·try dsimp only at h hq
      obtain ⟨rfl, hs⟩ := hq
      refine ⟨_, hs, ?_⟩
      refine inB_exit (thn_normal ?_)
      obtain ⟨t15, hx16, h⟩ := bind_some h
      refine AWP.seqJ (⟨[(6, .c (bool t15))], []⟩) ?_ ?_
      ·rcases Bool.eq_false_or_eq_true (decide (a52.2.2.code = 0)) with hb17 | hb17
       ·replace hx16 := iteDT hb17 hx16
        obtain ⟨a83, ha83, hx16⟩ := bind_some hx16
        refine AWP.region (W.fieldAddr rfl rfl rfl rfl (.load rfl rfl rfl rfl rfl rfl (.eql rfl rfl rfl (.move rfl rfl (.guardF rfl rfl rfl hb17 (.guardF rfl rfl rfl hb17 (.guardF rfl rfl rfl hb17 (.pickT rfl hb17 rfl rfl (.move rfl rfl (.guardF rfl rfl rfl rfl (.guardF rfl rfl rfl rfl (.guardF rfl rfl rfl rfl (.pickT rfl rfl rfl rfl (.move rfl rfl (.guardT rfl rfl rfl rfl (.callR rfl rfl rfl rfl (law8_tossed_ok ha83) rfl (.pickT rfl rfl rfl rfl (.assign rfl rfl (.nil ?_)))))))))))))))))))
        have ej := Option.some.inj hx16
        subst ej
        refine thn_normal (Sub.cut ⟨rfl, trivial⟩ rfl trivial rfl)
       ·replace hx16 := iteDF hb17 hx16
        rcases Bool.eq_false_or_eq_true (decide (a52.2.2.code = 3)) with hb18 | hb18
        ·replace hx16 := iteDT hb18 hx16
         obtain ⟨a83, ha83, hx16⟩ := bind_some hx16
         refine AWP.region (W.fieldAddr rfl rfl rfl rfl (.load rfl rfl rfl rfl rfl rfl (.eql rfl rfl rfl (.move rfl rfl (.guardT rfl rfl rfl hb17 (W.fieldAddr rfl rfl rfl rfl (.guardT rfl rfl rfl hb17 (.load rfl rfl rfl rfl rfl rfl (.guardT rfl rfl rfl hb17 (.eql rfl rfl rfl (.pickF rfl hb17 rfl rfl (.move rfl rfl (.guardF rfl rfl rfl hb18 (.guardF rfl rfl rfl hb18 (.guardF rfl rfl rfl hb18 (.pickT rfl hb18 rfl rfl (.move rfl rfl (.guardT rfl rfl rfl rfl (.callR rfl rfl rfl rfl (law8_tossed_ok ha83) rfl (.pickT rfl rfl rfl rfl (.assign rfl rfl (.nil ?_))))))))))))))))))))))
         have ej := Option.some.inj hx16
         subst ej
         refine thn_normal (Sub.cut ⟨rfl, trivial⟩ rfl trivial rfl)
        ·replace hx16 := iteDF hb18 hx16
         rcases Bool.eq_false_or_eq_true (decide (a52.2.2.code = 11)) with hb19 | hb19
         ·replace hx16 := iteDT hb19 hx16
          obtain ⟨a83, ha83, hx16⟩ := bind_some hx16
          refine AWP.region (W.fieldAddr rfl rfl rfl rfl (.load rfl rfl rfl rfl rfl rfl (.eql rfl rfl rfl (.move rfl rfl (.guardT rfl rfl rfl hb17 (W.fieldAddr rfl rfl rfl rfl (.guardT rfl rfl rfl hb17 (.load rfl rfl rfl rfl rfl rfl (.guardT rfl rfl rfl hb17 (.eql rfl rfl rfl (.pickF rfl hb17 rfl rfl (.move rfl rfl (.guardT rfl rfl rfl hb18 (W.fieldAddr rfl rfl rfl rfl (.guardT rfl rfl rfl hb18 (.load rfl rfl rfl rfl rfl rfl (.guardT rfl rfl rfl hb18 (.eql rfl rfl rfl (.pickF rfl hb18 rfl rfl (.move rfl rfl (.guardT rfl rfl rfl hb19 (.callR rfl rfl rfl rfl (law8_tossed_ok ha83) rfl (.pickT rfl hb19 rfl rfl (.assign rfl rfl (.nil ?_)))))))))))))))))))))))))
          have ej := Option.some.inj hx16
          subst ej
          refine thn_normal (Sub.cut ⟨rfl, trivial⟩ rfl trivial rfl)
         ·replace hx16 := iteDF hb19 hx16
          refine AWP.region (W.fieldAddr rfl rfl rfl rfl (.load rfl rfl rfl rfl rfl rfl (.eql rfl rfl rfl (.move rfl rfl (.guardT rfl rfl rfl hb17 (W.fieldAddr rfl rfl rfl rfl (.guardT rfl rfl rfl hb17 (.load rfl rfl rfl rfl rfl rfl (.guardT rfl rfl rfl hb17 (.eql rfl rfl rfl (.pickF rfl hb17 rfl rfl (.move rfl rfl (.guardT rfl rfl rfl hb18 (W.fieldAddr rfl rfl rfl rfl (.guardT rfl rfl rfl hb18 (.load rfl rfl rfl rfl rfl rfl (.guardT rfl rfl rfl hb18 (.eql rfl rfl rfl (.pickF rfl hb18 rfl rfl (.move rfl rfl (.guardF rfl rfl rfl hb19 (.pickF rfl hb19 rfl rfl (.assign rfl rfl (.nil ?_))))))))))))))))))))))))
          have ej := Option.some.inj hx16
          subst ej
          refine thn_normal (Sub.cut ⟨rfl, trivial⟩ rfl trivial rfl)
      ·refine AWP.ret ?_
       have ej := Option.some.inj h
       subst ej
       exact Done.ret rfl rfl
     ·try dsimp only at h hq
      obtain ⟨rfl, hs⟩ := hq
      refine ⟨_, Sub.refl _ _, ?_⟩
      refine inB_ret (thn_ret ?_)
      have ej := Option.some.inj h
      subst ej
      exact hs
end Ab
end
section
namespace Ab
open Go Go.Proofs
set_option maxHeartbeats 4000000
set_option linter.all false
attribute [local irreducible] AWP AOps thn inB Done PureOk FreshOk Sub
end Ab
end
section
namespace Ab
open Go
theorem ix_nat {α : Type} {l : List α} {k : Nat} : ix l (k : Int) = l[k]? := by simp [ix]
theorem ix_of {α : Type} {l : List α} {i : Int} (h0 : 0 ≤ i) (h1 : i < l.length) : ∃ a, ix l i = some a ∧ l[i.toNat]? = some a := by
  have h : i.toNat < l.length := by omega
  exact ⟨l[i.toNat], by simp [ix, h0, h], by simp [h]⟩
theorem ix_lo {α : Type} {l : List α} {i : Int} {a : α} (h : ix l i = some a) : 0 ≤ i ∧ i < l.length ∧ l[i.toNat]? = some a := by
  unfold ix at h
  split at h
  · have := (List.getElem?_eq_some_iff.1 h).1
    exact ⟨by assumption, by omega, h⟩
  · cases h
theorem w64_of {n : Int} (h1 : -9223372036854775808 ≤ n) (h2 : n ≤ 9223372036854775807) : w64 n = n := w64_eq ⟨h1, h2⟩
theorem forN_inv {S : Type} {body : Int → S → Option S} (P : Int → S → Prop) : ∀ (k : Nat) (i : Int) (s : S), P i s →
    (∀ j s, i ≤ j → j < i + k → P j s → ∃ s', body j s = some s' ∧ P (j + 1) s') → ∃ s', forN body k i s = some s' ∧ P (i + k) s'
  | 0, i, s, h, _ => ⟨s, rfl, by simpa using h⟩
  | k + 1, i, s, h, hb => by
    obtain ⟨s1, h1, h2⟩ := hb i s (Int.le_refl _) (by omega) h
    obtain ⟨s2, h3, h4⟩ := forN_inv P k (i + 1) s1 h2 (fun j s g1 g2 => hb j s (by omega) (by omega))
    exact ⟨s2, by simp only [forN, h1]; exact h3, by rw [show i + ((k + 1 : Nat) : Int) = i + 1 + k by omega]; exact h4⟩
/-- A loop over numbers, from what it keeps. -/
theorem forR_inv {S : Type} {body : Int → S → Option S} {n : Int} (P : Int → S → Prop) {s : S} (hn : 0 ≤ n) (h0 : P 0 s)
    (hb : ∀ j s, 0 ≤ j → j < n → P j s → ∃ s', body j s = some s' ∧ P (j + 1) s') : ∃ s', forR 0 n body s = some s' ∧ P n s' := by
  obtain ⟨s', h1, h2⟩ := forN_inv P (n - 0).toNat 0 s h0 (fun j s g1 g2 => hb j s g1 (by omega))
  exact ⟨s', h1, by rwa [show (0 : Int) + ((n - 0).toNat : Int) = n by omega] at h2⟩
theorem rngN_inv {S O : Type} {body : Int → S → Option (S ⊕ O)} (P : Int → S → Prop) (Q : O → Prop) : ∀ (k : Nat) (i : Int) (s : S), P i s →
    (∀ j s, i ≤ j → j < i + k → P j s → (∃ s', body j s = some (.inl s') ∧ P (j + 1) s') ∨ ∃ o, body j s = some (.inr o) ∧ Q o) →
    (∃ s', rngN body k i s = some (.inl s') ∧ P (i + k) s') ∨ ∃ o, rngN body k i s = some (.inr o) ∧ Q o
  | 0, i, s, h, _ => .inl ⟨s, rfl, by simpa using h⟩
  | k + 1, i, s, h, hb => by
    rcases hb i s (Int.le_refl _) (by omega) h with ⟨s1, h1, h2⟩ | ⟨o, h1, h2⟩
    · rcases rngN_inv P Q k (i + 1) s1 h2 (fun j s g1 g2 => hb j s (by omega) (by omega)) with ⟨s2, h3, h4⟩ | ⟨o, h3, h4⟩
      · exact .inl ⟨s2, by simp only [rngN, h1]; exact h3, by rw [show i + ((k + 1 : Nat) : Int) = i + 1 + k by omega]; exact h4⟩
      · exact .inr ⟨o, by simp only [rngN, h1]; exact h3, h4⟩
    · exact .inr ⟨o, by simp only [rngN, h1], h2⟩
/-- A loop over numbers with ways out, from what it keeps. -/
theorem rngX_inv {S O : Type} {body : Int → S → Option (S ⊕ O)} {n : Int} (P : Int → S → Prop) (Q : O → Prop) {s : S} (hn : 0 ≤ n) (h0 : P 0 s)
    (hb : ∀ j s, 0 ≤ j → j < n → P j s → (∃ s', body j s = some (.inl s') ∧ P (j + 1) s') ∨ ∃ o, body j s = some (.inr o) ∧ Q o) :
    (∃ s', rngX 0 n body s = some (.inl s') ∧ P n s') ∨ ∃ o, rngX 0 n body s = some (.inr o) ∧ Q o := by
  rcases rngN_inv P Q (n - 0).toNat 0 s h0 (fun j s g1 g2 => hb j s g1 (by omega)) with ⟨s', h1, h2⟩ | h
  · exact .inl ⟨s', h1, by rwa [show (0 : Int) + ((n - 0).toNat : Int) = n by omega] at h2⟩
  · exact .inr h
/-- A loop that tests: all pass. -/
theorem rngX_all {O : Type} {body : Int → Unit → Option (Unit ⊕ O)} {n : Int} (hn : 0 ≤ n) (hb : ∀ j, 0 ≤ j → j < n → body j () = some (.inl ())) : rngX 0 n body () = some (.inl ()) := by
  rcases rngX_inv (body := body) (fun _ _ => True) (fun _ => False) (s := ()) hn trivial (fun j s g1 g2 _ => .inl ⟨(), hb j g1 g2, trivial⟩) with ⟨s', h, _⟩ | ⟨o, _, h⟩
  · exact h
  · exact h.elim
theorem LoopN_inv {S O : Type} {body : S → Option (S ⊕ O)} (P : S → Prop) (Q : O → Prop) (μ : S → Nat) (hb : ∀ s, P s → (∃ s', body s = some (.inl s') ∧ P s' ∧ μ s' < μ s) ∨ ∃ o, body s = some (.inr o) ∧ Q o) :
    ∀ (k : Nat) (s : S), μ s < k → P s → ∃ o, LoopN body k s = some o ∧ Q o
  | 0, s, h, _ => by omega
  | k + 1, s, h, hs => by
    rcases hb s hs with ⟨s', h1, h2, h3⟩ | ⟨o, h1, h2⟩
    · obtain ⟨o, g1, g2⟩ := LoopN_inv P Q μ hb k s' (by omega) h2
      exact ⟨o, by simp only [LoopN, h1]; exact g1, g2⟩
    · exact ⟨o, by simp only [LoopN, h1], h2⟩
/-- A loop, from what it keeps and a measure that sinks. -/
theorem Loop_inv {S O : Type} {body : S → Option (S ⊕ O)} (P : S → Prop) (Q : O → Prop) (μ : S → Nat) {s : S} (hs : P s)
    (hb : ∀ s, P s → (∃ s', body s = some (.inl s') ∧ P s' ∧ μ s' < μ s) ∨ ∃ o, body s = some (.inr o) ∧ Q o) : ∃ o, Loop body s = some o ∧ Q o := by
  obtain ⟨o, h1, h2⟩ := LoopN_inv P Q μ hb (μ s + 1) s (by omega) hs
  exact ⟨o, Loop_iff.2 ⟨_, h1⟩, h2⟩
/-! ### Two loops that do the same -/
theorem rngN_eq {S O : Type} {b1 b2 : Int → S → Option (S ⊕ O)} (P : Int → S → Prop) : ∀ (k : Nat) (i : Int) (s : S), P i s →
    (∀ j s, i ≤ j → j < i + k → P j s → b1 j s = b2 j s ∧ b1 j s ≠ none ∧ ∀ s', b1 j s = some (.inl s') → P (j + 1) s') →
    rngN b1 k i s = rngN b2 k i s ∧ rngN b1 k i s ≠ none ∧ ∀ s', rngN b1 k i s = some (.inl s') → P (i + k) s'
  | 0, i, s, h, _ => ⟨rfl, by simp [rngN], fun s' hs => by simp only [rngN, Option.some.injEq, Sum.inl.injEq] at hs; subst hs; simpa using h⟩
  | k + 1, i, s, h, hb => by
    obtain ⟨h1, h2, h3⟩ := hb i s (Int.le_refl _) (by omega) h
    simp only [rngN]
    rw [← h1]
    cases hc : b1 i s with
    | none => exact absurd hc h2
    | some x =>
      cases x with
      | inr o => exact ⟨rfl, by simp, fun s' hs => by simp at hs⟩
      | inl s1 =>
        dsimp only
        have := rngN_eq (b1 := b1) (b2 := b2) P k (i + 1) s1 (h3 s1 hc) (fun j s g1 g2 => hb j s (by omega) (by omega))
        rwa [show i + 1 + (k : Int) = i + ((k + 1 : Nat) : Int) by omega] at this
theorem rngX_eq {S O : Type} {b1 b2 : Int → S → Option (S ⊕ O)} {n : Int} (P : Int → S → Prop) {s : S} (hn : 0 ≤ n) (h0 : P 0 s)
    (hb : ∀ j s, 0 ≤ j → j < n → P j s → b1 j s = b2 j s ∧ b1 j s ≠ none ∧ ∀ s', b1 j s = some (.inl s') → P (j + 1) s') :
    rngX 0 n b1 s = rngX 0 n b2 s ∧ rngX 0 n b1 s ≠ none ∧ ∀ s', rngX 0 n b1 s = some (.inl s') → P n s' := by
  have := rngN_eq P (n - 0).toNat 0 s h0 (fun j s g1 g2 => hb j s g1 (by omega))
  rwa [show (0 : Int) + ((n - 0).toNat : Int) = n by omega] at this
end Ab
end
section
namespace Ab
open Go
/-- A proposition as' a truth value. -/
noncomputable def dec (p : Prop) : Bool := @decide p (Classical.propDecidable p)
@[simp] theorem dec_true {p : Prop} : dec p = true ↔ p := by simp [dec]
@[simp] theorem dec_false {p : Prop} : dec p = false ↔ ¬ p := by simp [dec]
@[simp] theorem dec_not {p : Prop} : (!dec p) = dec (¬ p) := by by_cases h : p <;> simp [dec, h]
theorem decide_dec {p : Prop} [Decidable p] : decide p = dec p := by by_cases h : p <;> simp [dec, h]
theorem dec_of {p : Prop} (h : p) : dec p = true := dec_true.2 h
theorem dec_no {p : Prop} (h : ¬ p) : dec p = false := dec_false.2 h
theorem dec_congr {p q : Prop} (h : p ↔ q) : dec p = dec q := by rw [propext h]
theorem dec_and {p q : Prop} : (dec p && dec q) = dec (p ∧ q) := by by_cases h : p <;> by_cases g : q <;> simp [dec, h, g]
theorem ifP {α : Type} {p : Prop} {a b : α} (h : p) : (if dec p = true then a else b) = a := if_pos (dec_of h)
theorem ifN {α : Type} {p : Prop} {a b : α} (h : ¬ p) : (if dec p = true then a else b) = b := if_neg fun g => h (dec_true.1 g)
theorem ifNN {α : Type} {p : Prop} {a b : α} (h : p) : (if dec (¬ p) = true then a else b) = b := ifN (not_not_intro h)
theorem ix_mem {α : Type} {l : List α} {i : Int} {a : α} (h : ix l i = some a) : a ∈ l := List.mem_of_getElem? (ix_lo h).2.2
theorem mem_ix {α : Type} {l : List α} {a : α} (h : a ∈ l) : ∃ i : Int, 0 ≤ i ∧ i < l.length ∧ ix l i = some a := by
  obtain ⟨k, hk⟩ := List.getElem?_of_mem h
  exact ⟨k, by omega, by have := (List.getElem?_eq_some_iff.1 hk).1; omega, by rw [ix_nat, hk]⟩
/-- A loop that tests: the first number that fails ends it. -/
theorem rngX_test {O : Type} {body : Int → Unit → Option (Unit ⊕ O)} {n : Int} (g : Int → Option O) (hn : 0 ≤ n)
    (hb : ∀ j, 0 ≤ j → j < n → (∀ i, 0 ≤ i → i < j → g i = none) → body j () = some (match g j with | none => .inl () | some o => .inr o)) :
    (rngX 0 n body () = some (.inl ()) ∧ ∀ j, 0 ≤ j → j < n → g j = none) ∨ ∃ j o, 0 ≤ j ∧ j < n ∧ g j = some o ∧ (∀ i, 0 ≤ i → i < j → g i = none) ∧ rngX 0 n body () = some (.inr o) := by
  rcases rngX_inv (body := body) (n := n) (fun j _ => ∀ i, 0 ≤ i → i < j → g i = none) (fun o => ∃ j, 0 ≤ j ∧ j < n ∧ g j = some o ∧ ∀ i, 0 ≤ i → i < j → g i = none) (s := ()) hn (fun i h1 h2 => by omega) (fun j s h0 h1 hP => by
    have := hb j h0 h1 hP
    cases hg : g j with
    | none => rw [hg] at this; exact .inl ⟨(), this, fun i h2 h3 => by
        rcases Int.lt_or_eq_of_le (Int.le_of_lt_add_one h3) with h | h
        · exact hP i h2 h
        · rw [h, hg]⟩
    | some o => rw [hg] at this; exact .inr ⟨o, this, j, h0, h1, hg, hP⟩) with ⟨s', h1, h2⟩ | ⟨o, h1, j, h2, h3, h4, h5⟩
  · exact .inl ⟨h1, h2⟩
  · exact .inr ⟨j, o, h2, h3, h4, h5, h1⟩
/-- A loop over a list that tests its elements. -/
theorem rng_list {α O : Type} {l : List α} {body : Int → Unit → Option (Unit ⊕ O)} (q : α → Prop) (b : O)
    (hb : ∀ j a, ix l j = some a → (q a ∧ body j () = some (.inl ())) ∨ (¬ q a ∧ body j () = some (.inr b))) :
    rngX 0 (l.length : Int) body () = some (if dec (∀ a ∈ l, q a) = true then .inl () else .inr b) := by
  rcases rngX_test (body := body) (n := (l.length : Int)) (fun j => match ix l j with | some a => if dec (q a) = true then none else some b | none => none) (by omega) (fun j h0 h1 _ => by
    obtain ⟨a, h2, _⟩ := ix_of h0 h1
    rw [h2]
    rcases hb j a h2 with ⟨h3, h4⟩ | ⟨h3, h4⟩
    · rw [h4]; simp [h3]
    · rw [h4]; simp [h3]) with ⟨h1, h2⟩ | ⟨j, o, h0, h1, h2, _, h4⟩
  · rw [h1, if_pos]
    rw [dec_true]
    intro a ha
    obtain ⟨i, g1, g2, g3⟩ := mem_ix ha
    have := h2 i g1 g2
    rw [g3] at this
    simpa using this
  · rw [h4]
    obtain ⟨a, g1, _⟩ := ix_of h0 h1
    rw [g1] at h2
    simp only [dec_true] at h2
    split at h2
    · cases h2
    · rename_i hq
      cases h2
      rw [if_neg]
      rw [dec_true]
      exact fun h => hq (dec_of (h a (ix_mem g1)))
/-- Rising lists. -/
abbrev Inc (l : List Int) : Prop := l.Pairwise (· < ·)
theorem inc_of_adj : ∀ {l : List Int}, (∀ (k : Nat) a b, l[k]? = some a → l[k + 1]? = some b → a < b) → Inc l
  | [], _ => .nil
  | [_], _ => by simp
  | a :: b :: l, h => by
    have ih : Inc (b :: l) := inc_of_adj fun k x y h1 h2 => h (k + 1) x y (by simpa using h1) (by simpa using h2)
    have hab : a < b := h 0 a b rfl rfl
    refine List.pairwise_cons.2 ⟨fun c hc => ?_, ih⟩
    rcases List.mem_cons.1 hc with rfl | hc
    · exact hab
    · exact Int.lt_trans hab ((List.pairwise_cons.1 ih).1 c hc)
theorem Inc.get {l : List Int} (h : Inc l) {i j : Nat} {a b : Int} (hi : l[i]? = some a) (hj : l[j]? = some b) (hij : i < j) : a < b := by
  obtain ⟨h1, rfl⟩ := List.getElem?_eq_some_iff.1 hi
  obtain ⟨h2, rfl⟩ := List.getElem?_eq_some_iff.1 hj
  exact List.pairwise_iff_getElem.1 h i j h1 h2 hij
theorem Inc.ext : ∀ {l m : List Int}, Inc l → Inc m → (∀ x, x ∈ l ↔ x ∈ m) → l = m
  | [], [], _, _, _ => rfl
  | [], b :: m, _, _, h => absurd ((h b).2 (by simp)) (by simp)
  | a :: l, [], _, _, h => absurd ((h a).1 (by simp)) (by simp)
  | a :: l, b :: m, hl, hm, h => by
    obtain ⟨l1, l2⟩ := List.pairwise_cons.1 hl
    obtain ⟨m1, m2⟩ := List.pairwise_cons.1 hm
    have hab : a = b := by
      rcases List.mem_cons.1 ((h a).1 (by simp)) with e | e
      · exact e
      · rcases List.mem_cons.1 ((h b).2 (by simp)) with e' | e'
        · exact e'.symm
        · have := l1 b e'; have := m1 a e; omega
    subst hab
    rw [Inc.ext l2 m2 fun x => ⟨fun hx => ?_, fun hx => ?_⟩]
    · rcases List.mem_cons.1 ((h x).1 (by simp [hx])) with e | e
      · have := l1 x hx; omega
      · exact e
    · rcases List.mem_cons.1 ((h x).2 (by simp [hx])) with e | e
      · have := m1 x hx; omega
      · exact e
theorem Inc.filter {l : List Int} (h : Inc l) (p : Int → Bool) : Inc (l.filter p) := List.Pairwise.filter p h
/-- Numbers from lo on. -/
def nums (lo : Int) : Nat → List Int
  | 0 => []
  | k + 1 => lo :: nums (lo + 1) k
theorem mem_nums {x : Int} : ∀ {k : Nat} {lo : Int}, x ∈ nums lo k ↔ lo ≤ x ∧ x < lo + k
  | 0, lo => by simp [nums]
  | k + 1, lo => by
    rw [nums, List.mem_cons, mem_nums (k := k)]
    omega
theorem inc_nums : ∀ (k : Nat) (lo : Int), Inc (nums lo k)
  | 0, _ => .nil
  | k + 1, lo => List.pairwise_cons.2 ⟨fun x hx => by have := mem_nums.1 hx; omega, inc_nums k (lo + 1)⟩
theorem len_nums : ∀ (k : Nat) (lo : Int), (nums lo k).length = k
  | 0, _ => rfl
  | k + 1, lo => by simp [nums, len_nums k]
/-- The set of the numbers below n of which p holds. -/
noncomputable def setOf (p : Int → Prop) (n : Int) : List Int := (nums 0 n.toNat).filter fun x => dec (p x)
theorem mem_setOf {p : Int → Prop} {n x : Int} : x ∈ setOf p n ↔ 0 ≤ x ∧ x < n ∧ p x := by
  rw [setOf, List.mem_filter, mem_nums, dec_true]
  constructor
  · rintro ⟨⟨h1, h2⟩, h3⟩; exact ⟨h1, by omega, h3⟩
  · rintro ⟨h1, h2, h3⟩; exact ⟨⟨h1, by omega⟩, h3⟩
theorem inc_setOf (p : Int → Prop) (n : Int) : Inc (setOf p n) := (inc_nums _ _).filter _
theorem setOf_congr {p q : Int → Prop} {n : Int} (h : ∀ x, 0 ≤ x → x < n → (p x ↔ q x)) : setOf p n = setOf q n := by
  refine List.filter_congr fun x hx => dec_congr ?_
  have := mem_nums.1 hx
  exact h x (by omega) (by omega)
/-- A rising list of numbers below n. -/
def SetN (l : List Int) (n : Int) : Prop := Inc l ∧ ∀ x ∈ l, 0 ≤ x ∧ x < n
theorem setN_setOf (p : Int → Prop) (n : Int) : SetN (setOf p n) n := ⟨inc_setOf p n, fun x hx => by have := mem_setOf.1 hx; exact ⟨this.1, this.2.1⟩⟩
theorem SetN.eq {l : List Int} {n : Int} (h : SetN l n) : l = setOf (· ∈ l) n :=
  h.1.ext (inc_setOf _ _) fun x => ⟨fun hx => mem_setOf.2 ⟨(h.2 x hx).1, (h.2 x hx).2, hx⟩, fun hx => (mem_setOf.1 hx).2.2⟩
theorem SetN.eq_of {l : List Int} {n : Int} (h : SetN l n) {p : Int → Prop} (hp : ∀ x, 0 ≤ x → x < n → (x ∈ l ↔ p x)) : l = setOf p n :=
  h.eq.trans (setOf_congr hp)
theorem SetN.len {l : List Int} {n : Int} (h : SetN l n) : l.length ≤ n.toNat := by
  rw [h.eq, setOf]
  exact Nat.le_trans (List.length_filter_le _ _) (Nat.le_of_eq (len_nums _ _))
theorem setN_nil (n : Int) : SetN [] n := ⟨.nil, by simp⟩
/-- A list of the elements that pass, made by appending. -/
theorem forR_filter {α : Type} {l : List α} {b : Nat} {body : Int → List α → Option (List α)} (q : α → Prop)
    (hb : ∀ j a c, ix l j = some a → (q a → body j c = app b c [a]) ∧ (¬ q a → body j c = some c)) (c0 : List α) (hl : (c0.length + l.length) * b ≤ 140737488355328) :
    forR 0 (l.length : Int) body c0 = some (c0 ++ l.filter fun a => dec (q a)) := by
  obtain ⟨s', h1, h2⟩ := forR_inv (body := body) (n := (l.length : Int)) (s := c0) (fun j c => c = c0 ++ (l.take j.toNat).filter fun a => dec (q a)) (by omega) (by simp) (fun j c h0 h1 hP => by
    obtain ⟨a, g1, g2⟩ := ix_of h0 h1
    have e : (j + 1).toNat = j.toNat + 1 := by omega
    have ht : l.take (j + 1).toNat = l.take j.toNat ++ [a] := by rw [e, List.take_add_one, g2]; rfl
    by_cases hq : q a
    · have happ : app b c [a] = some (c ++ [a]) := by
        rw [app, if_pos]
        have h3 : ((l.take j.toNat).filter fun a => dec (q a)).length ≤ (l.take j.toNat).length := List.length_filter_le _ _
        rw [List.length_take] at h3
        have h5 : c.length + 1 ≤ c0.length + l.length := by rw [hP, List.length_append]; omega
        refine Nat.le_trans (Nat.mul_le_mul_right b ?_) hl
        simpa using h5
      refine ⟨c ++ [a], by rw [(hb j a c g1).1 hq, happ], ?_⟩
      rw [ht, List.filter_append, hP]
      simp [hq]
    · refine ⟨c, (hb j a c g1).2 hq, ?_⟩
      rw [ht, List.filter_append, hP]
      simp [hq])
  rw [h1, h2]
  simp
/-- The same over numbers. -/
theorem forR_setOf {b : Nat} {n : Int} {body : Int → List Int → Option (List Int)} (q : Int → Prop) (hn : 0 ≤ n) (hl : n.toNat * b ≤ 140737488355328)
    (hb : ∀ j c, 0 ≤ j → j < n → (q j → body j c = app b c [j]) ∧ (¬ q j → body j c = some c)) : forR 0 n body [] = some (setOf q n) := by
  obtain ⟨s', h1, h2⟩ := forR_inv (body := body) (n := n) (s := []) (fun j c => c = setOf q j) hn (by simp [setOf, nums]) (fun j c h0 h1 hP => by
    have hs : setOf q (j + 1) = setOf q j ++ if dec (q j) = true then [j] else [] := by
      refine (inc_setOf q (j + 1)).ext ?_ fun x => ?_
      · refine List.pairwise_append.2 ⟨inc_setOf _ _, by split <;> simp, fun a ha b hb => ?_⟩
        have := mem_setOf.1 ha
        split at hb
        · simp at hb; omega
        · cases hb
      · rw [List.mem_append, mem_setOf, mem_setOf]
        by_cases hq : q j
        · rw [if_pos (dec_of hq)]
          simp only [List.mem_singleton]
          refine ⟨fun h => ?_, fun h => ?_⟩
          · by_cases e : x = j
            · exact .inr e
            · exact .inl ⟨h.1, by omega, h.2.2⟩
          · rcases h with h | rfl
            · exact ⟨h.1, by omega, h.2.2⟩
            · exact ⟨h0, by omega, hq⟩
        · rw [if_neg (by simpa using hq)]
          simp only [List.not_mem_nil, or_false]
          refine ⟨fun h => ⟨h.1, ?_, h.2.2⟩, fun h => ⟨h.1, by omega, h.2.2⟩⟩
          rcases Int.lt_or_eq_of_le (Int.le_of_lt_add_one h.2.1) with e | e
          · exact e
          · rw [e] at h; exact absurd h.2.2 hq
    by_cases hq : q j
    · refine ⟨c ++ [j], ?_, by rw [hs, hP, if_pos (dec_of hq)]⟩
      rw [(hb j c h0 h1).1 hq, app, if_pos]
      have h3 : c.length ≤ j.toNat := by rw [hP]; exact (setN_setOf q j).len
      refine Nat.le_trans (Nat.mul_le_mul_right b ?_) hl
      simp; omega
    · refine ⟨c, (hb j c h0 h1).2 hq, ?_⟩
      rw [hs, hP, if_neg (by simpa using hq), List.append_nil])
  rw [h1, h2]
end Ab
end
section
namespace Ab
open Go
theorem has_eq (l : List Int) (n : Int) : ref1_Has l n = some (dec (n ∈ l)) := by
  unfold ref1_Has
  rw [rng_list (l := l) (fun a => a ≠ n) true (fun j a h => by
    unfold ref1_Has_l1
    rw [h]
    by_cases e : a = n <;> simp [e])]
  by_cases h : n ∈ l
  · rw [if_neg (by simp only [dec_true]; exact fun g => g n h rfl)]
    simp [h]
  · rw [if_pos (by simp only [dec_true]; exact fun a ha e => h (e ▸ ha))]
    simp [h]
theorem subset_eq (part l : List Int) : ref1_Subset part l = some (dec (∀ x ∈ part, x ∈ l)) := by
  unfold ref1_Subset
  rw [rng_list (l := part) (fun a => a ∈ l) false (fun j a h => by
    unfold ref1_Subset_l1
    rw [h]
    by_cases e : a ∈ l <;> simp [e, has_eq])]
  by_cases h : ∀ x ∈ part, x ∈ l
  · rw [if_pos (dec_of h), dec_of h]; rfl
  · rw [if_neg (by rw [dec_no h]; simp), dec_no h]; rfl
theorem disjoint_eq (a b : List Int) : ref1_Disjoint a b = some (dec (∀ x ∈ a, x ∉ b)) := by
  unfold ref1_Disjoint
  rw [rng_list (l := a) (fun x => x ∉ b) false (fun j x h => by
    unfold ref1_Disjoint_l1
    rw [h]
    by_cases e : x ∈ b <;> simp [e, has_eq])]
  by_cases h : ∀ x ∈ a, x ∉ b
  · rw [if_pos (dec_of h), dec_of h]; rfl
  · rw [if_neg (by rw [dec_no h]; simp), dec_no h]; rfl
theorem in_eq (n lo hi : Int) : ref1_In n lo hi = some (dec (lo ≤ n ∧ n ≤ hi)) := by
  unfold ref1_In; rw [decide_dec, decide_dec, dec_and]
theorem at_eq (c i : Int) : ref1_At c i = some ⟨c, i⟩ := rfl
/-- What a test of a rising list asks at a place. -/
def stepOk (l : List Int) (n j : Int) : Prop := ∀ a, ix l j = some a → (0 ≤ a ∧ a < n) ∧ ∀ b, 0 < j → ix l (j - 1) = some b → b < a
theorem stepOk_iff {l : List Int} {n : Int} : (∀ j : Int, 0 ≤ j → j < l.length → stepOk l n j) ↔ SetN l n := by
  constructor
  · intro h
    refine ⟨inc_of_adj fun k a b h1 h2 => ?_, fun x hx => ?_⟩
    · have hk := (List.getElem?_eq_some_iff.1 h2).1
      have := (h ((k + 1 : Nat) : Int) (by omega) (by omega) b (by rw [ix_nat]; exact h2)).2 a (by omega)
      rw [show ((k + 1 : Nat) : Int) - 1 = (k : Nat) by omega] at this
      exact this (by rw [ix_nat]; exact h1)
    · obtain ⟨i, h1, h2, h3⟩ := mem_ix hx
      exact (h i h1 h2 x h3).1
  · intro h j h0 h1 a ha
    refine ⟨h.2 a (ix_mem ha), fun b hj hb => ?_⟩
    obtain ⟨_, _, ga⟩ := ix_lo ha
    obtain ⟨_, _, gb⟩ := ix_lo hb
    exact h.1.get gb ga (by omega)
theorem isSet_eq (l : List Int) (n : Int) : strips_IsSet l n = some (dec (SetN l n)) := by
  unfold strips_IsSet
  rcases rngX_test (body := strips_IsSet_l1 l n) (n := (l.length : Int)) (fun j => if dec (stepOk l n j) = true then none else some false) (by omega) (fun j h0 h1 _ => by
    obtain ⟨a, ha, _⟩ := ix_of (l := l) h0 h1
    unfold strips_IsSet_l1
    rw [ha]
    simp only [Option.bind_some]
    by_cases c1 : a < 0
    · rw [if_pos c1, if_neg]
      · rfl
      · rw [dec_true]; intro h; have := (h a ha).1; omega
    · rw [if_neg c1]
      by_cases c2 : n ≤ a
      · rw [if_pos c2, if_neg]
        · rfl
        · rw [dec_true]; intro h; have := (h a ha).1; omega
      · rw [if_neg c2]
        by_cases c3 : 0 < j
        · obtain ⟨b, hb, _⟩ := ix_of (l := l) (i := j - 1) (by omega) (by omega)
          rw [if_pos c3, hb]
          simp only [Option.bind_some]
          by_cases c4 : a ≤ b
          · rw [if_pos (by simpa using c4), if_neg]
            rw [dec_true]; intro h; have := (h a ha).2 b c3 hb; omega
          · rw [if_neg (by simpa using c4), if_pos]
            rw [dec_true]; intro x hx
            rw [ha] at hx; cases hx
            exact ⟨by omega, fun y _ hy => by rw [hb] at hy; cases hy; omega⟩
        · rw [if_neg c3]
          simp only [Option.bind_some]
          rw [if_neg (by simp), if_pos]
          rw [dec_true]; intro x hx
          rw [ha] at hx; cases hx
          exact ⟨by omega, fun y hy => absurd hy c3⟩) with ⟨h1, h2⟩ | ⟨j, o, h0, h1, h2, _, h4⟩
  · rw [h1, dec_of]
    · rfl
    · exact stepOk_iff.1 fun j g1 g2 => by have := h2 j g1 g2; simpa using this
  · rw [h4]
    split at h2
    · cases h2
    · rename_i hs
      cases h2
      rw [dec_no]
      · rfl
      · exact fun h => hs (dec_of (stepOk_iff.2 h j h0 h1))
theorem rIsSet_eq (l : List Int) {n : Int} (hn : -9223372036854775808 < n) (hn' : n ≤ 9223372036854775807) : ref1_IsSet l n = some (dec (SetN l n)) := by
  unfold ref1_IsSet
  rcases rngX_test (body := ref1_IsSet_l1 l n) (n := (l.length : Int)) (fun j => if dec (stepOk l n j) = true then none else some false) (by omega) (fun j h0 h1 _ => by
    obtain ⟨a, ha, _⟩ := ix_of (l := l) h0 h1
    unfold ref1_IsSet_l1
    rw [ha]
    simp only [Option.bind_some, in_eq, w64_of (n := n - 1) (by omega) (by omega), dec_not]
    by_cases c1 : 0 ≤ a ∧ a ≤ n - 1
    · rw [if_neg (by simpa using c1)]
      by_cases c3 : 0 < j
      · obtain ⟨b, hb, _⟩ := ix_of (l := l) (i := j - 1) (by omega) (by omega)
        rw [if_pos c3, hb]
        simp only [Option.bind_some]
        by_cases c4 : a ≤ b
        · rw [if_pos (by simpa using c4), if_neg]
          rw [dec_true]; intro h; have := (h a ha).2 b c3 hb; omega
        · rw [if_neg (by simpa using c4), if_pos]
          rw [dec_true]; intro x hx
          rw [ha] at hx; cases hx
          exact ⟨by omega, fun y _ hy => by rw [hb] at hy; cases hy; omega⟩
      · rw [if_neg c3]
        simp only [Option.bind_some]
        rw [if_neg (by simp), if_pos]
        rw [dec_true]; intro x hx
        rw [ha] at hx; cases hx
        exact ⟨by omega, fun y hy => absurd hy c3⟩
    · rw [if_pos (by simpa using c1), if_neg]
      · rfl
      · rw [dec_true]; intro h; have := (h a ha).1; omega) with ⟨h1, h2⟩ | ⟨j, o, h0, h1, h2, _, h4⟩
  · rw [h1, dec_of]
    · rfl
    · exact stepOk_iff.1 fun j g1 g2 => by have := h2 j g1 g2; simpa using this
  · rw [h4]
    split at h2
    · cases h2
    · rename_i hs
      cases h2
      rw [dec_no]
      · rfl
      · exact fun h => hs (dec_of (stepOk_iff.2 h j h0 h1))
theorem containsLoop {s : List Int} (hs : Inc s) (hl : s.length ≤ 1000000) (x : Int) {i : Int} (h0 : 0 ≤ i) (h1 : i ≤ s.length) (hlt : ∀ k a, 0 ≤ k → k < i → ix s k = some a → a < x) :
    ∃ i', Loop (strips_Contains_l2 s x) i = some i' ∧ i ≤ i' ∧ i' ≤ s.length ∧ (∀ k a, 0 ≤ k → k < i' → ix s k = some a → a < x) ∧ (∀ a, ix s i' = some a → x ≤ a) := by
  obtain ⟨o, h2, h3⟩ := Loop_inv (body := strips_Contains_l2 s x) (fun j => i ≤ j ∧ j ≤ s.length ∧ ∀ k a, 0 ≤ k → k < j → ix s k = some a → a < x) (fun i' => i ≤ i' ∧ i' ≤ s.length ∧ (∀ k a, 0 ≤ k → k < i' → ix s k = some a → a < x) ∧ (∀ a, ix s i' = some a → x ≤ a)) (fun j => (s.length - j).toNat) (s := i) ⟨Int.le_refl _, h1, hlt⟩ (fun j ⟨g1, g2, g3⟩ => by
    unfold strips_Contains_l2
    by_cases c : j < s.length
    · obtain ⟨a, ha, _⟩ := ix_of (l := s) (i := j) (by omega) c
      rw [if_pos c, ha]
      simp only [Option.bind_some, decide_eq_true_eq]
      by_cases c2 : a < x
      · rw [if_pos c2]
        rw [w64_of (by omega) (by omega)]
        refine .inl ⟨j + 1, rfl, ⟨by omega, by omega, fun k b k0 k1 hb => ?_⟩, by omega⟩
        by_cases e : k = j
        · subst e; rw [ha] at hb; cases hb; exact c2
        · exact g3 k b k0 (by omega) hb
      · rw [if_neg c2]
        exact .inr ⟨j, rfl, g1, g2, g3, fun b hb => by rw [ha] at hb; cases hb; omega⟩
    · rw [if_neg c]
      exact .inr ⟨j, rfl, g1, g2, g3, fun b hb => by have := (ix_lo hb).2.1; omega⟩)
  exact ⟨o, h2, h3⟩
theorem contains_eq {s part : List Int} (hs : Inc s) (hp : Inc part) (hl : s.length ≤ 1000000) : strips_Contains s part = some (dec (∀ x ∈ part, x ∈ s)) := by
  unfold strips_Contains
  rcases rngX_inv (body := strips_Contains_l1 s part) (n := (part.length : Int)) (fun j i => (0 ≤ i ∧ i ≤ s.length ∧ ∀ k a, 0 ≤ k → k < i → ix s k = some a → ∀ m x, j ≤ m → ix part m = some x → a < x) ∧ ∀ m x, 0 ≤ m → m < j → ix part m = some x → x ∈ s) (fun o => o = false ∧ ¬ ∀ x ∈ part, x ∈ s) (s := 0) (by omega) ⟨⟨by omega, by omega, fun k a h1 h2 => by omega⟩, fun m x h1 h2 => by omega⟩ (fun j i h0 h1 ⟨⟨g1, g2, g3⟩, g4⟩ => by
    obtain ⟨x, hx, gx⟩ := ix_of (l := part) h0 h1
    unfold strips_Contains_l1
    obtain ⟨i', e1, e2, e3, e4, e5⟩ := containsLoop hs hl x g1 g2 (fun k a k0 k1 ha => g3 k a k0 k1 ha j x (Int.le_refl _) hx)
    rw [hx]
    simp only [Option.bind_some, e1]
    have nin : (∀ a, ix s i' = some a → x < a) → x ∉ s := fun hgt hin => by
      obtain ⟨k, k0, k1, hk⟩ := mem_ix hin
      rcases Int.lt_trichotomy k i' with c | c | c
      · have := e4 k x k0 c hk; omega
      · subst c; have := hgt x hk; omega
      · obtain ⟨b, hb, gb⟩ := ix_of (l := s) (i := i') (by omega) (by omega)
        obtain ⟨_, _, gk⟩ := ix_lo hk
        have := hs.get gb gk (by omega)
        have := e5 b hb
        omega
    by_cases c : i' = s.length
    · rw [if_pos c]
      refine .inr ⟨false, rfl, rfl, fun h => ?_⟩
      exact nin (fun a ha => by have := (ix_lo ha).2.1; omega) (h x (ix_mem hx))
    · rw [if_neg c]
      obtain ⟨b, hb, gb⟩ := ix_of (l := s) (i := i') (by omega) (by omega)
      rw [hb]
      simp only [Option.bind_some]
      have hxb := e5 b hb
      by_cases c2 : b = x
      · subst c2
        rw [if_neg (by simp)]
        refine .inl ⟨i', rfl, ⟨by omega, e3, fun k a k0 k1 ha m y hm hy => ?_⟩, fun m y m0 m1 hy => ?_⟩
        · obtain ⟨_, _, gy⟩ := ix_lo hy
          have := hp.get gx gy (by omega)
          have := e4 k a k0 k1 ha
          omega
        · by_cases e : m = j
          · subst e; rw [hx] at hy; cases hy; exact ix_mem hb
          · exact g4 m y m0 (by omega) hy
      · rw [if_pos (by simpa using c2)]
        refine .inr ⟨false, rfl, rfl, fun h => ?_⟩
        exact nin (fun a ha => by rw [hb] at ha; cases ha; omega) (h x (ix_mem hx))) with ⟨s', h1, _, h2⟩ | ⟨o, h1, rfl, h2⟩
  · rw [h1, dec_of]
    · rfl
    · intro x hx
      obtain ⟨m, m0, m1, hm⟩ := mem_ix hx
      exact h2 m x m0 m1 hm
  · rw [h1, dec_no h2]; rfl
end Ab
end
