/-
  Texts that the proof stands on.
-/
import Derived.Test.YtiooehonogebkaaDoorKRwWithout2
import Derived.Shelf.Sort.Plain
import Derived.Ground.Names2Prog
import Derived.Shelf.Slices.Clone
import Derived.Shelf.Slices.SearchI
import Derived.Shelf.Slices.Cells
import Derived.Shelf.Slices.In.SortNone
import Derived.Shelf.Slices.Empties
import Derived.Test.YtiooehonogebkaaDoorProg
set_option linter.all false
section
namespace Ab
open Go Go.Proofs
set_option linter.all false
abbrev eLi64 (l : List Int) : List I := [.sl 1 (l.map intI)]
structure TOperator where
  pre : List Int
  add : List Int
  del : List Int
  cost : Int
abbrev eTOperator (v : TOperator) : List I := [.sl 1 (List.map intI v.pre), .sl 1 (List.map intI v.add), .sl 1 (List.map intI v.del), .val (.int .i64 v.cost)]
structure TTask where
  facts : Int
  init : List Int
  goal : List Int
  operators : List TOperator
abbrev eTTask (v : TTask) : List I := [.val (.int .i64 v.facts), .sl 1 (List.map intI v.init), .sl 1 (List.map intI v.goal), .sl 4 (List.map eTOperator v.operators)]
structure TFault where
  code : Int
  index : Int
abbrev eLLi64 (l : List (List Int)) : List I := [.sl 1 (l.map eLi64)]
structure Tx_int64_y_int_signed_bool_code_abi_BoundsErrorCode where
  fx : Int
  fy : Int
  signed : Bool
  code : Int
structure Truntime_boundsError where
  fx : Int
  fy : Int
  signed : Bool
  code : Int
structure TFacts_int_Init_int_Goal_int_Operators_api_Operator where
  facts : Int
  init : List Int
  goal : List Int
  operators : List TOperator
structure TCode_int_Index_int where
  code : Int
  index : Int
abbrev eA4i64 (v : Int × Int × Int × Int) : List I := [.val (.int .i64 v.1), .val (.int .i64 v.2.1), .val (.int .i64 v.2.2.1), .val (.int .i64 v.2.2.2)]
structure TPre_int_Add_int_Del_int_Cost_int where
  pre : List Int
  add : List Int
  del : List Int
  cost : Int
def strips_IsSet_l1 (l : List Int) (nv : Int) : Int → Unit → Option (Unit ⊕ Bool) := fun t3 _ => Option.bind (ix l t3) fun a12 => Option.bind (if a12 < 0 then some true else if nv ≤ a12 then some true else if 0 < t3 then Option.bind (ix l (t3 - 1)) fun a29 => some (decide (a12 ≤ a29)) else some false) fun t4 => if t4 = true then some (.inr false) else some (.inl ())
def strips_IsSet (l : List Int) (nv : Int) : Option Bool := (Option.bind (rngX 0 (l.length : Int) (strips_IsSet_l1 l nv) ()) fun | .inl _ => some true | .inr x => some x)
def cmp_isNaN_int (xv : Int) : Option Bool := some (!(decide (xv = xv)))
def cmp_Less_int (xv : Int) (yv : Int) : Option Bool := Option.bind (Option.bind (cmp_isNaN_int xv) fun a6 => if a6 = true then Option.bind (cmp_isNaN_int yv) fun a9 => if (!a9) = true then some true else some (decide (xv < yv)) else some (decide (xv < yv))) fun t3 => some t3
def slices_isNaN_int (xv : Int) : Option Bool := some (!(decide (xv = xv)))
def slices_BinarySearch_int_int_l1 (xv : List Int) (target : Int) : (Int × Int) → Option ((Int × Int) ⊕ Int) := fun (iv3, j4) => if iv3 < j4 then Option.bind (ix xv (w64 (shrW .u64 ((IntKind.u64).wrap (w64 (iv3 + j4))) 1))) fun a24 => Option.bind (cmp_Less_int a24 target) fun a27 => if a27 = true then some (.inl (w64 ((w64 (shrW .u64 ((IntKind.u64).wrap (w64 (iv3 + j4))) 1)) + 1), j4)) else some (.inl (iv3, w64 (shrW .u64 ((IntKind.u64).wrap (w64 (iv3 + j4))) 1))) else some (.inr iv3)
noncomputable def slices_BinarySearch_int_int (xv : List Int) (target : Int) : Option (Int × Bool) := Option.bind (Loop (slices_BinarySearch_int_int_l1 xv target) (0, (xv.length : Int))) fun iv5 => Option.bind (if iv5 < (xv.length : Int) then Option.bind (ix xv iv5) fun a38 => if a38 = target then some true else Option.bind (ix xv iv5) fun a45 => Option.bind (slices_isNaN_int a45) fun a47 => if a47 = true then Option.bind (slices_isNaN_int target) fun a50 => some a50 else some false else some false) fun t8 => some (iv5, t8)
noncomputable def strips_Meets_1 (xv : Int) (c2 : List Int) : Option Bool := Option.bind (slices_BinarySearch_int_int c2 xv) fun a9 => some a9.2
def slices_IndexFunc_int_int_l1 (sv : List Int) (fv : Int → Option Bool) : Int → Unit → Option (Unit ⊕ Int) := fun t3 _ => Option.bind (ix sv t3) fun a14 => Option.bind (fv a14) fun a16 => if a16 = true then some (.inr t3) else some (.inl ())
def slices_IndexFunc_int_int (sv : List Int) (fv : Int → Option Bool) : Option Int := (Option.bind (rngX 0 (sv.length : Int) (slices_IndexFunc_int_int_l1 sv fv) ()) fun | .inl _ => some (-1) | .inr x => some x)
def slices_ContainsFunc_int_int (sv : List Int) (fv : Int → Option Bool) : Option Bool := Option.bind (slices_IndexFunc_int_int sv fv) fun a7 => some (decide (0 ≤ a7))
noncomputable def strips_Meets (av : List Int) (bv : List Int) : Option Bool := Option.bind (slices_ContainsFunc_int_int av (fun y1 => strips_Meets_1 y1 bv)) fun a7 => some a7
noncomputable def strips_operator (ov : TOperator) (facts : Int) : Option Int := Option.bind (Option.bind (strips_IsSet ov.pre facts) fun a9 => if (!a9) = true then some true else Option.bind (strips_IsSet ov.add facts) fun a15 => if (!a15) = true then some true else Option.bind (strips_IsSet ov.del facts) fun a22 => if (!a22) = true then some true else Option.bind (strips_Meets ov.add ov.del) fun a30 => some a30) fun t3 => if t3 = true then some 5 else if ((decide (ov.cost < 0)) || (decide (100 < ov.cost))) = true then some 3 else some 0
noncomputable def strips_Validate_l1 (t : TTask) : Int → Unit → Option (Unit ⊕ TFault) := fun t6 _ => Option.bind (ix t.operators t6) fun a44 => Option.bind (strips_operator a44 t.facts) fun a49 => if a49 = 0 then some (.inl ()) else some (.inr (⟨a49, t6⟩ : TFault))
noncomputable def strips_Validate (t : TTask) : Option TFault := if ((decide (t.facts < 0)) || (decide (24 < t.facts))) = true then some (⟨3, -1⟩ : TFault) else Option.bind (strips_IsSet t.init t.facts) fun a21 => if (!a21) = true then some (⟨5, -2⟩ : TFault) else Option.bind (strips_IsSet t.goal t.facts) fun a29 => if (!a29) = true then some (⟨5, -3⟩ : TFault) else if 40 < (t.operators.length : Int) then some (⟨2, -1⟩ : TFault) else (Option.bind (rngX 0 (t.operators.length : Int) (strips_Validate_l1 t) ()) fun | .inl _ => some (⟨0, 0⟩ : TFault) | .inr x => some x)
def merging_check_l1 (t : TTask) (goals : List (List Int)) : Int → Unit → Option (Unit ⊕ TFault) := fun t7 _ => Option.bind (ix goals t7) fun a42 => Option.bind (strips_IsSet a42 t.facts) fun a47 => if (!a47) = true then some (.inr (⟨5, w64 ((-10) - t7)⟩ : TFault)) else some (.inl ())
def merging_check_l3 (t : TTask) (t9 : Int) (a58 : List Int) : Int → Unit → Option (Unit ⊕ TFault) := fun t11 _ => Option.bind (ix a58 t11) fun a70 => if ((decide (a70 < 0)) || (decide ((t.operators.length : Int) ≤ a70))) = true then some (.inr (⟨3, w64 ((-20) - t9)⟩ : TFault)) else some (.inl ())
def merging_check_l2 (t : TTask) (plans : List (List Int)) : Int → Unit → Option (Unit ⊕ TFault) := fun t9 _ => Option.bind (ix plans t9) fun a58 => if 6 < (a58.length : Int) then some (.inr (⟨2, w64 ((-20) - t9)⟩ : TFault)) else (Option.bind (rngX 0 (a58.length : Int) (merging_check_l3 t t9 a58) ()) fun | .inl _ => some (.inl ()) | .inr x => some (.inr x))
noncomputable def merging_check (t : TTask) (goals : List (List Int)) (plans : List (List Int)) : Option TFault := Option.bind (strips_Validate t) fun a15 => if (!((decide (a15.code = 0)) && (decide (a15.index = 0)))) = true then some a15 else if ((decide ((plans.length : Int) = 0)) || (decide (4 < (plans.length : Int)))) = true then some (⟨9, -8⟩ : TFault) else if (goals.length : Int) = (plans.length : Int) then (Option.bind (rngX 0 (goals.length : Int) (merging_check_l1 t goals) ()) fun | .inl _ => (Option.bind (rngX 0 (plans.length : Int) (merging_check_l2 t plans) ()) fun | .inl _ => some (⟨0, 0⟩ : TFault) | .inr x => some x) | .inr x => some x) else some (⟨9, -9⟩ : TFault)
noncomputable def strips_Update_l1 (sv : List Int) (del : List Int) : Int → (List Int) → Option (List Int) := fun t5 c4 => Option.bind (Option.bind (ix sv t5) fun a16 => Option.bind (slices_BinarySearch_int_int del a16) fun a21 => if (!a21.2) = true then Option.bind (app 8 c4 [a16]) fun a29 => some a29 else some c4) fun c6 => some c6
noncomputable def strips_Update (sv : List Int) (add : List Int) (del : List Int) : Option (List Int) := (Option.bind (forR 0 (sv.length : Int) (strips_Update_l1 sv del) []) fun c4 => Option.bind (app 8 c4 add) fun a33 => Option.bind (sortL a33) fun a35 => some (compactL a35))
noncomputable def strips_Union (av : List Int) (bv : List Int) : Option (List Int) := Option.bind (strips_Update av bv []) fun a7 => some a7
noncomputable def merging_union_l1 (l : List (List Int)) : Int → (List Int) → Option (List Int) := fun t3 c2 => Option.bind (ix l t3) fun a10 => Option.bind (strips_Union c2 a10) fun a14 => some a14
noncomputable def merging_union (l : List (List Int)) : Option (List Int) := (Option.bind (forR 0 (l.length : Int) (merging_union_l1 l) []) fun c2 => some c2)
def internal_strconv_small (iv : Int) : Option ByteArray := if iv < 10 then Option.bind (subS (⟨#[48, 49, 50, 51, 52, 53, 54, 55, 56, 57, 97, 98, 99, 100, 101, 102, 103, 104, 105, 106, 107, 108, 109, 110, 111, 112, 113, 114, 115, 116, 117, 118, 119, 120, 121, 122]⟩ : ByteArray) iv (w64 (iv + 1))) fun a8 => some a8 else Option.bind (subS (⟨#[48, 48, 48, 49, 48, 50, 48, 51, 48, 52, 48, 53, 48, 54, 48, 55, 48, 56, 48, 57, 49, 48, 49, 49, 49, 50, 49, 51, 49, 52, 49, 53, 49, 54, 49, 55, 49, 56, 49, 57, 50, 48, 50, 49, 50, 50, 50, 51, 50, 52, 50, 53, 50, 54, 50, 55, 50, 56, 50, 57, 51, 48, 51, 49, 51, 50, 51, 51, 51, 52, 51, 53, 51, 54, 51, 55, 51, 56, 51, 57, 52, 48, 52, 49, 52, 50, 52, 51, 52, 52, 52, 53, 52, 54, 52, 55, 52, 56, 52, 57, 53, 48, 53, 49, 53, 50, 53, 51, 53, 52, 53, 53, 53, 54, 53, 55, 53, 56, 53, 57, 54, 48, 54, 49, 54, 50, 54, 51, 54, 52, 54, 53, 54, 54, 54, 55, 54, 56, 54, 57, 55, 48, 55, 49, 55, 50, 55, 51, 55, 52, 55, 53, 55, 54, 55, 55, 55, 56, 55, 57, 56, 48, 56, 49, 56, 50, 56, 51, 56, 52, 56, 53, 56, 54, 56, 55, 56, 56, 56, 57, 57, 48, 57, 49, 57, 50, 57, 51, 57, 52, 57, 53, 57, 54, 57, 55, 57, 56, 57, 57]⟩ : ByteArray) (w64 (iv * 2)) (w64 ((w64 (iv * 2)) + 2))) fun a14 => some a14
abbrev internal_strconv_AppendUint_w3_s0 (iv : Int) (base : Int) (l : List Int) : Store := [.one (vec 1 eU8 l)]
def internal_strconv_AppendUint_w3 (iv : Int) (base : Int) (l : List Int) : Option (List Int) := if base = 10 then if iv < 100 then Option.bind (internal_strconv_small (w64 iv)) fun a16 => Option.bind (app 1 l (strL a16)) fun a17 => some a17 else none else none
abbrev internal_strconv_AppendInt_w2_s0 (iv : Int) (base : Int) (l : List Int) : Store := [.one (vec 1 eU8 l)]
def internal_strconv_AppendInt_w2 (iv : Int) (base : Int) (l : List Int) : Option (List Int) := Option.bind (if iv < 0 then none else some ()) fun _ => Option.bind (internal_strconv_AppendUint_w3 ((IntKind.u64).wrap iv) base l) fun a20 => some a20
abbrev strconv_AppendInt_w1_s0 (iv : Int) (base : Int) (l : List Int) : Store := [.one (vec 1 eU8 l)]
def strconv_AppendInt_w1 (iv : Int) (base : Int) (l : List Int) : Option (List Int) := Option.bind (internal_strconv_AppendInt_w2 iv base l) fun a10 => some a10
def belief_Key_l2 (a12 : List Int) : Int → (List Int) → Option (List Int) := fun t5 c4 => Option.bind (ix a12 t5) fun a18 => Option.bind (strconv_AppendInt_w1 a18 10 c4) fun a22 => Option.bind (app 1 a22 [44]) fun a24 => some a24
def belief_Key_l1 (l : List (List Int)) : Int → (List Int) → Option (List Int) := fun t3 c2 => Option.bind (ix l t3) fun a12 => (Option.bind (forR 0 (a12.length : Int) (belief_Key_l2 a12) c2) fun c4 => Option.bind (app 1 c4 [59]) fun a28 => some a28)
def belief_Key (l : List (List Int)) : Option ByteArray := (Option.bind (forR 0 (l.length : Int) (belief_Key_l1 l) []) fun c2 => some (strB c2))
def strips_Contains_l2 (sv : List Int) (a12 : Int) : Int → Option (Int ⊕ Int) := fun iv5 => Option.bind (if iv5 < (sv.length : Int) then Option.bind (ix sv iv5) fun a21 => some (decide (a21 < a12)) else some false) fun t7 => if t7 = true then some (.inl (w64 (iv5 + 1))) else some (.inr iv5)
noncomputable def strips_Contains_l1 (sv : List Int) (part : List Int) : Int → Int → Option (Int ⊕ Bool) := fun t4 iv3 => Option.bind (ix part t4) fun a12 => Option.bind (Loop (strips_Contains_l2 sv a12) iv3) fun iv6 => Option.bind (if iv6 = (sv.length : Int) then some true else Option.bind (ix sv iv6) fun a35 => some (!(decide (a35 = a12)))) fun t11 => if t11 = true then some (.inr false) else some (.inl iv6)
noncomputable def strips_Contains (sv : List Int) (part : List Int) : Option Bool := (Option.bind (rngX 0 (part.length : Int) (strips_Contains_l1 sv part) 0) fun | .inl iv3 => some true | .inr x => some x)
noncomputable def strips_Can (t : TTask) (sv : List Int) (op : Int) : Option Bool := Option.bind (ix t.operators op) fun a11 => Option.bind (strips_Contains sv a11.pre) fun a14 => some a14
noncomputable def strips_Next (t : TTask) (sv : List Int) (op : Int) : Option (List Int) := Option.bind (ix t.operators op) fun a11 => Option.bind (strips_Update sv a11.add a11.del) fun a18 => some a18
abbrev merging_merger_turns_w1_s0 (sv : List Int) (atv : List Int) (t : TTask) (plans : List (List Int)) (l : List Int) (l6 : List (ByteArray × Int)) : Store := [.one (.cells 7 [[int t.facts, row 1 intI t.init, row 1 intI t.goal, row 4 eTOperator t.operators, row 1 eLi64 plans, .own 1 0 l.length, .map 2]]), .one (vec 1 intI l), .one (mapB Value.string (Value.int .i64) l6)]
def merging_merger_turns_w1_j2 : ((List Int) × (List (ByteArray × Int)) × Bool) → Option (((List Int) × (List (ByteArray × Int)) × Bool) ⊕ ((List Int) × Bool × (List Int) × (List (ByteArray × Int)))) := fun (c16, c17, done18) => some (.inl (c16, c17, done18))
noncomputable def merging_merger_turns_w1_l1 (sv : List Int) (atv : List Int) (t : TTask) (plans : List (List Int)) (slf : ((List Int) × (List Int) × (List Int) × (List (ByteArray × Int))) → Option ((List Int) × Bool × (List Int) × (List (ByteArray × Int)))) : Int → ((List Int) × (List (ByteArray × Int)) × Bool) → Option (((List Int) × (List (ByteArray × Int)) × Bool) ⊕ ((List Int) × Bool × (List Int) × (List (ByteArray × Int)))) := fun t15 (c12, c13, done14) => Option.bind (ix plans t15) fun a34 => Option.bind (ix atv t15) fun a38 => if a38 = (a34.length : Int) then merging_merger_turns_w1_j2 (c12, c13, done14) else Option.bind (ix atv t15) fun a51 => Option.bind (ix a34 a51) fun a53 => Option.bind (strips_Can t sv a53) fun a55 => if (!a55) = true then merging_merger_turns_w1_j2 (c12, c13, false) else Option.bind (slices_Clone_int_int atv) fun a58 => Option.bind (ix a58 t15) fun a61 => Option.bind (ix a58 t15) fun a64 => Option.bind (ix atv t15) fun a75 => Option.bind (ix a34 a75) fun a77 => Option.bind (strips_Next t sv a77) fun a79 => Option.bind (slf (a79, a58.set t15.toNat (w64 (a61 + 1)), c12, c13)) fun a81 => if a81.2.1 = true then Option.bind (app 8 [t15] a81.1) fun a88 => some (.inr (a88, true, a81.2.2.1, a81.2.2.2)) else merging_merger_turns_w1_j2 (a81.2.2.1, a81.2.2.2, false)
noncomputable def merging_merger_turns_w1_b (t : TTask) (plans : List (List Int)) (slf : ((List Int) × (List Int) × (List Int) × (List (ByteArray × Int))) → Option ((List Int) × Bool × (List Int) × (List (ByteArray × Int)))) : ((List Int) × (List Int) × (List Int) × (List (ByteArray × Int))) → Option ((List Int) × Bool × (List Int) × (List (ByteArray × Int))) := fun (sv, atv, l, l6) => Option.bind (belief_Key [sv, atv]) fun a18 => if 0 < Option.getD (mget l6 a18) 0 then some ([], false, l, l6) else (Option.bind (rngX 0 (plans.length : Int) (merging_merger_turns_w1_l1 sv atv t plans slf) (l, l6, true)) fun | .inl (c12, c13, done14) => Option.bind (if done14 = true then Option.bind (strips_Contains sv c12) fun a97 => some a97 else some false) fun t22 => if t22 = true then some ([], true, c12, c13) else some ([], false, c12, mset c13 a18 1) | .inr x => some x)
noncomputable def merging_merger_turns_w1 (sv : List Int) (atv : List Int) (t : TTask) (plans : List (List Int)) (l : List Int) (l6 : List (ByteArray × Int)) : Option ((List Int) × Bool × (List Int) × (List (ByteArray × Int))) := Rec (merging_merger_turns_w1_b t plans) (sv, atv, l, l6)
abbrev merging_merger_turns_w_s0 (sv : List Int) (t : TTask) (plans : List (List Int)) (l : List Int) (l5 : List Int) (l6 : List (ByteArray × Int)) : Store := [.one (.cells 7 [[int t.facts, row 1 intI t.init, row 1 intI t.goal, row 4 eTOperator t.operators, row 1 eLi64 plans, .own 2 0 l5.length, .map 3]]), .one (vec 1 intI l), .one (vec 1 intI l5), .one (mapB Value.string (Value.int .i64) l6)]
def merging_merger_turns_w_j2 : ((List Int) × (List (ByteArray × Int)) × Bool) → Option (((List Int) × (List (ByteArray × Int)) × Bool) ⊕ ((List Int) × (List (ByteArray × Int)) × (List Int) × Bool)) := fun (c66, c67, done68) => some (.inl (c66, c67, done68))
noncomputable def merging_merger_turns_w_l1 (sv : List Int) (t : TTask) (plans : List (List Int)) (l : List Int) : Int → ((List Int) × (List (ByteArray × Int)) × Bool) → Option (((List Int) × (List (ByteArray × Int)) × Bool) ⊕ ((List Int) × (List (ByteArray × Int)) × (List Int) × Bool)) := fun t65 (c62, c63, done64) => Option.bind (ix plans t65) fun a34 => Option.bind (ix l t65) fun a38 => if a38 = (a34.length : Int) then merging_merger_turns_w_j2 (c62, c63, done64) else Option.bind (ix l t65) fun a51 => Option.bind (ix a34 a51) fun a53 => Option.bind (strips_Can t sv a53) fun a55 => if (!a55) = true then merging_merger_turns_w_j2 (c62, c63, false) else Option.bind (slices_Clone_int_int l) fun a58 => Option.bind (ix a58 t65) fun a61 => Option.bind (ix a58 t65) fun a64 => Option.bind (ix l t65) fun a75 => Option.bind (ix a34 a75) fun a77 => Option.bind (strips_Next t sv a77) fun a79 => Option.bind (merging_merger_turns_w1 a79 (a58.set t65.toNat (w64 (a61 + 1))) t plans c62 c63) fun a81 => if a81.2.1 = true then Option.bind (app 8 [t65] a81.1) fun a88 => some (.inr (a81.2.2.1, a81.2.2.2, a88, true)) else merging_merger_turns_w_j2 (a81.2.2.1, a81.2.2.2, false)
noncomputable def merging_merger_turns_w (sv : List Int) (t : TTask) (plans : List (List Int)) (l : List Int) (l5 : List Int) (l6 : List (ByteArray × Int)) : Option ((List Int) × (List (ByteArray × Int)) × (List Int) × Bool) := Option.bind (belief_Key [sv, l]) fun a18 => if 0 < Option.getD (mget l6 a18) 0 then some (l5, l6, [], false) else (Option.bind (rngX 0 (plans.length : Int) (merging_merger_turns_w_l1 sv t plans l) (l5, l6, true)) fun | .inl (c62, c63, done64) => Option.bind (if done64 = true then Option.bind (strips_Contains sv c62) fun a97 => some a97 else some false) fun t72 => if t72 = true then some (c62, c63, [], true) else some (c62, mset c63 a18 1, [], false) | .inr x => some x)
noncomputable def merging_Merge (t : TTask) (goals : List (List Int)) (plans : List (List Int)) : Option ((List Int) × Bool × TFault) := Option.bind (merging_check t goals plans) fun a16 => if (!((decide (a16.code = 0)) && (decide (a16.index = 0)))) = true then some ([], false, a16) else Option.bind (merging_union goals) fun a24 => Option.bind (mkL 8 (plans.length : Int) 0) fun a34 => Option.bind (merging_merger_turns_w t.init t plans a34 a24 ([] : List (ByteArray × Int))) fun a35 => some (a35.2.2.1, a35.2.2.2, (⟨0, 0⟩ : TFault))
def ref1_In (nv : Int) (low : Int) (high : Int) : Option Bool := some ((decide (low ≤ nv)) && (decide (nv ≤ high)))
def ref1_At (code : Int) (index : Int) : Option TFault := some (⟨code, index⟩ : TFault)
def ref1_IsSet_l1 (l : List Int) (nv : Int) : Int → Unit → Option (Unit ⊕ Bool) := fun iv3 _ => Option.bind (Option.bind (ix l iv3) fun a14 => Option.bind (ref1_In a14 0 (w64 (nv - 1))) fun a18 => if (!a18) = true then some true else if 0 < iv3 then Option.bind (ix l iv3) fun a26 => Option.bind (ix l (iv3 - 1)) fun a31 => some (decide (a26 ≤ a31)) else some false) fun t4 => if t4 = true then some (.inr false) else some (.inl ())
def ref1_IsSet (l : List Int) (nv : Int) : Option Bool := (Option.bind (rngX 0 (l.length : Int) (ref1_IsSet_l1 l nv) ()) fun | .inl _ => some true | .inr x => some x)
def ref1_Has_l1 (l : List Int) (nv : Int) : Int → Unit → Option (Unit ⊕ Bool) := fun iv3 _ => Option.bind (ix l iv3) fun a14 => if a14 = nv then some (.inr true) else some (.inl ())
def ref1_Has (l : List Int) (nv : Int) : Option Bool := (Option.bind (rngX 0 (l.length : Int) (ref1_Has_l1 l nv) ()) fun | .inl _ => some false | .inr x => some x)
def ref1_Disjoint_l1 (av : List Int) (bv : List Int) : Int → Unit → Option (Unit ⊕ Bool) := fun iv3 _ => Option.bind (ix av iv3) fun a15 => Option.bind (ref1_Has bv a15) fun a17 => if a17 = true then some (.inr false) else some (.inl ())
def ref1_Disjoint (av : List Int) (bv : List Int) : Option Bool := (Option.bind (rngX 0 (av.length : Int) (ref1_Disjoint_l1 av bv) ()) fun | .inl _ => some true | .inr x => some x)
def ref1_TaskFault_l1 (t : TTask) : Int → Unit → Option (Unit ⊕ TFault) := fun iv6 _ => Option.bind (ix t.operators iv6) fun a39 => Option.bind (Option.bind (ref1_IsSet a39.pre t.facts) fun a45 => if (!a45) = true then some true else Option.bind (ref1_IsSet a39.add t.facts) fun a52 => if (!a52) = true then some true else Option.bind (ref1_IsSet a39.del t.facts) fun a60 => if (!a60) = true then some true else Option.bind (ref1_Disjoint a39.add a39.del) fun a68 => some (!a68)) fun t7 => if t7 = true then Option.bind (ref1_At 5 iv6) fun a72 => some (.inr a72) else Option.bind (ref1_In a39.cost 0 100) fun a75 => if (!a75) = true then Option.bind (ref1_At 3 iv6) fun a78 => some (.inr a78) else some (.inl ())
def ref1_TaskFault (t : TTask) : Option TFault := Option.bind (ref1_In t.facts 0 24) fun a7 => if (!a7) = true then Option.bind (ref1_At 3 (-1)) fun a9 => some a9 else Option.bind (ref1_IsSet t.init t.facts) fun a14 => if (!a14) = true then Option.bind (ref1_At 5 (-2)) fun a16 => some a16 else Option.bind (ref1_IsSet t.goal t.facts) fun a21 => if (!a21) = true then Option.bind (ref1_At 5 (-3)) fun a23 => some a23 else if 40 < (t.operators.length : Int) then Option.bind (ref1_At 2 (-1)) fun a28 => some a28 else (Option.bind (rngX 0 (t.operators.length : Int) (ref1_TaskFault_l1 t) ()) fun | .inl _ => some (⟨0, 0⟩ : TFault) | .inr x => some x)
def ref1_StepsFault_l1 (operators : Int) (plan : List Int) : Int → Unit → Option (Unit ⊕ TFault) := fun iv4 _ => Option.bind (ix plan iv4) fun a18 => Option.bind (ref1_In a18 0 (w64 (operators - 1))) fun a22 => if (!a22) = true then Option.bind (ref1_At 3 (-6)) fun a24 => some (.inr a24) else some (.inl ())
def ref1_StepsFault (operators : Int) (plan : List Int) : Option TFault := if 60 < (plan.length : Int) then Option.bind (ref1_At 2 (-5)) fun a9 => some a9 else (Option.bind (rngX 0 (plan.length : Int) (ref1_StepsFault_l1 operators plan) ()) fun | .inl _ => some (⟨0, 0⟩ : TFault) | .inr x => some x)
def ref8_PartiesFault_l1 (t : TTask) (goals : List (List Int)) : Int → Unit → Option (Unit ⊕ TFault) := fun p7 _ => Option.bind (ix goals p7) fun a35 => Option.bind (ref1_IsSet a35 t.facts) fun a39 => if (!a39) = true then Option.bind (ref1_At 5 (w64 ((-10) - p7))) fun a43 => some (.inr a43) else some (.inl ())
def ref8_PartiesFault_l2 (t : TTask) (plans : List (List Int)) : Int → Unit → Option (Unit ⊕ TFault) := fun p9 _ => Option.bind (ix plans p9) fun a52 => if 6 < (a52.length : Int) then Option.bind (ref1_At 2 (w64 ((-20) - p9))) fun a58 => some (.inr a58) else Option.bind (ix plans p9) fun a64 => Option.bind (ref1_StepsFault (t.operators.length : Int) a64) fun a66 => if a66.code = 0 then some (.inl ()) else Option.bind (ref1_At 3 (w64 ((-20) - p9))) fun a71 => some (.inr a71)
def ref8_PartiesFault (t : TTask) (goals : List (List Int)) (plans : List (List Int)) : Option TFault := Option.bind (ref1_TaskFault t) fun a11 => if a11.code = 0 then Option.bind (ref1_In (plans.length : Int) 1 4) fun a18 => if (!a18) = true then Option.bind (ref1_At 9 (-8)) fun a20 => some a20 else if (goals.length : Int) = (plans.length : Int) then (Option.bind (rngX 0 (goals.length : Int) (ref8_PartiesFault_l1 t goals) ()) fun | .inl _ => (Option.bind (rngX 0 (plans.length : Int) (ref8_PartiesFault_l2 t plans) ()) fun | .inl _ => some (⟨0, 0⟩ : TFault) | .inr x => some x) | .inr x => some x) else Option.bind (ref1_At 9 (-9)) fun a26 => some a26 else some a11
def law8_step : Option TTask := some (⟨2, [0], [1], [(⟨[0], [1], [0], 1⟩ : TOperator), (⟨[], [1], [], 3⟩ : TOperator)]⟩ : TTask)
def merging_Check_l1 (plans : List (List Int)) (turns : List Int) : Int → Unit → Option (Unit ⊕ (Bool × TFault)) := fun t7 _ => Option.bind (ix turns t7) fun a34 => if ((decide (a34 < 0)) || (decide ((plans.length : Int) ≤ a34))) = true then some (.inr (false, (⟨3, -6⟩ : TFault))) else some (.inl ())
noncomputable def merging_Check_l2 (t : TTask) (plans : List (List Int)) (turns : List Int) : Int → ((List Int) × (List Int)) → Option (((List Int) × (List Int)) ⊕ (Bool × TFault)) := fun t11 (c9, sv10) => Option.bind (ix turns t11) fun a55 => Option.bind (Option.bind (ix c9 a55) fun a59 => Option.bind (ix plans a55) fun a63 => if a59 = (a63.length : Int) then some true else Option.bind (ix plans a55) fun a72 => Option.bind (ix c9 a55) fun a76 => Option.bind (ix a72 a76) fun a78 => Option.bind (strips_Can t sv10 a78) fun a80 => some (!a80)) fun t12 => if t12 = true then some (.inr (false, (⟨0, 0⟩ : TFault))) else Option.bind (ix plans a55) fun a88 => Option.bind (ix c9 a55) fun a92 => Option.bind (ix a88 a92) fun a94 => Option.bind (strips_Next t sv10 a94) fun a96 => Option.bind (ix c9 a55) fun a99 => Option.bind (ix c9 a55) fun a102 => some (.inl (c9.set a55.toNat (w64 (a99 + 1)), a96))
def merging_Check_l3 (plans : List (List Int)) (c9 : List Int) : Int → Unit → Option (Unit ⊕ (Bool × TFault)) := fun t16 _ => Option.bind (ix c9 t16) fun a111 => Option.bind (ix plans t16) fun a115 => if a111 < (a115.length : Int) then some (.inr (false, (⟨0, 0⟩ : TFault))) else some (.inl ())
noncomputable def merging_Check (t : TTask) (goals : List (List Int)) (plans : List (List Int)) (turns : List Int) : Option (Bool × TFault) := Option.bind (merging_check t goals plans) fun a21 => if (!((decide (a21.code = 0)) && (decide (a21.index = 0)))) = true then some (false, a21) else if 60 < (turns.length : Int) then some (false, (⟨2, -5⟩ : TFault)) else (Option.bind (rngX 0 (turns.length : Int) (merging_Check_l1 plans turns) ()) fun | .inl _ => Option.bind (mkL 8 (plans.length : Int) 0) fun a48 => (Option.bind (rngX 0 (turns.length : Int) (merging_Check_l2 t plans turns) (a48, t.init)) fun | .inl (c9, sv10) => (Option.bind (rngX 0 (plans.length : Int) (merging_Check_l3 plans c9) ()) fun | .inl _ => Option.bind (merging_union goals) fun a123 => Option.bind (strips_Contains sv10 a123) fun a124 => some (a124, (⟨0, 0⟩ : TFault)) | .inr x => some x) | .inr x => some x) | .inr x => some x)
def equal_Numbers_l1 (av : List Int) (bv : List Int) : Int → Unit → Option (Unit ⊕ Bool) := fun iv4 _ => Option.bind (ix av iv4) fun a19 => Option.bind (ix bv iv4) fun a23 => if a19 = a23 then some (.inl ()) else some (.inr false)
def equal_Numbers (av : List Int) (bv : List Int) : Option Bool := if (av.length : Int) = (bv.length : Int) then (Option.bind (rngX 0 (av.length : Int) (equal_Numbers_l1 av bv) ()) fun | .inl _ => some true | .inr x => some x) else some false
noncomputable def law8_merged : Option Bool := Option.bind (law8_step) fun a7 => Option.bind (merging_Merge a7 ([[1]]) ([[1, 0]])) fun a12 => Option.bind (law8_step) fun a17 => Option.bind (merging_Check a17 ([[1]]) ([[1, 0]]) a12.1) fun a23 => Option.bind (if a12.2.2.code = 0 then if a23.2.code = 0 then if a12.2.1 = true then if a23.1 = true then Option.bind (equal_Numbers a12.1 [0, 0]) fun a43 => some a43 else some false else some false else some false else some false) fun t1 => some t1
def ref1_Subset_l1 (part : List Int) (l : List Int) : Int → Unit → Option (Unit ⊕ Bool) := fun iv3 _ => Option.bind (ix part iv3) fun a15 => Option.bind (ref1_Has l a15) fun a17 => if (!a17) = true then some (.inr false) else some (.inl ())
def ref1_Subset (part : List Int) (l : List Int) : Option Bool := (Option.bind (rngX 0 (part.length : Int) (ref1_Subset_l1 part l) ()) fun | .inl _ => some true | .inr x => some x)
def ref1_Applies (t : TTask) (sv : List Int) (op : Int) : Option Bool := Option.bind (ix t.operators op) fun a10 => Option.bind (ref1_Subset a10.pre sv) fun a14 => some a14
def ref1_After_l1 (t : TTask) (sv : List Int) (op : Int) : Int → (List Int) → Option (List Int) := fun p5 c4 => Option.bind (Option.bind (Option.bind (ix t.operators op) fun a18 => Option.bind (ref1_Has a18.add p5) fun a22 => if a22 = true then some true else Option.bind (ref1_Has sv p5) fun a26 => if a26 = true then Option.bind (ix t.operators op) fun a31 => Option.bind (ref1_Has a31.del p5) fun a35 => some (!a35) else some false) fun t8 => if t8 = true then Option.bind (app 8 c4 [p5]) fun a42 => some a42 else some c4) fun c6 => some c6
def ref1_After (t : TTask) (sv : List Int) (op : Int) : Option (List Int) := if t.facts ≤ 9223372036854775807 then (Option.bind (forR 0 t.facts (ref1_After_l1 t sv op) []) fun c4 => some c4) else none
def ref1_Ends_l1 (t : TTask) (plan : List Int) : Int → (List Int) → Option ((List Int) ⊕ ((List Int) × Bool)) := fun iv5 sv4 => Option.bind (ix plan iv5) fun a19 => Option.bind (ref1_Applies t sv4 a19) fun a21 => if (!a21) = true then some (.inr ([], false)) else Option.bind (ix plan iv5) fun a27 => Option.bind (ref1_After t sv4 a27) fun a29 => some (.inl a29)
def ref1_Ends (t : TTask) (sv : List Int) (plan : List Int) : Option ((List Int) × Bool) := (Option.bind (rngX 0 (plan.length : Int) (ref1_Ends_l1 t plan) sv) fun | .inl sv4 => some (sv4, true) | .inr x => some x)
noncomputable def partialorder_Interfere (t : TTask) (av : Int) (bv : Int) : Option Bool := Option.bind (ix t.operators av) fun a12 => Option.bind (ix t.operators bv) fun a17 => Option.bind (Option.bind (strips_Meets a12.add a17.pre) fun a23 => if a23 = true then some true else Option.bind (strips_Meets a12.del a17.pre) fun a29 => if a29 = true then some true else Option.bind (strips_Meets a17.add a12.pre) fun a36 => if a36 = true then some true else Option.bind (strips_Meets a17.del a12.pre) fun a43 => if a43 = true then some true else Option.bind (strips_Meets a12.add a17.del) fun a50 => if a50 = true then some true else Option.bind (strips_Meets a12.del a17.add) fun a57 => some a57) fun t4 => some t4
noncomputable def merging_Conflicts_l4 (t : TTask) (t5 : Int) (bv7 : Int) (t9 : Int) (a45 : Int) (a49 : List Int) : Int → (List (Int × Int × Int × Int)) → Option (List (Int × Int × Int × Int)) := fun t11 c10 => Option.bind (Option.bind (ix a49 t11) fun a55 => Option.bind (partialorder_Interfere t a45 a55) fun a60 => if a60 = true then Option.bind (app 32 c10 [(t5, t9, bv7, t11)]) fun a68 => some a68 else some c10) fun c12 => some c12
noncomputable def merging_Conflicts_l3 (t : TTask) (plans : List (List Int)) (t5 : Int) (bv7 : Int) (a39 : List Int) : Int → (List (Int × Int × Int × Int)) → Option (List (Int × Int × Int × Int)) := fun t9 c8 => Option.bind (ix a39 t9) fun a45 => Option.bind (ix plans bv7) fun a49 => (Option.bind (forR 0 (a49.length : Int) (merging_Conflicts_l4 t t5 bv7 t9 a45 a49) c8) fun c10 => some c10)
noncomputable def merging_Conflicts_l2 (t : TTask) (plans : List (List Int)) (t5 : Int) : Int → (List (Int × Int × Int × Int)) → Option (List (Int × Int × Int × Int)) := fun bv7 c6 => Option.bind (ix plans t5) fun a39 => (Option.bind (forR 0 (a39.length : Int) (merging_Conflicts_l3 t plans t5 bv7 a39) c6) fun c8 => some c8)
noncomputable def merging_Conflicts_l1 (t : TTask) (plans : List (List Int)) : Int → (List (Int × Int × Int × Int)) → Option (List (Int × Int × Int × Int)) := fun t5 c4 => (Option.bind (forR (t5 + 1) (plans.length : Int) (merging_Conflicts_l2 t plans t5) c4) fun c6 => some c6)
noncomputable def merging_Conflicts (t : TTask) (plans : List (List Int)) : Option ((List (Int × Int × Int × Int)) × TFault) := Option.bind (mkL 24 (plans.length : Int) []) fun a17 => Option.bind (merging_check t a17 plans) fun a19 => if (!((decide (a19.code = 0)) && (decide (a19.index = 0)))) = true then some ([], a19) else (Option.bind (forR 0 (plans.length : Int) (merging_Conflicts_l1 t plans) []) fun c4 => some (c4, (⟨0, 0⟩ : TFault)))
def ref7_Interfering (t : TTask) (av : Int) (bv : Int) : Option Bool := Option.bind (ix t.operators av) fun a12 => Option.bind (ix t.operators bv) fun a17 => Option.bind (Option.bind (ref1_Disjoint a12.add a17.pre) fun a23 => if (!a23) = true then some true else Option.bind (ref1_Disjoint a12.del a17.pre) fun a30 => if (!a30) = true then some true else Option.bind (ref1_Disjoint a17.add a12.pre) fun a38 => if (!a38) = true then some true else Option.bind (ref1_Disjoint a17.del a12.pre) fun a46 => if (!a46) = true then some true else Option.bind (ref1_Disjoint a12.add a17.del) fun a54 => if (!a54) = true then some true else Option.bind (ref1_Disjoint a12.del a17.add) fun a62 => some (!a62)) fun t4 => some t4
def ref8_Collisions_l4 (t : TTask) (plans : List (List Int)) (p4 : Int) (q6 : Int) (iv8 : Int) : ((List (Int × Int × Int × Int)) × Int) → Option (((List (Int × Int × Int × Int)) × Int) ⊕ (List (Int × Int × Int × Int))) := fun (c11, j12) => Option.bind (ix plans q6) fun a36 => if j12 < (a36.length : Int) then Option.bind (Option.bind (ix plans p4) fun a45 => Option.bind (ix a45 iv8) fun a48 => Option.bind (ix plans q6) fun a52 => Option.bind (ix a52 j12) fun a55 => Option.bind (ref7_Interfering t a48 a55) fun a57 => if a57 = true then Option.bind (app 32 c11 [(p4, iv8, q6, j12)]) fun a65 => some a65 else some c11) fun c15 => some (.inl (c15, w64 (j12 + 1))) else some (.inr c11)
noncomputable def ref8_Collisions_l3 (t : TTask) (plans : List (List Int)) (p4 : Int) (q6 : Int) : ((List (Int × Int × Int × Int)) × Int) → Option (((List (Int × Int × Int × Int)) × Int) ⊕ (List (Int × Int × Int × Int))) := fun (c7, iv8) => Option.bind (ix plans p4) fun a27 => if iv8 < (a27.length : Int) then Option.bind (Loop (ref8_Collisions_l4 t plans p4 q6 iv8) (c7, 0)) fun c13 => some (.inl (c13, w64 (iv8 + 1))) else some (.inr c7)
noncomputable def ref8_Collisions_l2 (t : TTask) (plans : List (List Int)) (p4 : Int) : Int → (List (Int × Int × Int × Int)) → Option (List (Int × Int × Int × Int)) := fun q6 c5 => Option.bind (Loop (ref8_Collisions_l3 t plans p4 q6) (c5, 0)) fun c9 => some c9
noncomputable def ref8_Collisions_l1 (t : TTask) (plans : List (List Int)) : Int → (List (Int × Int × Int × Int)) → Option (List (Int × Int × Int × Int)) := fun p4 c3 => (Option.bind (forR (p4 + 1) (plans.length : Int) (ref8_Collisions_l2 t plans p4) c3) fun c5 => some c5)
noncomputable def ref8_Collisions (t : TTask) (plans : List (List Int)) : Option (List (Int × Int × Int × Int)) := (Option.bind (forR 0 (plans.length : Int) (ref8_Collisions_l1 t plans) []) fun c3 => some c3)
def ref1_Works (t : TTask) (sv : List Int) (plan : List Int) : Option Bool := Option.bind (ref1_Ends t sv plan) fun a13 => Option.bind (if a13.2 = true then Option.bind (ref1_Subset t.goal a13.1) fun a21 => some a21 else some false) fun t4 => some t4
def ref1_Solves (t : TTask) (plan : List Int) : Option Bool := Option.bind (ref1_Works t t.init plan) fun a9 => some a9
noncomputable def law8_MergingWithoutConflicts_l3 (t : TTask) (goals : List (List Int)) (plans : List (List Int)) (p5 : Int) (q7 : Int) : Int → Option (Int ⊕ (Unit ⊕ Bool)) := fun iv8 => Option.bind (ix plans q7) fun a80 => if iv8 < (a80.length : Int) then Option.bind (if (!(decide (q7 = p5))) = true then Option.bind (ix plans q7) fun a94 => Option.bind (ix a94 iv8) fun a97 => Option.bind (ix t.operators a97) fun a99 => Option.bind (ix goals p5) fun a104 => Option.bind (ref1_Disjoint a99.del a104) fun a106 => some (!a106) else some false) fun t10 => if t10 = true then Option.bind (law8_merged) fun a109 => some (.inr (.inr a109)) else some (.inl (w64 (iv8 + 1))) else some (.inr (.inl ()))
noncomputable def law8_MergingWithoutConflicts_l2 (t : TTask) (goals : List (List Int)) (plans : List (List Int)) (p5 : Int) : Int → Unit → Option (Unit ⊕ Bool) := fun q7 _ => Option.bind (Loop (law8_MergingWithoutConflicts_l3 t goals plans p5 q7) 0) fun | .inl _ => some (.inl ()) | .inr x => some (.inr x)
noncomputable def law8_MergingWithoutConflicts_l1 (t : TTask) (goals : List (List Int)) (plans : List (List Int)) : Int → Unit → Option (Unit ⊕ Bool) := fun p5 _ => Option.bind (ix goals p5) fun a60 => Option.bind (ix plans p5) fun a66 => Option.bind (ref1_Solves (⟨t.facts, t.init, a60, t.operators⟩ : TTask) a66) fun a68 => if (!a68) = true then Option.bind (law8_merged) fun a70 => some (.inr a70) else (Option.bind (rngX 0 (plans.length : Int) (law8_MergingWithoutConflicts_l2 t goals plans p5) ()) fun | .inl _ => some (.inl ()) | .inr x => some (.inr x))
noncomputable def law8_MergingWithoutConflicts (t : TTask) (goals : List (List Int)) (plans : List (List Int)) : Option Bool := Option.bind (merging_Conflicts t plans) fun a19 => Option.bind (merging_Merge t goals plans) fun a26 => if ((((!(decide (a19.2.code = 0))) || (!(decide (a26.2.2.code = 0)))) || (decide (0 < (a19.1.length : Int)))) || (!(decide ((goals.length : Int) = (plans.length : Int))))) = true then Option.bind (law8_merged) fun a50 => some a50 else (Option.bind (rngX 0 (plans.length : Int) (law8_MergingWithoutConflicts_l1 t goals plans) ()) fun | .inl _ => Option.bind (if a26.2.1 = true then Option.bind (law8_merged) fun a112 => some a112 else some false) fun t14 => some t14 | .inr x => some x)
end Ab
end
section
namespace Go.Proofs
open Go.Shelf
def Tryd.lays189_ren : Go.Shelf.Ren := ⟨fun | 189 => 51 | 125 => 59 | 257 => 58 | 128 => 71 | 129 => 72 | 294 => 63 | 295 => 64 | 296 => 65 | 297 => 66 | 298 => 67 | 299 => 68 | 216 => 56 | 300 => 69 | 301 => 70 | 328 => 77 | 329 => 78 | 330 => 79 | 331 => 80 | 332 => 81 | 215 => 62 | 343 => 86 | n => n, fun | 28 => 22 | 3 => 3 | 46 => 79 | 0 => 0 | 51 => 94 | 53 => 84 | 4 => 4 | 183 => 88 | 182 => 87 | 131 => 74 | 5 => 5 | 9 => 9 | 218 => 101 | 222 => 105 | 228 => 111 | 229 => 112 | n => n, fun | n => n⟩
theorem Tryd.lays189 : Go.Proofs.Lays.n189 Tryd.prog Tryd.lays189_ren := {
  mixed := by kernel_rfl
  f125 := Tryd.func59.trans (congrArg some (by kernel_rfl))
  f128 := Tryd.func71.trans (congrArg some (by kernel_rfl))
  f129 := Tryd.func72.trans (congrArg some (by kernel_rfl))
  f189 := Tryd.func51.trans (congrArg some (by kernel_rfl))
  f215 := Tryd.func62.trans (congrArg some (by kernel_rfl))
  f216 := Tryd.func56.trans (congrArg some (by kernel_rfl))
  f257 := Tryd.func58.trans (congrArg some (by kernel_rfl))
  f294 := Tryd.func63.trans (congrArg some (by kernel_rfl))
  f295 := Tryd.func64.trans (congrArg some (by kernel_rfl))
  f296 := Tryd.func65.trans (congrArg some (by kernel_rfl))
  f297 := Tryd.func66.trans (congrArg some (by kernel_rfl))
  f298 := Tryd.func67.trans (congrArg some (by kernel_rfl))
  f299 := Tryd.func68.trans (congrArg some (by kernel_rfl))
  f300 := Tryd.func69.trans (congrArg some (by kernel_rfl))
  f301 := Tryd.func70.trans (congrArg some (by kernel_rfl))
  f328 := Tryd.func77.trans (congrArg some (by kernel_rfl))
  f329 := Tryd.func78.trans (congrArg some (by kernel_rfl))
  f330 := Tryd.func79.trans (congrArg some (by kernel_rfl))
  f331 := Tryd.func80.trans (congrArg some (by kernel_rfl))
  f332 := Tryd.func81.trans (congrArg some (by kernel_rfl))
  f343 := Tryd.func86.trans (congrArg some (by kernel_rfl))
  t0 := Tryd.underlying0
  a0 := Tryd.isAgg0
  z0 := Tryd.sizeOf0
  v0 := Tryd.zeroValue0
  t3 := Tryd.underlying3
  a3 := Tryd.isAgg3
  z3 := Tryd.sizeOf3
  v3 := Tryd.zeroValue3
  t4 := Tryd.underlying4
  a4 := Tryd.isAgg4
  z4 := Tryd.sizeOf4
  v4 := Tryd.zeroValue4
  t5 := Tryd.underlying5
  a5 := Tryd.isAgg5
  z5 := Tryd.sizeOf5
  v5 := Tryd.zeroValue5
  t9 := Tryd.underlying9
  a9 := Tryd.isAgg9
  z9 := Tryd.sizeOf9
  v9 := Tryd.zeroValue9
  t28 := Tryd.underlying22
  a28 := Tryd.isAgg22
  z28 := Tryd.sizeOf22
  v28 := Tryd.zeroValue22
  t46 := Tryd.underlying79
  a46 := Tryd.isAgg79
  z46 := Tryd.sizeOf79
  v46 := Tryd.zeroValue79
  t51 := Tryd.underlying94
  a51 := Tryd.isAgg94
  z51 := Tryd.sizeOf94
  v51 := Tryd.zeroValue94
  t53 := Tryd.underlying84
  a53 := Tryd.isAgg84
  z53 := Tryd.sizeOf84
  v53 := Tryd.zeroValue84
  t131 := Tryd.underlying74
  a131 := Tryd.isAgg74
  z131 := Tryd.sizeOf74
  v131 := Tryd.zeroValue74
  t182 := Tryd.underlying87
  a182 := Tryd.isAgg87
  z182 := Tryd.sizeOf87
  v182 := Tryd.zeroValue87
  t183 := Tryd.underlying88
  a183 := Tryd.isAgg88
  z183 := Tryd.sizeOf88
  v183 := Tryd.zeroValue88
  t218 := Tryd.underlying101
  a218 := Tryd.isAgg101
  z218 := Tryd.sizeOf101
  v218 := Tryd.zeroValue101
  t222 := Tryd.underlying105
  a222 := Tryd.isAgg105
  z222 := Tryd.sizeOf105
  v222 := Tryd.zeroValue105
  t228 := Tryd.underlying111
  a228 := Tryd.isAgg111
  z228 := Tryd.sizeOf111
  v228 := Tryd.zeroValue111
  t229 := Tryd.underlying112
  a229 := Tryd.isAgg112
  z229 := Tryd.sizeOf112
  v229 := Tryd.zeroValue112 }
open Go.Sort Go.RowKit in
theorem Tryd.slices_Sort_int (blk off cap : Nat) (zs : List Int) (w : World) (hH : Holds (Value.int .i64) w blk off zs.toArray) (hblk : blk < w.heap.size) (hsz : zs.length < 4611686018427387904) :
    Calls Tryd.prog 51 #[.slice (some ⟨blk, off, none⟩) zs.length cap] w fun e w' =>
      e = .returned (.tuple #[]) ∧ ∃ n os, w' = grow (putRow (Value.int .i64) (Sort.ahead w n) blk off (zs.mergeSort fun x y => decide (x ≤ y)).toArray) os := Any.slices_Sort_int Tryd.lays189 blk off cap zs w hH hblk hsz
def Tryd.laysNm220_ren : Go.Shelf.Ren := ⟨fun | 20 => 52 | n => n, fun | 22 => 22 | 3 => 3 | 4 => 4 | 0 => 0 | n => n, fun | n => n⟩
theorem Tryd.laysNm220 : Go.Proofs.Lays2.n20 Tryd.prog Tryd.laysNm220_ren := {
  mixed := by kernel_rfl
  f20 := Tryd.func52.trans (congrArg some (by kernel_rfl))
  t0 := Tryd.underlying0
  a0 := Tryd.isAgg0
  z0 := Tryd.sizeOf0
  v0 := Tryd.zeroValue0
  t3 := Tryd.underlying3
  a3 := Tryd.isAgg3
  z3 := Tryd.sizeOf3
  v3 := Tryd.zeroValue3
  t4 := Tryd.underlying4
  a4 := Tryd.isAgg4
  z4 := Tryd.sizeOf4
  v4 := Tryd.zeroValue4
  t22 := Tryd.underlying22
  a22 := Tryd.isAgg22
  z22 := Tryd.sizeOf22
  v22 := Tryd.zeroValue22
  i3 := by kernel_rfl }
open Go.RowKit Go.Lib Go.Sort in
/-- slices.Compact at []int: "Compact replaces consecutive runs of equal elements with a single copy. This is like the uniq command found on Unix. Compact modifies the contents of the slice s and returns the modified slice, which may have a smaller length. Compact zeroes the elements between the new length and the original length. The result preserves the nilness of s.": IT RETURNS THE SLICE CUT TO 'Lib.compact zs'; ITS CELLS HOLD 'Lib.compact zs', THEN ZERO VALUES up to the old length; all else is as' it was, but for the count of draws. IN THE WORDS OF slices.Sort's CONTRACT ('Holds', 'putRow'): so the everyday 'slices.Sort(xs); xs = slices.Compact(xs)' goes from the one contract to the other. It asks 'zs.length ≤ cap' (every slice's: the reslicing 's[:k]' looks at it). Length 0, nil: '.._empty'. (LAID: no walk: one application.) -/
theorem Tryd.slices_Compact_int (blk off cap : Nat) (zs : List Int) (w : World) (hH : Holds (Value.int .i64) w blk off zs.toArray) (hsz : zs.length ≤ 9223372036854775807) (hcap : zs.length ≤ cap) :
    Calls Tryd.prog 52 #[.slice (some ⟨blk, off, none⟩) zs.length cap] w fun e w' => e = .returned (.slice (some ⟨blk, off, none⟩) (Lib.compact zs).length cap) ∧ ∃ q, w' = putRow (Value.int .i64) (Sort.ahead w q) blk off (Lib.compact zs ++ List.replicate (zs.length - (Lib.compact zs).length) 0).toArray := Any.slices_Compact_int Tryd.laysNm220 blk off cap zs w hH hsz hcap
open Go.RowKit Go.Lib Go.Sort in
/-- The same at a slice of length 0, a nil one too: it comes back as' it is. (LAID: no walk: one application.) -/
theorem Tryd.slices_Compact_int_empty (a : Option Addr) (cap : Nat) (w : World) :
    Calls Tryd.prog 52 #[.slice a 0 cap] w fun e w' => e = .returned (.slice a 0 cap) ∧ w' = w := Any.slices_Compact_int_empty Tryd.laysNm220 a cap w
open Go.RowKit Go.Sort in
/-- .. and plain. (LAID: no walk: one application.) -/
theorem Tryd.slices_Sort_int_none (p : Option Addr) (cap : Nat) (w : World) :
    Calls Tryd.prog 51 #[.slice p 0 cap] w fun e w' => e = .returned (.tuple #[]) ∧ w' = w := Any.slices_Sort_int_none Tryd.lays189 p cap w
end Go.Proofs
end
section
namespace Ab
open Go Go.Proofs
theorem sort_facts : fnFacts Tryd.prog 51 := ⟨_, Tryd.func51, rfl, rfl⟩
theorem compact_facts : fnFacts Tryd.prog 52 := ⟨_, Tryd.func52, rfl, rfl⟩
theorem sortL_ok : SortOk Tryd.prog 51 := fun hσ hl => sort_fn sort_facts (fun blk off cap zs w hH hb hs => Tryd.slices_Sort_int blk off cap zs w hH hb hs) (fun p cap w => Tryd.slices_Sort_int_none p cap w) hσ hl
theorem compactL_ok : CompactOk Tryd.prog 52 := fun hσ => compact_fn compact_facts (fun blk off cap zs w hH hs hc => Tryd.slices_Compact_int blk off cap zs w hH hs hc) (fun a cap w => Tryd.slices_Compact_int_empty a cap w) hσ
end Ab
end
section
namespace Ab
open Go Go.Proofs
set_option maxHeartbeats 4000000
set_option linter.all false
attribute [local irreducible] AWP AOps thn inB Done PureOk FreshOk Sub
theorem strips_IsSet_ok {l : List Int} {nv : Int} {r : Bool} (h : strips_IsSet l nv = some r) : PureOk Tryd.prog 40 [.c (row 1 intI l), .c (int nv)] (.c (bool r)) := by
  unfold PureOk
  refine FnOk.enter (rs := [.t 4]) Tryd.func40 rfl Tryd.ntmps40 Tryd.results40 rfl ⟨trivial, trivial⟩ (by kernel_rfl) rfl ?_
  unfold strips_IsSet at h
  refine AWP.seq ?_
  refine AWP.region ?_
  refine AOps.assign rfl rfl ?_
  refine AOps.nil ?_
  refine thn_normal ?_
  refine AWP.seq ?_
  refine AWP.seq ?_
  refine AWP.region ?_
  refine AOps.move rfl rfl ?_
  refine S.len rfl rfl (fun hl8 => ?_)
  refine AOps.move rfl rfl ?_
  refine AOps.nil ?_
  refine thn_normal ?_
  refine AWP.block ?_
  obtain ⟨oo, ho1, h⟩ := bind_some h
  refine AWP.rngS ho1 (fun t3 _ => ⟨[(0, .c (row 1 intI l)), (1, .c (int nv)), (7, .c (row 1 intI l)), (8, .c (int (l.length : Int))), (9, .c (int t3))], []⟩) (fun o e st => match o with | .inl _ => e = .exit 0 ∧ Sub [] st ⟨[], []⟩ | .inr x => e = .ret ∧ Done [.t 4] (fun t _ => t = .c (bool x)) .ret st) ?_ ?_ ?_ ?_
  · try dsimp only
    exact Sub.env ⟨rfl, rfl, rfl, rfl, rfl, trivial⟩
  · intro t3 s hlot3 hltt3 _
    try dsimp only
    refine AWP.seq ?_
    refine AWP.region ?_
    refine AOps.lss rfl rfl rfl ?_
    refine AOps.nil ?_
    refine thn_normal ?_
    refine AWP.seq ?_
    refine AWP.condNP rfl hltt3 ?_
    refine AWP.exit ?_
    refine thn_exit ?_
    refine thn_exit ⟨rfl, ?_⟩
    exact Sub.env trivial
  · intro t3 s o hlot3 hltt3 h
    unfold strips_IsSet_l1 at h
    try dsimp only at h ⊢
    refine AWP.seq ?_
    refine AWP.region ?_
    refine AOps.lss rfl rfl rfl ?_
    refine AOps.nil ?_
    refine thn_normal ?_
    refine AWP.seq ?_
    refine AWP.condP rfl hltt3 ?_
    refine AWP.skip ?_
    refine thn_normal ?_
    refine AWP.seq ?_
    refine AWP.block ?_
    refine AWP.seq ?_
    obtain ⟨a12, ha12, h⟩ := bind_some h
    refine AWP.region ?_
    refine AOps.move rfl rfl ?_
    refine S.idx ha12 rfl rfl rfl rfl ?_
    refine AOps.loadI rfl rfl rfl rfl ?_
    refine AOps.assign rfl rfl ?_
    refine AOps.assign rfl rfl ?_
    refine AOps.nil ?_
    refine thn_normal ?_
    obtain ⟨t4, hx5, h⟩ := bind_some h
    refine AWP.seqJ (⟨[(0, .c (row 1 intI l)), (1, .c (int nv)), (7, .c (row 1 intI l)), (8, .c (int (l.length : Int))), (9, .c (int t3)), (33, .c (bool t4))], []⟩) ?_ ?_
    · rcases Bool.eq_false_or_eq_true (decide (a12 < 0)) with hb6 | hb6
      · replace hx5 := iteDT hb6 hx5
        refine AWP.region ?_
        refine AOps.move rfl rfl ?_
        refine AOps.lss rfl rfl rfl ?_
        refine AOps.move rfl rfl ?_
        refine AOps.guardF rfl rfl rfl hb6 ?_
        refine AOps.guardF rfl rfl rfl hb6 ?_
        refine AOps.guardF rfl rfl rfl hb6 ?_
        refine AOps.pickT rfl hb6 rfl rfl ?_
        refine AOps.move rfl rfl ?_
        refine AOps.guardF rfl rfl rfl rfl ?_
        refine AOps.guardF rfl rfl rfl rfl ?_
        refine AOps.guardF rfl rfl rfl rfl ?_
        refine AOps.guardSkip rfl rfl rfl ?_
        refine AOps.guardSkip rfl rfl rfl ?_
        refine AOps.guardSkip rfl rfl rfl ?_
        refine AOps.guardSkip rfl rfl rfl ?_
        refine AOps.guardSkip rfl rfl rfl ?_
        refine AOps.guardSkip rfl rfl rfl ?_
        refine AOps.guardSkip rfl rfl rfl ?_
        refine AOps.guardF rfl rfl rfl rfl ?_
        refine AOps.pickT rfl rfl rfl rfl ?_
        refine AOps.nil ?_
        have ej := Option.some.inj hx5
        subst ej
        refine thn_normal ?_
        exact Sub.env ⟨rfl, rfl, rfl, rfl, rfl, rfl, trivial⟩
      · replace hx5 := iteDF hb6 hx5
        rcases Bool.eq_false_or_eq_true (decide (nv ≤ a12)) with hb7 | hb7
        · replace hx5 := iteDT hb7 hx5
          refine AWP.region ?_
          refine AOps.move rfl rfl ?_
          refine AOps.lss rfl rfl rfl ?_
          refine AOps.move rfl rfl ?_
          refine AOps.guardT rfl rfl rfl hb6 ?_; refine AOps.move rfl rfl ?_
          refine AOps.guardT rfl rfl rfl hb6 ?_; refine AOps.move rfl rfl ?_
          refine AOps.guardT rfl rfl rfl hb6 ?_; refine AOps.geq rfl rfl rfl ?_
          refine AOps.pickF rfl hb6 rfl rfl ?_
          refine AOps.move rfl rfl ?_
          refine AOps.guardF rfl rfl rfl hb7 ?_
          refine AOps.guardF rfl rfl rfl hb7 ?_
          refine AOps.guardF rfl rfl rfl hb7 ?_
          refine AOps.guardSkip rfl rfl rfl ?_
          refine AOps.guardSkip rfl rfl rfl ?_
          refine AOps.guardSkip rfl rfl rfl ?_
          refine AOps.guardSkip rfl rfl rfl ?_
          refine AOps.guardSkip rfl rfl rfl ?_
          refine AOps.guardSkip rfl rfl rfl ?_
          refine AOps.guardSkip rfl rfl rfl ?_
          refine AOps.guardF rfl rfl rfl hb7 ?_
          refine AOps.pickT rfl hb7 rfl rfl ?_
          refine AOps.nil ?_
          have ej := Option.some.inj hx5
          subst ej
          refine thn_normal ?_
          exact Sub.env ⟨rfl, rfl, rfl, rfl, rfl, rfl, trivial⟩
        · replace hx5 := iteDF hb7 hx5
          rcases Bool.eq_false_or_eq_true (decide (0 < t3)) with hb8 | hb8
          · replace hx5 := iteDT hb8 hx5
            obtain ⟨a29, ha29, hx5⟩ := bind_some hx5
            refine AWP.region ?_
            refine AOps.move rfl rfl ?_
            refine AOps.lss rfl rfl rfl ?_
            refine AOps.move rfl rfl ?_
            refine AOps.guardT rfl rfl rfl hb6 ?_; refine AOps.move rfl rfl ?_
            refine AOps.guardT rfl rfl rfl hb6 ?_; refine AOps.move rfl rfl ?_
            refine AOps.guardT rfl rfl rfl hb6 ?_; refine AOps.geq rfl rfl rfl ?_
            refine AOps.pickF rfl hb6 rfl rfl ?_
            refine AOps.move rfl rfl ?_
            refine AOps.guardT rfl rfl rfl hb7 ?_; refine AOps.move rfl rfl ?_
            refine AOps.guardT rfl rfl rfl hb7 ?_; refine AOps.gtr rfl rfl rfl ?_
            refine AOps.guardT rfl rfl rfl hb7 ?_; refine AOps.move rfl rfl ?_
            refine AOps.guardT rfl rfl rfl hb8 ?_; refine AOps.move rfl rfl ?_
            refine AOps.guardT rfl rfl rfl hb8 ?_; refine AOps.move rfl rfl ?_
            refine AOps.guardT rfl rfl rfl hb8 ?_; refine AOps.move rfl rfl ?_
            refine AOps.guardT rfl rfl rfl hb8 ?_; refine AOps.sub' rfl rfl rfl (by omega) ?_
            refine AOps.guardT rfl rfl rfl hb8 ?_; refine S.idx ha29 rfl rfl rfl rfl ?_
            refine AOps.guardT rfl rfl rfl hb8 ?_; refine AOps.loadI rfl rfl rfl rfl ?_
            refine AOps.guardT rfl rfl rfl hb8 ?_; refine AOps.leq rfl rfl rfl ?_
            refine AOps.guardT rfl rfl rfl hb7 ?_; refine AOps.pickT rfl hb8 rfl rfl ?_
            refine AOps.pickF rfl hb7 rfl rfl ?_
            refine AOps.nil ?_
            have ej := Option.some.inj hx5
            subst ej
            refine thn_normal ?_
            exact Sub.env ⟨rfl, rfl, rfl, rfl, rfl, rfl, trivial⟩
          · replace hx5 := iteDF hb8 hx5
            refine AWP.region ?_
            refine AOps.move rfl rfl ?_
            refine AOps.lss rfl rfl rfl ?_
            refine AOps.move rfl rfl ?_
            refine AOps.guardT rfl rfl rfl hb6 ?_; refine AOps.move rfl rfl ?_
            refine AOps.guardT rfl rfl rfl hb6 ?_; refine AOps.move rfl rfl ?_
            refine AOps.guardT rfl rfl rfl hb6 ?_; refine AOps.geq rfl rfl rfl ?_
            refine AOps.pickF rfl hb6 rfl rfl ?_
            refine AOps.move rfl rfl ?_
            refine AOps.guardT rfl rfl rfl hb7 ?_; refine AOps.move rfl rfl ?_
            refine AOps.guardT rfl rfl rfl hb7 ?_; refine AOps.gtr rfl rfl rfl ?_
            refine AOps.guardT rfl rfl rfl hb7 ?_; refine AOps.move rfl rfl ?_
            refine AOps.guardF rfl rfl rfl hb8 ?_
            refine AOps.guardF rfl rfl rfl hb8 ?_
            refine AOps.guardF rfl rfl rfl hb8 ?_
            refine AOps.guardF rfl rfl rfl hb8 ?_
            refine AOps.guardF rfl rfl rfl hb8 ?_
            refine AOps.guardF rfl rfl rfl hb8 ?_
            refine AOps.guardF rfl rfl rfl hb8 ?_
            refine AOps.guardT rfl rfl rfl hb7 ?_; refine AOps.pickF rfl hb8 rfl rfl ?_
            refine AOps.pickF rfl hb7 rfl rfl ?_
            refine AOps.nil ?_
            have ej := Option.some.inj hx5
            subst ej
            refine thn_normal ?_
            exact Sub.env ⟨rfl, rfl, rfl, rfl, rfl, rfl, trivial⟩
    · refine AWP.iteB rfl h (fun hc9 h => ?_) (fun hc9 h => ?_)
      · refine AWP.seq ?_
        refine AWP.region ?_
        refine AOps.assign rfl rfl ?_
        refine AOps.nil ?_
        refine thn_normal ?_
        refine AWP.ret ?_
        refine inB_ret ?_
        refine thn_ret ?_
        have ej := Option.some.inj h
        subst ej
        refine thn_ret ⟨_, rfl, rfl, ?_⟩
        exact Done.ret rfl rfl
      · refine AWP.skip ?_
        refine inB_normal ?_
        refine thn_normal ?_
        refine AWP.region ?_
        refine AOps.add rfl rfl rfl (by omega) ?_
        refine AOps.move rfl rfl ?_
        refine AOps.nil ?_
        have ej := Option.some.inj h
        subst ej
        refine thn_normal ⟨_, rfl, ?_⟩
        exact Sub.env ⟨rfl, rfl, rfl, rfl, rfl, trivial⟩
  · intro e s hq
    rcases oo with u | x
    · try dsimp only at h hq
      obtain ⟨rfl, hs⟩ := hq
      refine ⟨_, hs, ?_⟩
      refine inB_exit ?_
      refine thn_normal ?_
      refine AWP.seq ?_
      refine AWP.region ?_
      refine AOps.assign rfl rfl ?_
      refine AOps.nil ?_
      refine thn_normal ?_
      refine AWP.ret ?_
      have ej := Option.some.inj h
      subst ej
      exact Done.ret rfl rfl
    · try dsimp only at h hq
      obtain ⟨rfl, hs⟩ := hq
      refine ⟨_, Sub.refl _ _, ?_⟩
      refine inB_ret ?_
      refine thn_ret ?_
      have ej := Option.some.inj h
      subst ej
      exact hs
theorem cmp_isNaN_int_ok {xv : Int} {r : Bool} (h : cmp_isNaN_int xv = some r) : PureOk Tryd.prog 62 [.c (int xv)] (.c (bool r)) := by
  unfold PureOk
  refine FnOk.enter (rs := [.t 2]) Tryd.func62 rfl Tryd.ntmps62 Tryd.results62 rfl ⟨trivial, trivial⟩ (by kernel_rfl) rfl ?_
  unfold cmp_isNaN_int at h
  refine AWP.seq ?_
  refine AWP.region ?_
  refine AOps.assign rfl rfl ?_
  refine AOps.nil ?_
  refine thn_normal ?_
  refine AWP.seq ?_
  refine AWP.region ?_
  refine AOps.move rfl rfl ?_
  refine AOps.move rfl rfl ?_
  refine AOps.neq rfl rfl rfl ?_
  refine AOps.assign rfl rfl ?_
  refine AOps.nil ?_
  refine thn_normal ?_
  refine AWP.ret ?_
  have ej := Option.some.inj h
  subst ej
  exact Done.ret rfl rfl
theorem cmp_Less_int_ok {xv : Int} {yv : Int} {r : Bool} (h : cmp_Less_int xv yv = some r) : PureOk Tryd.prog 56 [.c (int xv), .c (int yv)] (.c (bool r)) := by
  unfold PureOk
  refine FnOk.enter (rs := [.t 4]) Tryd.func56 rfl Tryd.ntmps56 Tryd.results56 rfl ⟨trivial, trivial⟩ (by kernel_rfl) rfl ?_
  unfold cmp_Less_int at h
  refine AWP.seq ?_
  refine AWP.region ?_
  refine AOps.assign rfl rfl ?_
  refine AOps.nil ?_
  refine thn_normal ?_
  obtain ⟨t3, hx4, h⟩ := bind_some h
  refine AWP.seqJ (⟨[(4, .c (bool t3))], []⟩) ?_ ?_
  · obtain ⟨a6, ha6, hx4⟩ := bind_some hx4
    rcases Bool.eq_false_or_eq_true (a6) with hb5 | hb5
    · replace hx4 := iteBT hb5 hx4
      obtain ⟨a9, ha9, hx4⟩ := bind_some hx4
      rcases Bool.eq_false_or_eq_true (!a9) with hb6 | hb6
      · replace hx4 := iteBT hb6 hx4
        refine AWP.region ?_
        refine AOps.move rfl rfl ?_
        refine AOps.callR rfl rfl rfl rfl (cmp_isNaN_int_ok ha6) rfl ?_
        refine AOps.move rfl rfl ?_
        refine AOps.guardT rfl rfl rfl hb5 ?_; refine AOps.move rfl rfl ?_
        refine AOps.guardT rfl rfl rfl hb5 ?_; refine AOps.callR rfl rfl rfl rfl (cmp_isNaN_int_ok ha9) rfl ?_
        refine AOps.guardT rfl rfl rfl hb5 ?_; refine AOps.not rfl rfl ?_
        refine AOps.pickT rfl hb5 rfl rfl ?_
        refine AOps.move rfl rfl ?_
        refine AOps.guardF rfl rfl rfl hb6 ?_
        refine AOps.guardF rfl rfl rfl hb6 ?_
        refine AOps.guardF rfl rfl rfl hb6 ?_
        refine AOps.pickT rfl hb6 rfl rfl ?_
        refine AOps.assign rfl rfl ?_
        refine AOps.nil ?_
        have ej := Option.some.inj hx4
        subst ej
        refine thn_normal ?_
        exact Sub.env ⟨rfl, trivial⟩
      · replace hx4 := iteBF hb6 hx4
        refine AWP.region ?_
        refine AOps.move rfl rfl ?_
        refine AOps.callR rfl rfl rfl rfl (cmp_isNaN_int_ok ha6) rfl ?_
        refine AOps.move rfl rfl ?_
        refine AOps.guardT rfl rfl rfl hb5 ?_; refine AOps.move rfl rfl ?_
        refine AOps.guardT rfl rfl rfl hb5 ?_; refine AOps.callR rfl rfl rfl rfl (cmp_isNaN_int_ok ha9) rfl ?_
        refine AOps.guardT rfl rfl rfl hb5 ?_; refine AOps.not rfl rfl ?_
        refine AOps.pickT rfl hb5 rfl rfl ?_
        refine AOps.move rfl rfl ?_
        refine AOps.guardT rfl rfl rfl hb6 ?_; refine AOps.move rfl rfl ?_
        refine AOps.guardT rfl rfl rfl hb6 ?_; refine AOps.move rfl rfl ?_
        refine AOps.guardT rfl rfl rfl hb6 ?_; refine AOps.lss rfl rfl rfl ?_
        refine AOps.pickF rfl hb6 rfl rfl ?_
        refine AOps.assign rfl rfl ?_
        refine AOps.nil ?_
        have ej := Option.some.inj hx4
        subst ej
        refine thn_normal ?_
        exact Sub.env ⟨rfl, trivial⟩
    · replace hx4 := iteBF hb5 hx4
      refine AWP.region ?_
      refine AOps.move rfl rfl ?_
      refine AOps.callR rfl rfl rfl rfl (cmp_isNaN_int_ok ha6) rfl ?_
      refine AOps.move rfl rfl ?_
      refine AOps.guardF rfl rfl rfl hb5 ?_
      refine AOps.guardF rfl rfl rfl hb5 ?_
      refine AOps.guardF rfl rfl rfl hb5 ?_
      refine AOps.pickF rfl hb5 rfl rfl ?_
      refine AOps.move rfl rfl ?_
      refine AOps.guardT rfl rfl rfl rfl ?_; refine AOps.move rfl rfl ?_
      refine AOps.guardT rfl rfl rfl rfl ?_; refine AOps.move rfl rfl ?_
      refine AOps.guardT rfl rfl rfl rfl ?_; refine AOps.lss rfl rfl rfl ?_
      refine AOps.pickF rfl rfl rfl rfl ?_
      refine AOps.assign rfl rfl ?_
      refine AOps.nil ?_
      have ej := Option.some.inj hx4
      subst ej
      refine thn_normal ?_
      exact Sub.env ⟨rfl, trivial⟩
  · refine AWP.ret ?_
    have ej := Option.some.inj h
    subst ej
    exact Done.ret rfl rfl
theorem slices_isNaN_int_ok {xv : Int} {r : Bool} (h : slices_isNaN_int xv = some r) : PureOk Tryd.prog 57 [.c (int xv)] (.c (bool r)) := by
  unfold PureOk
  refine FnOk.enter (rs := [.t 2]) Tryd.func57 rfl Tryd.ntmps57 Tryd.results57 rfl ⟨trivial, trivial⟩ (by kernel_rfl) rfl ?_
  unfold slices_isNaN_int at h
  refine AWP.seq ?_
  refine AWP.region ?_
  refine AOps.assign rfl rfl ?_
  refine AOps.nil ?_
  refine thn_normal ?_
  refine AWP.seq ?_
  refine AWP.region ?_
  refine AOps.move rfl rfl ?_
  refine AOps.move rfl rfl ?_
  refine AOps.neq rfl rfl rfl ?_
  refine AOps.assign rfl rfl ?_
  refine AOps.nil ?_
  refine thn_normal ?_
  refine AWP.ret ?_
  have ej := Option.some.inj h
  subst ej
  exact Done.ret rfl rfl
theorem slices_BinarySearch_int_int_ok {xv : List Int} {target : Int} {r : Int × Bool} (h : slices_BinarySearch_int_int xv target = some r) : PureOk Tryd.prog 50 [.c (row 1 intI xv), .c (int target)] (.tup [.c (int r.1), .c (bool r.2)]) := by
  unfold PureOk
  refine FnOk.enter (rs := [.t 4, .t 5]) Tryd.func50 rfl Tryd.ntmps50 Tryd.results50 rfl ⟨trivial, trivial, trivial⟩ (by kernel_rfl) rfl ?_
  unfold slices_BinarySearch_int_int at h
  refine AWP.seq ?_
  refine AWP.region ?_
  refine AOps.assign rfl rfl ?_
  refine AOps.assign rfl rfl ?_
  refine AOps.nil ?_
  refine thn_normal ?_
  refine AWP.seq ?_
  refine AWP.region ?_
  refine AOps.move rfl rfl ?_
  refine S.len rfl rfl (fun hl11 => ?_)
  refine AOps.assign rfl rfl ?_
  refine AOps.nil ?_
  refine thn_normal ?_
  refine AWP.seq ?_
  refine AWP.region ?_
  refine AOps.move rfl rfl ?_
  refine AOps.assign rfl rfl ?_
  refine AOps.assign rfl rfl ?_
  refine AOps.nil ?_
  refine thn_normal ?_
  refine AWP.seq ?_
  refine AWP.block ?_
  obtain ⟨iv5, ho1, h⟩ := bind_some h
  refine AWP.loopS ho1 (fun (iv3, j4) => ⟨[(0, .c (row 1 intI xv)), (1, .c (int target)), (6, .c (int (xv.length : Int))), (7, .c (int iv3)), (8, .c (int j4))], []⟩) (fun iv5 e st => e = .exit 0 ∧ Sub [] st ⟨[(0, .c (row 1 intI xv)), (1, .c (int target)), (6, .c (int (xv.length : Int))), (7, .c (int iv5))], []⟩) ?_ ?_ ?_
  · try dsimp only
    exact Sub.env ⟨rfl, rfl, rfl, rfl, rfl, trivial⟩
  · intro s o h
    obtain ⟨iv3, j4⟩ := s
    unfold slices_BinarySearch_int_int_l1 at h
    try dsimp only at h ⊢
    refine AWP.seq ?_
    refine AWP.seq ?_
    refine AWP.region ?_
    refine AOps.move rfl rfl ?_
    refine AOps.move rfl rfl ?_
    refine AOps.lss rfl rfl rfl ?_
    refine AOps.nil ?_
    refine thn_normal ?_
    refine AWP.ite rfl h (fun hc6 h => ?_) (fun hc6 h => ?_)
    · refine AWP.skip ?_
      refine thn_normal ?_
      refine AWP.block ?_
      refine AWP.seq ?_
      refine AWP.region ?_
      refine AOps.move rfl rfl ?_
      refine AOps.move rfl rfl ?_
      refine S.add rfl rfl rfl ?_
      refine AOps.convInt rfl rfl ?_
      refine AOps.shr rfl rfl rfl (by decide) rfl ?_
      refine AOps.convInt rfl rfl ?_
      refine AOps.assign rfl rfl ?_
      refine AOps.nil ?_
      refine thn_normal ?_
      refine AWP.seq ?_
      obtain ⟨a24, ha24, h⟩ := bind_some h
      obtain ⟨a27, ha27, h⟩ := bind_some h
      refine AWP.region ?_
      refine AOps.move rfl rfl ?_
      refine AOps.move rfl rfl ?_
      refine S.idx ha24 rfl rfl rfl rfl ?_
      refine AOps.loadI rfl rfl rfl rfl ?_
      refine AOps.move rfl rfl ?_
      refine AOps.callR rfl rfl rfl rfl (cmp_Less_int_ok ha27) rfl ?_
      refine AOps.nil ?_
      refine thn_normal ?_
      refine AWP.iteB rfl h (fun hc7 h => ?_) (fun hc7 h => ?_)
      · refine AWP.region ?_
        refine AOps.move rfl rfl ?_
        refine S.add rfl rfl rfl ?_
        refine AOps.assign rfl rfl ?_
        refine AOps.nil ?_
        refine inB_normal ?_
        have ej := Option.some.inj h
        subst ej
        refine thn_normal ⟨_, rfl, ?_⟩
        exact Sub.env ⟨rfl, rfl, rfl, rfl, rfl, trivial⟩
      · refine AWP.region ?_
        refine AOps.move rfl rfl ?_
        refine AOps.assign rfl rfl ?_
        refine AOps.nil ?_
        refine inB_normal ?_
        have ej := Option.some.inj h
        subst ej
        refine thn_normal ⟨_, rfl, ?_⟩
        exact Sub.env ⟨rfl, rfl, rfl, rfl, rfl, trivial⟩
    · refine AWP.exit ?_
      refine thn_exit ?_
      have ej := Option.some.inj h
      subst ej
      refine thn_exit ⟨_, rfl, rfl, ?_⟩
      exact Sub.env ⟨rfl, rfl, rfl, rfl, trivial⟩
  · intro e s hq
    obtain ⟨rfl, hs⟩ := hq
    refine ⟨_, hs, ?_⟩
    refine inB_exit ?_
    refine thn_normal ?_
    obtain ⟨t8, hx9, h⟩ := bind_some h
    refine AWP.seqJ (⟨[(4, .c (int iv5)), (5, .c (bool t8))], []⟩) ?_ ?_
    · rcases Bool.eq_false_or_eq_true (decide (iv5 < (xv.length : Int))) with hb10 | hb10
      · replace hx9 := iteDT hb10 hx9
        obtain ⟨a38, ha38, hx9⟩ := bind_some hx9
        rcases Bool.eq_false_or_eq_true (decide (a38 = target)) with hb11 | hb11
        · replace hx9 := iteDT hb11 hx9
          refine AWP.region ?_
          refine AOps.move rfl rfl ?_
          refine AOps.move rfl rfl ?_
          refine AOps.move rfl rfl ?_
          refine AOps.lss rfl rfl rfl ?_
          refine AOps.move rfl rfl ?_
          refine AOps.guardT rfl rfl rfl hb10 ?_; refine AOps.move rfl rfl ?_
          refine AOps.guardT rfl rfl rfl hb10 ?_; refine AOps.move rfl rfl ?_
          refine AOps.guardT rfl rfl rfl hb10 ?_; refine S.idx ha38 rfl rfl rfl rfl ?_
          refine AOps.guardT rfl rfl rfl hb10 ?_; refine AOps.loadI rfl rfl rfl rfl ?_
          refine AOps.guardT rfl rfl rfl hb10 ?_; refine AOps.move rfl rfl ?_
          refine AOps.guardT rfl rfl rfl hb10 ?_; refine AOps.eql rfl rfl rfl ?_
          refine AOps.guardT rfl rfl rfl hb10 ?_; refine AOps.move rfl rfl ?_
          refine AOps.guardF rfl rfl rfl hb11 ?_
          refine AOps.guardF rfl rfl rfl hb11 ?_
          refine AOps.guardF rfl rfl rfl hb11 ?_
          refine AOps.guardF rfl rfl rfl hb11 ?_
          refine AOps.guardF rfl rfl rfl hb11 ?_
          refine AOps.guardF rfl rfl rfl hb11 ?_
          refine AOps.guardSkip rfl rfl rfl ?_
          refine AOps.guardSkip rfl rfl rfl ?_
          refine AOps.guardF rfl rfl rfl hb11 ?_
          refine AOps.guardT rfl rfl rfl hb10 ?_; refine AOps.pickT rfl hb11 rfl rfl ?_
          refine AOps.pickT rfl hb10 rfl rfl ?_
          refine AOps.assign rfl rfl ?_
          refine AOps.assign rfl rfl ?_
          refine AOps.nil ?_
          have ej := Option.some.inj hx9
          subst ej
          refine thn_normal ?_
          exact Sub.env ⟨rfl, rfl, trivial⟩
        · replace hx9 := iteDF hb11 hx9
          obtain ⟨a45, ha45, hx9⟩ := bind_some hx9
          obtain ⟨a47, ha47, hx9⟩ := bind_some hx9
          rcases Bool.eq_false_or_eq_true (a47) with hb12 | hb12
          · replace hx9 := iteBT hb12 hx9
            obtain ⟨a50, ha50, hx9⟩ := bind_some hx9
            refine AWP.region ?_
            refine AOps.move rfl rfl ?_
            refine AOps.move rfl rfl ?_
            refine AOps.move rfl rfl ?_
            refine AOps.lss rfl rfl rfl ?_
            refine AOps.move rfl rfl ?_
            refine AOps.guardT rfl rfl rfl hb10 ?_; refine AOps.move rfl rfl ?_
            refine AOps.guardT rfl rfl rfl hb10 ?_; refine AOps.move rfl rfl ?_
            refine AOps.guardT rfl rfl rfl hb10 ?_; refine S.idx ha38 rfl rfl rfl rfl ?_
            refine AOps.guardT rfl rfl rfl hb10 ?_; refine AOps.loadI rfl rfl rfl rfl ?_
            refine AOps.guardT rfl rfl rfl hb10 ?_; refine AOps.move rfl rfl ?_
            refine AOps.guardT rfl rfl rfl hb10 ?_; refine AOps.eql rfl rfl rfl ?_
            refine AOps.guardT rfl rfl rfl hb10 ?_; refine AOps.move rfl rfl ?_
            refine AOps.guardT rfl rfl rfl hb11 ?_; refine AOps.move rfl rfl ?_
            refine AOps.guardT rfl rfl rfl hb11 ?_; refine AOps.move rfl rfl ?_
            refine AOps.guardT rfl rfl rfl hb11 ?_; refine S.idx ha45 rfl rfl rfl rfl ?_
            refine AOps.guardT rfl rfl rfl hb11 ?_; refine AOps.loadI rfl rfl rfl rfl ?_
            refine AOps.guardT rfl rfl rfl hb11 ?_; refine AOps.callR rfl rfl rfl rfl (slices_isNaN_int_ok ha47) rfl ?_
            refine AOps.guardT rfl rfl rfl hb11 ?_; refine AOps.move rfl rfl ?_
            refine AOps.guardT rfl rfl rfl hb12 ?_; refine AOps.move rfl rfl ?_
            refine AOps.guardT rfl rfl rfl hb12 ?_; refine AOps.callR rfl rfl rfl rfl (slices_isNaN_int_ok ha50) rfl ?_
            refine AOps.guardT rfl rfl rfl hb11 ?_; refine AOps.pickT rfl hb12 rfl rfl ?_
            refine AOps.guardT rfl rfl rfl hb10 ?_; refine AOps.pickF rfl hb11 rfl rfl ?_
            refine AOps.pickT rfl hb10 rfl rfl ?_
            refine AOps.assign rfl rfl ?_
            refine AOps.assign rfl rfl ?_
            refine AOps.nil ?_
            have ej := Option.some.inj hx9
            subst ej
            refine thn_normal ?_
            exact Sub.env ⟨rfl, rfl, trivial⟩
          · replace hx9 := iteBF hb12 hx9
            refine AWP.region ?_
            refine AOps.move rfl rfl ?_
            refine AOps.move rfl rfl ?_
            refine AOps.move rfl rfl ?_
            refine AOps.lss rfl rfl rfl ?_
            refine AOps.move rfl rfl ?_
            refine AOps.guardT rfl rfl rfl hb10 ?_; refine AOps.move rfl rfl ?_
            refine AOps.guardT rfl rfl rfl hb10 ?_; refine AOps.move rfl rfl ?_
            refine AOps.guardT rfl rfl rfl hb10 ?_; refine S.idx ha38 rfl rfl rfl rfl ?_
            refine AOps.guardT rfl rfl rfl hb10 ?_; refine AOps.loadI rfl rfl rfl rfl ?_
            refine AOps.guardT rfl rfl rfl hb10 ?_; refine AOps.move rfl rfl ?_
            refine AOps.guardT rfl rfl rfl hb10 ?_; refine AOps.eql rfl rfl rfl ?_
            refine AOps.guardT rfl rfl rfl hb10 ?_; refine AOps.move rfl rfl ?_
            refine AOps.guardT rfl rfl rfl hb11 ?_; refine AOps.move rfl rfl ?_
            refine AOps.guardT rfl rfl rfl hb11 ?_; refine AOps.move rfl rfl ?_
            refine AOps.guardT rfl rfl rfl hb11 ?_; refine S.idx ha45 rfl rfl rfl rfl ?_
            refine AOps.guardT rfl rfl rfl hb11 ?_; refine AOps.loadI rfl rfl rfl rfl ?_
            refine AOps.guardT rfl rfl rfl hb11 ?_; refine AOps.callR rfl rfl rfl rfl (slices_isNaN_int_ok ha47) rfl ?_
            refine AOps.guardT rfl rfl rfl hb11 ?_; refine AOps.move rfl rfl ?_
            refine AOps.guardF rfl rfl rfl hb12 ?_
            refine AOps.guardF rfl rfl rfl hb12 ?_
            refine AOps.guardT rfl rfl rfl hb11 ?_; refine AOps.pickF rfl hb12 rfl rfl ?_
            refine AOps.guardT rfl rfl rfl hb10 ?_; refine AOps.pickF rfl hb11 rfl rfl ?_
            refine AOps.pickT rfl hb10 rfl rfl ?_
            refine AOps.assign rfl rfl ?_
            refine AOps.assign rfl rfl ?_
            refine AOps.nil ?_
            have ej := Option.some.inj hx9
            subst ej
            refine thn_normal ?_
            exact Sub.env ⟨rfl, rfl, trivial⟩
      · replace hx9 := iteDF hb10 hx9
        refine AWP.region ?_
        refine AOps.move rfl rfl ?_
        refine AOps.move rfl rfl ?_
        refine AOps.move rfl rfl ?_
        refine AOps.lss rfl rfl rfl ?_
        refine AOps.move rfl rfl ?_
        refine AOps.guardF rfl rfl rfl hb10 ?_
        refine AOps.guardF rfl rfl rfl hb10 ?_
        refine AOps.guardF rfl rfl rfl hb10 ?_
        refine AOps.guardF rfl rfl rfl hb10 ?_
        refine AOps.guardF rfl rfl rfl hb10 ?_
        refine AOps.guardF rfl rfl rfl hb10 ?_
        refine AOps.guardF rfl rfl rfl hb10 ?_
        refine AOps.guardSkip rfl rfl rfl ?_
        refine AOps.guardSkip rfl rfl rfl ?_
        refine AOps.guardSkip rfl rfl rfl ?_
        refine AOps.guardSkip rfl rfl rfl ?_
        refine AOps.guardSkip rfl rfl rfl ?_
        refine AOps.guardSkip rfl rfl rfl ?_
        refine AOps.guardSkip rfl rfl rfl ?_
        refine AOps.guardSkip rfl rfl rfl ?_
        refine AOps.guardSkip rfl rfl rfl ?_
        refine AOps.guardF rfl rfl rfl hb10 ?_
        refine AOps.pickF rfl hb10 rfl rfl ?_
        refine AOps.assign rfl rfl ?_
        refine AOps.assign rfl rfl ?_
        refine AOps.nil ?_
        have ej := Option.some.inj hx9
        subst ej
        refine thn_normal ?_
        exact Sub.env ⟨rfl, rfl, trivial⟩
    · refine AWP.ret ?_
      have ej := Option.some.inj h
      subst ej
      exact Done.ret rfl rfl
theorem strips_Meets_1_ok {xv : Int} {c2 : List Int} {r : Bool} (h : strips_Meets_1 xv c2 = some r) : PureOk Tryd.prog 54 [.c (int xv), .c (.imm (.ipt [.sl 1 (List.map intI c2)]))] (.c (bool r)) := by
  unfold PureOk
  refine FnOk.enter (rs := [.t 3]) Tryd.func54 rfl Tryd.ntmps54 Tryd.results54 rfl ⟨trivial, trivial⟩ (by kernel_rfl) rfl ?_
  unfold strips_Meets_1 at h
  refine AWP.seq ?_
  refine AWP.region ?_
  refine AOps.assign rfl rfl ?_
  refine AOps.nil ?_
  refine thn_normal ?_
  refine AWP.seq ?_
  obtain ⟨a9, ha9, h⟩ := bind_some h
  refine AWP.region ?_
  refine AOps.loadI rfl rfl rfl rfl ?_
  refine AOps.move rfl rfl ?_
  refine AOps.callR rfl rfl rfl rfl (slices_BinarySearch_int_int_ok ha9) rfl ?_
  refine AOps.move rfl rfl ?_
  refine AOps.extract rfl rfl rfl ?_
  refine AOps.extract rfl rfl rfl ?_
  refine AOps.assign rfl rfl ?_
  refine AOps.assign rfl rfl ?_
  refine AOps.nil ?_
  refine thn_normal ?_
  refine AWP.seq ?_
  refine AWP.region ?_
  refine AOps.move rfl rfl ?_
  refine AOps.assign rfl rfl ?_
  refine AOps.nil ?_
  refine thn_normal ?_
  refine AWP.ret ?_
  have ej := Option.some.inj h
  subst ej
  exact Done.ret rfl rfl
theorem slices_IndexFunc_int_int_ok {sv : List Int} {fv : Int → Option Bool} {r : Int} {fvfv : FuncId} {cvfv : List C} (hcvfv : C.okL 0 cvfv = true) (hfv : ∀ {y1 : Int} {z : Bool}, fv y1 = some z → PureOk Tryd.prog fvfv ([.c (int y1)] ++ cvfv.map T.c) (.c (bool z))) (h : slices_IndexFunc_int_int sv fv = some r) : PureOk Tryd.prog 60 [.c (row 1 intI sv), .c (.fn fvfv cvfv)] (.c (int r)) := by
  unfold PureOk
  refine FnOk.enter (rs := [.t 4]) Tryd.func60 rfl Tryd.ntmps60 Tryd.results60 rfl ⟨trivial, trivial⟩ (by kernel_rfl) rfl ?_
  unfold slices_IndexFunc_int_int at h
  refine AWP.seq ?_
  refine AWP.region ?_
  refine AOps.assign rfl rfl ?_
  refine AOps.nil ?_
  refine thn_normal ?_
  refine AWP.seq ?_
  refine AWP.seq ?_
  refine AWP.region ?_
  refine AOps.move rfl rfl ?_
  refine S.len rfl rfl (fun hl7 => ?_)
  refine AOps.move rfl rfl ?_
  refine AOps.nil ?_
  refine thn_normal ?_
  refine AWP.block ?_
  obtain ⟨oo, ho1, h⟩ := bind_some h
  refine AWP.rngS ho1 (fun t3 _ => ⟨[(0, .c (row 1 intI sv)), (1, .c (.fn fvfv cvfv)), (7, .c (int (sv.length : Int))), (8, .c (int t3))], []⟩) (fun o e st => match o with | .inl _ => e = .exit 0 ∧ Sub [] st ⟨[], []⟩ | .inr x => e = .ret ∧ Done [.t 4] (fun t _ => t = .c (int x)) .ret st) ?_ ?_ ?_ ?_
  · try dsimp only
    exact Sub.env ⟨rfl, rfl, rfl, rfl, trivial⟩
  · intro t3 s hlot3 hltt3 _
    try dsimp only
    refine AWP.seq ?_
    refine AWP.region ?_
    refine AOps.lss rfl rfl rfl ?_
    refine AOps.nil ?_
    refine thn_normal ?_
    refine AWP.seq ?_
    refine AWP.condNP rfl hltt3 ?_
    refine AWP.exit ?_
    refine thn_exit ?_
    refine thn_exit ⟨rfl, ?_⟩
    exact Sub.env trivial
  · intro t3 s o hlot3 hltt3 h
    unfold slices_IndexFunc_int_int_l1 at h
    try dsimp only at h ⊢
    refine AWP.seq ?_
    refine AWP.region ?_
    refine AOps.lss rfl rfl rfl ?_
    refine AOps.nil ?_
    refine thn_normal ?_
    refine AWP.seq ?_
    refine AWP.condP rfl hltt3 ?_
    refine AWP.skip ?_
    refine thn_normal ?_
    refine AWP.seq ?_
    refine AWP.block ?_
    refine AWP.seq ?_
    refine AWP.region ?_
    refine AOps.move rfl rfl ?_
    refine AOps.assign rfl rfl ?_
    refine AOps.nil ?_
    refine thn_normal ?_
    refine AWP.seq ?_
    obtain ⟨a14, ha14, h⟩ := bind_some h
    obtain ⟨a16, ha16, h⟩ := bind_some h
    refine AWP.region ?_
    refine AOps.move rfl rfl ?_
    refine AOps.move rfl rfl ?_
    refine AOps.move rfl rfl ?_
    refine S.idx ha14 rfl rfl rfl rfl ?_
    refine AOps.loadI rfl rfl rfl rfl ?_
    refine AOps.callR rfl rfl (okL_app rfl hcvfv) rfl (hfv ha16) rfl ?_
    refine AOps.nil ?_
    refine thn_normal ?_
    refine AWP.iteB rfl h (fun hc4 h => ?_) (fun hc4 h => ?_)
    · refine AWP.seq ?_
      refine AWP.region ?_
      refine AOps.move rfl rfl ?_
      refine AOps.assign rfl rfl ?_
      refine AOps.nil ?_
      refine thn_normal ?_
      refine AWP.ret ?_
      refine inB_ret ?_
      refine thn_ret ?_
      have ej := Option.some.inj h
      subst ej
      refine thn_ret ⟨_, rfl, rfl, ?_⟩
      exact Done.ret rfl rfl
    · refine AWP.skip ?_
      refine inB_normal ?_
      refine thn_normal ?_
      refine AWP.region ?_
      refine AOps.add rfl rfl rfl (by omega) ?_
      refine AOps.move rfl rfl ?_
      refine AOps.nil ?_
      have ej := Option.some.inj h
      subst ej
      refine thn_normal ⟨_, rfl, ?_⟩
      exact Sub.env ⟨rfl, rfl, rfl, rfl, trivial⟩
  · intro e s hq
    rcases oo with u | x
    · try dsimp only at h hq
      obtain ⟨rfl, hs⟩ := hq
      refine ⟨_, hs, ?_⟩
      refine inB_exit ?_
      refine thn_normal ?_
      refine AWP.seq ?_
      refine AWP.region ?_
      refine AOps.assign rfl rfl ?_
      refine AOps.nil ?_
      refine thn_normal ?_
      refine AWP.ret ?_
      have ej := Option.some.inj h
      subst ej
      exact Done.ret rfl rfl
    · try dsimp only at h hq
      obtain ⟨rfl, hs⟩ := hq
      refine ⟨_, Sub.refl _ _, ?_⟩
      refine inB_ret ?_
      refine thn_ret ?_
      have ej := Option.some.inj h
      subst ej
      exact hs
theorem slices_ContainsFunc_int_int_ok {sv : List Int} {fv : Int → Option Bool} {r : Bool} {fvfv : FuncId} {cvfv : List C} (hcvfv : C.okL 0 cvfv = true) (hfv : ∀ {y1 : Int} {z : Bool}, fv y1 = some z → PureOk Tryd.prog fvfv ([.c (int y1)] ++ cvfv.map T.c) (.c (bool z))) (h : slices_ContainsFunc_int_int sv fv = some r) : PureOk Tryd.prog 53 [.c (row 1 intI sv), .c (.fn fvfv cvfv)] (.c (bool r)) := by
  unfold PureOk
  refine FnOk.enter (rs := [.t 4]) Tryd.func53 rfl Tryd.ntmps53 Tryd.results53 rfl ⟨trivial, trivial⟩ (by kernel_rfl) rfl ?_
  unfold slices_ContainsFunc_int_int at h
  refine AWP.seq ?_
  refine AWP.region ?_
  refine AOps.assign rfl rfl ?_
  refine AOps.nil ?_
  refine thn_normal ?_
  refine AWP.seq ?_
  obtain ⟨a7, ha7, h⟩ := bind_some h
  refine AWP.region ?_
  refine AOps.move rfl rfl ?_
  refine AOps.move rfl rfl ?_
  refine AOps.callR rfl rfl (by simp [T.okL, T.ok, C.ok, C.okL, hcvfv]) rfl (slices_IndexFunc_int_int_ok hcvfv hfv ha7) rfl ?_
  refine AOps.geq rfl rfl rfl ?_
  refine AOps.assign rfl rfl ?_
  refine AOps.nil ?_
  refine thn_normal ?_
  refine AWP.ret ?_
  have ej := Option.some.inj h
  subst ej
  exact Done.ret rfl rfl
theorem strips_Meets_ok {av : List Int} {bv : List Int} {r : Bool} (h : strips_Meets av bv = some r) : PureOk Tryd.prog 45 [.c (row 1 intI av), .c (row 1 intI bv)] (.c (bool r)) := by
  unfold PureOk
  refine FnOk.enter (rs := [.t 4]) Tryd.func45 rfl Tryd.ntmps45 Tryd.results45 rfl ⟨trivial, trivial⟩ (by kernel_rfl) rfl ?_
  unfold strips_Meets at h
  refine AWP.seq ?_
  refine AWP.region ?_
  refine W.box rfl rfl rfl rfl rfl rfl ?_
  refine AOps.assign rfl rfl ?_
  refine AOps.nil ?_
  refine thn_normal ?_
  refine AWP.seq ?_
  obtain ⟨a7, ha7, h⟩ := bind_some h
  refine AWP.region ?_
  refine AOps.move rfl rfl ?_
  refine AOps.makeFunc rfl rfl ?_
  refine AOps.callL rfl rfl (.cons (.c .imm) (.cons (.c (.fn (.cons (.ptr (es := [.sl 1 (List.map intI bv)]) rfl rfl (.cons .imm .nil)) .nil))) .nil)) rfl (slices_ContainsFunc_int_int_ok rfl (fun hy => strips_Meets_1_ok hy) ha7) rfl ?_
  refine AOps.assign rfl rfl ?_
  refine AOps.nil ?_
  refine thn_normal ?_
  refine AWP.ret ?_
  have ej := Option.some.inj h
  subst ej
  exact Done.ret rfl rfl
theorem strips_operator_ok {ov : TOperator} {facts : Int} {r : Int} (h : strips_operator ov facts = some r) : PureOk Tryd.prog 48 [.agg [row 1 intI ov.pre, row 1 intI ov.add, row 1 intI ov.del, int ov.cost], .c (int facts)] (.c (int r)) := by
  unfold PureOk
  refine FnOk.enter (rs := [.t 4]) Tryd.func48 rfl Tryd.ntmps48 Tryd.results48 rfl ⟨trivial, trivial⟩ (by kernel_rfl) rfl ?_
  unfold strips_operator at h
  refine AWP.seq ?_
  refine AWP.region ?_
  refine W.box rfl rfl rfl rfl rfl rfl ?_
  refine AOps.assign rfl rfl ?_
  refine AOps.nil ?_
  refine thn_normal ?_
  refine AWP.seq ?_
  refine AWP.block ?_
  obtain ⟨t3, hx4, h⟩ := bind_some h
  refine AWP.seqJ (⟨[(2, .c (.ptr 0 0 0)), (5, .c (bool t3))], [.one (.cells 4 [[row 1 intI ov.pre, row 1 intI ov.add, row 1 intI ov.del, int ov.cost]])]⟩) ?_ ?_
  · obtain ⟨a9, ha9, hx4⟩ := bind_some hx4
    rcases Bool.eq_false_or_eq_true (!a9) with hb5 | hb5
    · replace hx4 := iteBT hb5 hx4
      refine AWP.region ?_
      refine W.fieldAddr rfl rfl rfl rfl ?_
      refine AOps.load rfl rfl rfl rfl rfl rfl ?_
      refine AOps.move rfl rfl ?_
      refine AOps.callR rfl rfl rfl rfl (strips_IsSet_ok ha9) rfl ?_
      refine AOps.not rfl rfl ?_
      refine AOps.move rfl rfl ?_
      refine AOps.guardF rfl rfl rfl hb5 ?_
      refine AOps.guardF rfl rfl rfl hb5 ?_
      refine AOps.guardF rfl rfl rfl hb5 ?_
      refine AOps.guardF rfl rfl rfl hb5 ?_
      refine AOps.guardF rfl rfl rfl hb5 ?_
      refine AOps.pickT rfl hb5 rfl rfl ?_
      refine AOps.move rfl rfl ?_
      refine AOps.guardF rfl rfl rfl rfl ?_
      refine AOps.guardF rfl rfl rfl rfl ?_
      refine AOps.guardF rfl rfl rfl rfl ?_
      refine AOps.guardF rfl rfl rfl rfl ?_
      refine AOps.guardF rfl rfl rfl rfl ?_
      refine AOps.pickT rfl rfl rfl rfl ?_
      refine AOps.move rfl rfl ?_
      refine AOps.guardF rfl rfl rfl rfl ?_
      refine AOps.guardF rfl rfl rfl rfl ?_
      refine AOps.guardF rfl rfl rfl rfl ?_
      refine AOps.guardF rfl rfl rfl rfl ?_
      refine AOps.guardF rfl rfl rfl rfl ?_
      refine AOps.pickT rfl rfl rfl rfl ?_
      refine AOps.assign rfl rfl ?_
      refine AOps.nil ?_
      have ej := Option.some.inj hx4
      subst ej
      refine thn_normal ?_
      exact Sub.env ⟨rfl, rfl, trivial⟩
    · replace hx4 := iteBF hb5 hx4
      obtain ⟨a15, ha15, hx4⟩ := bind_some hx4
      rcases Bool.eq_false_or_eq_true (!a15) with hb6 | hb6
      · replace hx4 := iteBT hb6 hx4
        refine AWP.region ?_
        refine W.fieldAddr rfl rfl rfl rfl ?_
        refine AOps.load rfl rfl rfl rfl rfl rfl ?_
        refine AOps.move rfl rfl ?_
        refine AOps.callR rfl rfl rfl rfl (strips_IsSet_ok ha9) rfl ?_
        refine AOps.not rfl rfl ?_
        refine AOps.move rfl rfl ?_
        refine AOps.guardT rfl rfl rfl hb5 ?_; refine W.fieldAddr rfl rfl rfl rfl ?_
        refine AOps.guardT rfl rfl rfl hb5 ?_; refine AOps.load rfl rfl rfl rfl rfl rfl ?_
        refine AOps.guardT rfl rfl rfl hb5 ?_; refine AOps.move rfl rfl ?_
        refine AOps.guardT rfl rfl rfl hb5 ?_; refine AOps.callR rfl rfl rfl rfl (strips_IsSet_ok ha15) rfl ?_
        refine AOps.guardT rfl rfl rfl hb5 ?_; refine AOps.not rfl rfl ?_
        refine AOps.pickF rfl hb5 rfl rfl ?_
        refine AOps.move rfl rfl ?_
        refine AOps.guardF rfl rfl rfl hb6 ?_
        refine AOps.guardF rfl rfl rfl hb6 ?_
        refine AOps.guardF rfl rfl rfl hb6 ?_
        refine AOps.guardF rfl rfl rfl hb6 ?_
        refine AOps.guardF rfl rfl rfl hb6 ?_
        refine AOps.pickT rfl hb6 rfl rfl ?_
        refine AOps.move rfl rfl ?_
        refine AOps.guardF rfl rfl rfl rfl ?_
        refine AOps.guardF rfl rfl rfl rfl ?_
        refine AOps.guardF rfl rfl rfl rfl ?_
        refine AOps.guardF rfl rfl rfl rfl ?_
        refine AOps.guardF rfl rfl rfl rfl ?_
        refine AOps.pickT rfl rfl rfl rfl ?_
        refine AOps.assign rfl rfl ?_
        refine AOps.nil ?_
        have ej := Option.some.inj hx4
        subst ej
        refine thn_normal ?_
        exact Sub.env ⟨rfl, rfl, trivial⟩
      · replace hx4 := iteBF hb6 hx4
        obtain ⟨a22, ha22, hx4⟩ := bind_some hx4
        rcases Bool.eq_false_or_eq_true (!a22) with hb7 | hb7
        · replace hx4 := iteBT hb7 hx4
          refine AWP.region ?_
          refine W.fieldAddr rfl rfl rfl rfl ?_
          refine AOps.load rfl rfl rfl rfl rfl rfl ?_
          refine AOps.move rfl rfl ?_
          refine AOps.callR rfl rfl rfl rfl (strips_IsSet_ok ha9) rfl ?_
          refine AOps.not rfl rfl ?_
          refine AOps.move rfl rfl ?_
          refine AOps.guardT rfl rfl rfl hb5 ?_; refine W.fieldAddr rfl rfl rfl rfl ?_
          refine AOps.guardT rfl rfl rfl hb5 ?_; refine AOps.load rfl rfl rfl rfl rfl rfl ?_
          refine AOps.guardT rfl rfl rfl hb5 ?_; refine AOps.move rfl rfl ?_
          refine AOps.guardT rfl rfl rfl hb5 ?_; refine AOps.callR rfl rfl rfl rfl (strips_IsSet_ok ha15) rfl ?_
          refine AOps.guardT rfl rfl rfl hb5 ?_; refine AOps.not rfl rfl ?_
          refine AOps.pickF rfl hb5 rfl rfl ?_
          refine AOps.move rfl rfl ?_
          refine AOps.guardT rfl rfl rfl hb6 ?_; refine W.fieldAddr rfl rfl rfl rfl ?_
          refine AOps.guardT rfl rfl rfl hb6 ?_; refine AOps.load rfl rfl rfl rfl rfl rfl ?_
          refine AOps.guardT rfl rfl rfl hb6 ?_; refine AOps.move rfl rfl ?_
          refine AOps.guardT rfl rfl rfl hb6 ?_; refine AOps.callR rfl rfl rfl rfl (strips_IsSet_ok ha22) rfl ?_
          refine AOps.guardT rfl rfl rfl hb6 ?_; refine AOps.not rfl rfl ?_
          refine AOps.pickF rfl hb6 rfl rfl ?_
          refine AOps.move rfl rfl ?_
          refine AOps.guardF rfl rfl rfl hb7 ?_
          refine AOps.guardF rfl rfl rfl hb7 ?_
          refine AOps.guardF rfl rfl rfl hb7 ?_
          refine AOps.guardF rfl rfl rfl hb7 ?_
          refine AOps.guardF rfl rfl rfl hb7 ?_
          refine AOps.pickT rfl hb7 rfl rfl ?_
          refine AOps.assign rfl rfl ?_
          refine AOps.nil ?_
          have ej := Option.some.inj hx4
          subst ej
          refine thn_normal ?_
          exact Sub.env ⟨rfl, rfl, trivial⟩
        · replace hx4 := iteBF hb7 hx4
          obtain ⟨a30, ha30, hx4⟩ := bind_some hx4
          refine AWP.region ?_
          refine W.fieldAddr rfl rfl rfl rfl ?_
          refine AOps.load rfl rfl rfl rfl rfl rfl ?_
          refine AOps.move rfl rfl ?_
          refine AOps.callR rfl rfl rfl rfl (strips_IsSet_ok ha9) rfl ?_
          refine AOps.not rfl rfl ?_
          refine AOps.move rfl rfl ?_
          refine AOps.guardT rfl rfl rfl hb5 ?_; refine W.fieldAddr rfl rfl rfl rfl ?_
          refine AOps.guardT rfl rfl rfl hb5 ?_; refine AOps.load rfl rfl rfl rfl rfl rfl ?_
          refine AOps.guardT rfl rfl rfl hb5 ?_; refine AOps.move rfl rfl ?_
          refine AOps.guardT rfl rfl rfl hb5 ?_; refine AOps.callR rfl rfl rfl rfl (strips_IsSet_ok ha15) rfl ?_
          refine AOps.guardT rfl rfl rfl hb5 ?_; refine AOps.not rfl rfl ?_
          refine AOps.pickF rfl hb5 rfl rfl ?_
          refine AOps.move rfl rfl ?_
          refine AOps.guardT rfl rfl rfl hb6 ?_; refine W.fieldAddr rfl rfl rfl rfl ?_
          refine AOps.guardT rfl rfl rfl hb6 ?_; refine AOps.load rfl rfl rfl rfl rfl rfl ?_
          refine AOps.guardT rfl rfl rfl hb6 ?_; refine AOps.move rfl rfl ?_
          refine AOps.guardT rfl rfl rfl hb6 ?_; refine AOps.callR rfl rfl rfl rfl (strips_IsSet_ok ha22) rfl ?_
          refine AOps.guardT rfl rfl rfl hb6 ?_; refine AOps.not rfl rfl ?_
          refine AOps.pickF rfl hb6 rfl rfl ?_
          refine AOps.move rfl rfl ?_
          refine AOps.guardT rfl rfl rfl hb7 ?_; refine W.fieldAddr rfl rfl rfl rfl ?_
          refine AOps.guardT rfl rfl rfl hb7 ?_; refine AOps.load rfl rfl rfl rfl rfl rfl ?_
          refine AOps.guardT rfl rfl rfl hb7 ?_; refine W.fieldAddr rfl rfl rfl rfl ?_
          refine AOps.guardT rfl rfl rfl hb7 ?_; refine AOps.load rfl rfl rfl rfl rfl rfl ?_
          refine AOps.guardT rfl rfl rfl hb7 ?_; refine AOps.callR rfl rfl rfl rfl (strips_Meets_ok ha30) rfl ?_
          refine AOps.pickF rfl hb7 rfl rfl ?_
          refine AOps.assign rfl rfl ?_
          refine AOps.nil ?_
          have ej := Option.some.inj hx4
          subst ej
          refine thn_normal ?_
          exact Sub.env ⟨rfl, rfl, trivial⟩
  · refine AWP.iteB rfl h (fun hc8 h => ?_) (fun hc8 h => ?_)
    · refine AWP.seq ?_
      refine AWP.region ?_
      refine AOps.assign rfl rfl ?_
      refine AOps.nil ?_
      refine thn_normal ?_
      refine AWP.ret ?_
      refine inB_ret ?_
      refine thn_ret ?_
      have ej := Option.some.inj h
      subst ej
      exact Done.ret rfl rfl
    · refine AWP.seqJ (⟨[(32, .c (bool ((decide (ov.cost < 0)) || (decide (100 < ov.cost)))))], [.one (.cells 4 [[row 1 intI ov.pre, row 1 intI ov.add, row 1 intI ov.del, int ov.cost]])]⟩) ?_ ?_
      · rcases Bool.eq_false_or_eq_true (decide (ov.cost < 0)) with hb1 | hb1
        · refine AWP.region ?_
          refine W.fieldAddr rfl rfl rfl rfl ?_
          refine AOps.load rfl rfl rfl rfl rfl rfl ?_
          refine AOps.lss rfl rfl rfl ?_
          refine AOps.move rfl rfl ?_
          refine AOps.guardF rfl rfl rfl hb1 ?_
          refine AOps.guardF rfl rfl rfl hb1 ?_
          refine AOps.guardF rfl rfl rfl hb1 ?_
          refine AOps.pickT rfl hb1 rfl rfl ?_
          refine AOps.assign rfl rfl ?_
          refine AOps.nil ?_
          refine thn_normal ?_
          simp only [and_t hb1, or_t hb1, Bool.false_or, Bool.true_or, Bool.false_and, Bool.true_and]
          exact Sub.env ⟨rfl, trivial⟩
        · refine AWP.region ?_
          refine W.fieldAddr rfl rfl rfl rfl ?_
          refine AOps.load rfl rfl rfl rfl rfl rfl ?_
          refine AOps.lss rfl rfl rfl ?_
          refine AOps.move rfl rfl ?_
          refine AOps.guardT rfl rfl rfl hb1 ?_; refine W.fieldAddr rfl rfl rfl rfl ?_
          refine AOps.guardT rfl rfl rfl hb1 ?_; refine AOps.load rfl rfl rfl rfl rfl rfl ?_
          refine AOps.guardT rfl rfl rfl hb1 ?_; refine AOps.gtr rfl rfl rfl ?_
          refine AOps.pickF rfl hb1 rfl rfl ?_
          refine AOps.assign rfl rfl ?_
          refine AOps.nil ?_
          refine thn_normal ?_
          simp only [and_f hb1, or_f hb1, Bool.false_or, Bool.true_or, Bool.false_and, Bool.true_and]
          exact Sub.env ⟨rfl, trivial⟩
      · refine AWP.iteB rfl h (fun hc9 h => ?_) (fun hc9 h => ?_)
        · refine AWP.seq ?_
          refine AWP.region ?_
          refine AOps.assign rfl rfl ?_
          refine AOps.nil ?_
          refine thn_normal ?_
          refine AWP.ret ?_
          refine inB_ret ?_
          refine thn_ret ?_
          have ej := Option.some.inj h
          subst ej
          exact Done.ret rfl rfl
        · refine AWP.skip ?_
          refine inB_normal ?_
          refine thn_normal ?_
          refine AWP.seq ?_
          refine AWP.region ?_
          refine AOps.assign rfl rfl ?_
          refine AOps.nil ?_
          refine thn_normal ?_
          refine AWP.ret ?_
          have ej := Option.some.inj h
          subst ej
          exact Done.ret rfl rfl
theorem strips_Validate_ok {t : TTask} {r : TFault} (h : strips_Validate t = some r) : PureOk Tryd.prog 39 [.agg [int t.facts, row 1 intI t.init, row 1 intI t.goal, row 4 eTOperator t.operators]] (.agg [int r.code, int r.index]) := by
  unfold PureOk
  refine FnOk.enter (rs := [.cell 2 28 2]) Tryd.func39 rfl Tryd.ntmps39 Tryd.results39 rfl ⟨rv _ rfl, trivial⟩ (by kernel_rfl) rfl ?_
  unfold strips_Validate at h
  refine AWP.seq ?_
  refine AWP.region ?_
  refine W.box rfl rfl rfl rfl rfl rfl ?_
  refine W.alloc rfl rfl rfl rfl ?_
  refine AOps.nil ?_
  refine thn_normal ?_
  refine AWP.seq ?_
  refine AWP.block ?_
  refine AWP.seqJ (⟨[(1, .c (.ptr 0 0 0)), (2, .c (.ptr 1 0 0)), (6, .c (bool ((decide (t.facts < 0)) || (decide (24 < t.facts)))))], [.one (.cells 4 [[int t.facts, row 1 intI t.init, row 1 intI t.goal, row 4 eTOperator t.operators]]), .one (.cells 2 [[int 0, int 0]])]⟩) ?_ ?_
  · rcases Bool.eq_false_or_eq_true (decide (t.facts < 0)) with hb1 | hb1
    · refine AWP.region ?_
      refine W.fieldAddr rfl rfl rfl rfl ?_
      refine AOps.load rfl rfl rfl rfl rfl rfl ?_
      refine AOps.lss rfl rfl rfl ?_
      refine AOps.move rfl rfl ?_
      refine AOps.guardF rfl rfl rfl hb1 ?_
      refine AOps.guardF rfl rfl rfl hb1 ?_
      refine AOps.guardF rfl rfl rfl hb1 ?_
      refine AOps.pickT rfl hb1 rfl rfl ?_
      refine AOps.assign rfl rfl ?_
      refine AOps.nil ?_
      refine thn_normal ?_
      simp only [and_t hb1, or_t hb1, Bool.false_or, Bool.true_or, Bool.false_and, Bool.true_and]
      exact Sub.env ⟨rfl, rfl, rfl, trivial⟩
    · refine AWP.region ?_
      refine W.fieldAddr rfl rfl rfl rfl ?_
      refine AOps.load rfl rfl rfl rfl rfl rfl ?_
      refine AOps.lss rfl rfl rfl ?_
      refine AOps.move rfl rfl ?_
      refine AOps.guardT rfl rfl rfl hb1 ?_; refine W.fieldAddr rfl rfl rfl rfl ?_
      refine AOps.guardT rfl rfl rfl hb1 ?_; refine AOps.load rfl rfl rfl rfl rfl rfl ?_
      refine AOps.guardT rfl rfl rfl hb1 ?_; refine AOps.gtr rfl rfl rfl ?_
      refine AOps.pickF rfl hb1 rfl rfl ?_
      refine AOps.assign rfl rfl ?_
      refine AOps.nil ?_
      refine thn_normal ?_
      simp only [and_f hb1, or_f hb1, Bool.false_or, Bool.true_or, Bool.false_and, Bool.true_and]
      exact Sub.env ⟨rfl, rfl, rfl, trivial⟩
  · refine AWP.iteB rfl h (fun hc2 h => ?_) (fun hc2 h => ?_)
    · refine AWP.seq ?_
      refine AWP.region ?_
      refine W.build rfl rfl rfl rfl ?_
      refine W.storeAgg rfl rfl rfl rfl rfl rfl rfl ?_
      refine AOps.nil ?_
      refine thn_normal ?_
      refine AWP.ret ?_
      refine inB_ret ?_
      refine thn_ret ?_
      have ej := Option.some.inj h
      subst ej
      exact Done.ret rfl rfl
    · refine AWP.seq ?_
      obtain ⟨a21, ha21, h⟩ := bind_some h
      refine AWP.region ?_
      refine W.fieldAddr rfl rfl rfl rfl ?_
      refine AOps.load rfl rfl rfl rfl rfl rfl ?_
      refine W.fieldAddr rfl rfl rfl rfl ?_
      refine AOps.load rfl rfl rfl rfl rfl rfl ?_
      refine AOps.callR rfl rfl rfl rfl (strips_IsSet_ok ha21) rfl ?_
      refine AOps.not rfl rfl ?_
      refine AOps.assign rfl rfl ?_
      refine AOps.nil ?_
      refine thn_normal ?_
      refine AWP.iteB rfl h (fun hc3 h => ?_) (fun hc3 h => ?_)
      · refine AWP.seq ?_
        refine AWP.region ?_
        refine W.build rfl rfl rfl rfl ?_
        refine W.storeAgg rfl rfl rfl rfl rfl rfl rfl ?_
        refine AOps.nil ?_
        refine thn_normal ?_
        refine AWP.ret ?_
        refine inB_ret ?_
        refine thn_ret ?_
        have ej := Option.some.inj h
        subst ej
        exact Done.ret rfl rfl
      · refine AWP.seq ?_
        obtain ⟨a29, ha29, h⟩ := bind_some h
        refine AWP.region ?_
        refine W.fieldAddr rfl rfl rfl rfl ?_
        refine AOps.load rfl rfl rfl rfl rfl rfl ?_
        refine W.fieldAddr rfl rfl rfl rfl ?_
        refine AOps.load rfl rfl rfl rfl rfl rfl ?_
        refine AOps.callR rfl rfl rfl rfl (strips_IsSet_ok ha29) rfl ?_
        refine AOps.not rfl rfl ?_
        refine AOps.assign rfl rfl ?_
        refine AOps.nil ?_
        refine thn_normal ?_
        refine AWP.iteB rfl h (fun hc4 h => ?_) (fun hc4 h => ?_)
        · refine AWP.seq ?_
          refine AWP.region ?_
          refine W.build rfl rfl rfl rfl ?_
          refine W.storeAgg rfl rfl rfl rfl rfl rfl rfl ?_
          refine AOps.nil ?_
          refine thn_normal ?_
          refine AWP.ret ?_
          refine inB_ret ?_
          refine thn_ret ?_
          have ej := Option.some.inj h
          subst ej
          exact Done.ret rfl rfl
        · refine AWP.seq ?_
          refine AWP.region ?_
          refine W.fieldAddr rfl rfl rfl rfl ?_
          refine AOps.load rfl rfl rfl rfl rfl rfl ?_
          refine S.len rfl rfl (fun hl35 => ?_)
          refine AOps.gtr rfl rfl rfl ?_
          refine AOps.assign rfl rfl ?_
          refine AOps.nil ?_
          refine thn_normal ?_
          refine AWP.ite rfl h (fun hc5 h => ?_) (fun hc5 h => ?_)
          · refine AWP.seq ?_
            refine AWP.region ?_
            refine W.build rfl rfl rfl rfl ?_
            refine W.storeAgg rfl rfl rfl rfl rfl rfl rfl ?_
            refine AOps.nil ?_
            refine thn_normal ?_
            refine AWP.ret ?_
            refine inB_ret ?_
            refine thn_ret ?_
            have ej := Option.some.inj h
            subst ej
            exact Done.ret rfl rfl
          · refine AWP.skip ?_
            refine inB_normal ?_
            refine thn_normal ?_
            refine AWP.seq ?_
            refine AWP.seq ?_
            refine AWP.region ?_
            refine W.fieldAddr rfl rfl rfl rfl ?_
            refine AOps.load rfl rfl rfl rfl rfl rfl ?_
            refine S.len rfl rfl (fun hl40 => ?_)
            refine AOps.move rfl rfl ?_
            refine AOps.nil ?_
            refine thn_normal ?_
            refine AWP.block ?_
            obtain ⟨oo, ho1, h⟩ := bind_some h
            refine AWP.rngS ho1 (fun t6 _ => ⟨[(1, .c (.ptr 0 0 0)), (2, .c (.ptr 1 0 0)), (39, .c (row 4 eTOperator t.operators)), (40, .c (int (t.operators.length : Int))), (41, .c (int t6))], [.one (.cells 4 [[int t.facts, row 1 intI t.init, row 1 intI t.goal, row 4 eTOperator t.operators]]), .one (.cells 2 [[int 0, int 0]])]⟩) (fun o e st => match o with | .inl _ => e = .exit 1 ∧ Sub [] st ⟨[(2, .c (.ptr 1 0 0))], [.one (.cells 4 [[int t.facts, row 1 intI t.init, row 1 intI t.goal, row 4 eTOperator t.operators]]), .one (.cells 2 [[int 0, int 0]])]⟩ | .inr x => e = .ret ∧ Done [.cell 2 28 2] (fun t _ => t = .agg [int x.code, int x.index]) .ret st) ?_ ?_ ?_ ?_
            · try dsimp only
              exact Sub.env ⟨rfl, rfl, rfl, rfl, rfl, trivial⟩
            · intro t6 s hlot6 hltt6 _
              try dsimp only
              refine AWP.seq ?_
              refine AWP.region ?_
              refine AOps.lss rfl rfl rfl ?_
              refine AOps.nil ?_
              refine thn_normal ?_
              refine AWP.seq ?_
              refine AWP.condNP rfl hltt6 ?_
              refine AWP.exit ?_
              refine thn_exit ?_
              refine thn_exit ⟨rfl, ?_⟩
              exact Sub.env ⟨rfl, trivial⟩
            · intro t6 s o hlot6 hltt6 h
              unfold strips_Validate_l1 at h
              try dsimp only at h ⊢
              refine AWP.seq ?_
              refine AWP.region ?_
              refine AOps.lss rfl rfl rfl ?_
              refine AOps.nil ?_
              refine thn_normal ?_
              refine AWP.seq ?_
              refine AWP.condP rfl hltt6 ?_
              refine AWP.skip ?_
              refine thn_normal ?_
              refine AWP.seq ?_
              refine AWP.block ?_
              refine AWP.seq ?_
              obtain ⟨a44, ha44, h⟩ := bind_some h
              refine AWP.region ?_
              refine AOps.move rfl rfl ?_
              refine S.idx ha44 rfl rfl rfl rfl ?_
              refine W.loadIAgg rfl rfl rfl rfl rfl ?_
              refine W.alloc rfl rfl rfl rfl ?_
              refine AOps.assign rfl rfl ?_
              refine W.storeAgg rfl rfl rfl rfl rfl rfl rfl ?_
              refine AOps.nil ?_
              refine thn_normal ?_
              refine AWP.seq ?_
              obtain ⟨a49, ha49, h⟩ := bind_some h
              refine AWP.region ?_
              refine W.loadAgg rfl rfl rfl rfl rfl rfl rfl ?_
              refine W.fieldAddr rfl rfl rfl rfl ?_
              refine AOps.load rfl rfl rfl rfl rfl rfl ?_
              refine AOps.callR rfl rfl rfl rfl (strips_operator_ok ha49) rfl ?_
              refine AOps.assign rfl rfl ?_
              refine AOps.nil ?_
              refine thn_normal ?_
              refine AWP.seq ?_
              refine AWP.region ?_
              refine AOps.move rfl rfl ?_
              refine AOps.neq rfl rfl rfl ?_
              refine AOps.nil ?_
              refine thn_normal ?_
              refine AWP.iteN rfl h (fun hc7 h => ?_) (fun hc7 h => ?_)
              · refine AWP.seq ?_
                refine AWP.region ?_
                refine AOps.move rfl rfl ?_
                refine AOps.move rfl rfl ?_
                refine W.build rfl rfl rfl rfl ?_
                refine W.storeAgg rfl rfl rfl rfl rfl rfl rfl ?_
                refine AOps.nil ?_
                refine thn_normal ?_
                refine AWP.ret ?_
                refine inB_ret ?_
                refine thn_ret ?_
                have ej := Option.some.inj h
                subst ej
                refine thn_ret ⟨_, rfl, rfl, ?_⟩
                exact Done.ret rfl rfl
              · refine AWP.skip ?_
                refine inB_normal ?_
                refine thn_normal ?_
                refine AWP.region ?_
                refine AOps.add rfl rfl rfl (by omega) ?_
                refine AOps.move rfl rfl ?_
                refine AOps.nil ?_
                have ej := Option.some.inj h
                subst ej
                refine thn_normal ⟨_, rfl, ?_⟩
                exact Sub.cut ⟨rfl, rfl, rfl, rfl, rfl, trivial⟩ rfl ⟨.one rfl, .one rfl, trivial⟩ rfl
            · intro e s hq
              rcases oo with u | x
              · try dsimp only at h hq
                obtain ⟨rfl, hs⟩ := hq
                refine ⟨_, hs, ?_⟩
                refine inB_exit ?_
                refine thn_normal ?_
                refine AWP.seq ?_
                refine AWP.region ?_
                refine W.build rfl rfl rfl rfl ?_
                refine W.storeAgg rfl rfl rfl rfl rfl rfl rfl ?_
                refine AOps.nil ?_
                refine thn_normal ?_
                refine AWP.ret ?_
                have ej := Option.some.inj h
                subst ej
                exact Done.ret rfl rfl
              · try dsimp only at h hq
                obtain ⟨rfl, hs⟩ := hq
                refine ⟨_, Sub.refl _ _, ?_⟩
                refine inB_ret ?_
                refine thn_ret ?_
                have ej := Option.some.inj h
                subst ej
                exact hs
theorem merging_check_ok {t : TTask} {goals : List (List Int)} {plans : List (List Int)} {r : TFault} (h : merging_check t goals plans = some r) : PureOk Tryd.prog 23 [.agg [int t.facts, row 1 intI t.init, row 1 intI t.goal, row 4 eTOperator t.operators], .c (row 1 eLi64 goals), .c (row 1 eLi64 plans)] (.agg [int r.code, int r.index]) := by
  unfold PureOk
  refine FnOk.enter (rs := [.cell 6 28 2]) Tryd.func23 rfl Tryd.ntmps23 Tryd.results23 rfl ⟨rv _ rfl, trivial⟩ (by kernel_rfl) rfl ?_
  unfold merging_check at h
  refine AWP.seq ?_
  refine AWP.region ?_
  refine W.box rfl rfl rfl rfl rfl rfl ?_
  refine W.alloc rfl rfl rfl rfl ?_
  refine AOps.nil ?_
  refine thn_normal ?_
  refine AWP.seq ?_
  refine AWP.seq ?_
  obtain ⟨a15, ha15, h⟩ := bind_some h
  refine AWP.region ?_
  refine W.loadAgg rfl rfl rfl rfl rfl rfl rfl ?_
  refine AOps.callR rfl rfl rfl rfl (strips_Validate_ok ha15) rfl ?_
  refine W.alloc rfl rfl rfl rfl ?_
  refine W.storeAgg rfl rfl rfl rfl rfl rfl rfl ?_
  refine AOps.nil ?_
  refine thn_normal ?_
  refine AWP.seq ?_
  refine AWP.region ?_
  refine W.loadAgg rfl rfl rfl rfl rfl rfl rfl ?_
  refine W.build rfl rfl rfl rfl ?_
  refine AOps.neqP rfl rfl rfl rfl rfl rfl rfl ?_
  refine AOps.nil ?_
  refine thn_normal ?_
  refine AWP.iteB rfl h (fun hc4 h => ?_) (fun hc4 h => ?_)
  · refine AWP.seq ?_
    refine AWP.region ?_
    refine W.loadAgg rfl rfl rfl rfl rfl rfl rfl ?_
    refine W.storeAgg rfl rfl rfl rfl rfl rfl rfl ?_
    refine AOps.nil ?_
    refine thn_normal ?_
    refine AWP.ret ?_
    refine thn_ret ?_
    have ej := Option.some.inj h
    subst ej
    exact Done.ret rfl rfl
  · refine AWP.skip ?_
    refine thn_normal ?_
    refine AWP.seq ?_
    refine AWP.block ?_
    refine AWP.seqJ (⟨[(1, .c (row 1 eLi64 goals)), (2, .c (row 1 eLi64 plans)), (3, .c (.ptr 0 0 0)), (6, .c (.ptr 1 0 0)), (20, .c (bool ((decide ((plans.length : Int) = 0)) || (decide (4 < (plans.length : Int))))))], [.one (.cells 4 [[int t.facts, row 1 intI t.init, row 1 intI t.goal, row 4 eTOperator t.operators]]), .one (.cells 2 [[int 0, int 0]]), .one (.cells 2 [[int a15.code, int a15.index]])]⟩) ?_ ?_
    · rcases Bool.eq_false_or_eq_true (decide ((plans.length : Int) = 0)) with hb1 | hb1
      · refine AWP.region ?_
        refine AOps.move rfl rfl ?_
        refine S.len rfl rfl (fun hl22 => ?_)
        refine AOps.eql rfl rfl rfl ?_
        refine AOps.move rfl rfl ?_
        refine AOps.guardF rfl rfl rfl hb1 ?_
        refine AOps.guardF rfl rfl rfl hb1 ?_
        refine AOps.guardF rfl rfl rfl hb1 ?_
        refine AOps.pickT rfl hb1 rfl rfl ?_
        refine AOps.assign rfl rfl ?_
        refine AOps.nil ?_
        refine thn_normal ?_
        simp only [and_t hb1, or_t hb1, Bool.false_or, Bool.true_or, Bool.false_and, Bool.true_and]
        exact Sub.env ⟨rfl, rfl, rfl, rfl, rfl, trivial⟩
      · refine AWP.region ?_
        refine AOps.move rfl rfl ?_
        refine S.len rfl rfl (fun hl22 => ?_)
        refine AOps.eql rfl rfl rfl ?_
        refine AOps.move rfl rfl ?_
        refine AOps.guardT rfl rfl rfl hb1 ?_; refine AOps.move rfl rfl ?_
        refine AOps.guardT rfl rfl rfl hb1 ?_; refine S.len rfl rfl (fun hl26 => ?_)
        refine AOps.guardT rfl rfl rfl hb1 ?_; refine AOps.gtr rfl rfl rfl ?_
        refine AOps.pickF rfl hb1 rfl rfl ?_
        refine AOps.assign rfl rfl ?_
        refine AOps.nil ?_
        refine thn_normal ?_
        simp only [and_f hb1, or_f hb1, Bool.false_or, Bool.true_or, Bool.false_and, Bool.true_and]
        exact Sub.env ⟨rfl, rfl, rfl, rfl, rfl, trivial⟩
    · refine AWP.iteB rfl h (fun hc5 h => ?_) (fun hc5 h => ?_)
      · refine AWP.seq ?_
        refine AWP.region ?_
        refine W.build rfl rfl rfl rfl ?_
        refine W.storeAgg rfl rfl rfl rfl rfl rfl rfl ?_
        refine AOps.nil ?_
        refine thn_normal ?_
        refine AWP.ret ?_
        refine inB_ret ?_
        refine thn_ret ?_
        have ej := Option.some.inj h
        subst ej
        exact Done.ret rfl rfl
      · refine AWP.seq ?_
        refine AWP.region ?_
        refine AOps.move rfl rfl ?_
        refine S.len rfl rfl (fun hl32 => ?_)
        refine AOps.move rfl rfl ?_
        refine S.len rfl rfl (fun hl34 => ?_)
        refine AOps.neq rfl rfl rfl ?_
        refine AOps.assign rfl rfl ?_
        refine AOps.nil ?_
        refine thn_normal ?_
        refine AWP.iteN rfl h (fun hc6 h => ?_) (fun hc6 h => ?_)
        · refine AWP.seq ?_
          refine AWP.region ?_
          refine W.build rfl rfl rfl rfl ?_
          refine W.storeAgg rfl rfl rfl rfl rfl rfl rfl ?_
          refine AOps.nil ?_
          refine thn_normal ?_
          refine AWP.ret ?_
          refine inB_ret ?_
          refine thn_ret ?_
          have ej := Option.some.inj h
          subst ej
          exact Done.ret rfl rfl
        · refine AWP.skip ?_
          refine inB_normal ?_
          refine thn_normal ?_
          refine AWP.seq ?_
          refine AWP.seq ?_
          refine AWP.region ?_
          refine AOps.move rfl rfl ?_
          refine S.len rfl rfl (fun hl38 => ?_)
          refine AOps.move rfl rfl ?_
          refine AOps.nil ?_
          refine thn_normal ?_
          refine AWP.block ?_
          obtain ⟨oo, ho1, h⟩ := bind_some h
          refine AWP.rngS ho1 (fun t7 _ => ⟨[(2, .c (row 1 eLi64 plans)), (3, .c (.ptr 0 0 0)), (6, .c (.ptr 1 0 0)), (37, .c (row 1 eLi64 goals)), (38, .c (int (goals.length : Int))), (39, .c (int t7))], [.one (.cells 4 [[int t.facts, row 1 intI t.init, row 1 intI t.goal, row 4 eTOperator t.operators]]), .one (.cells 2 [[int 0, int 0]])]⟩) (fun o e st => match o with | .inl _ => e = .exit 1 ∧ Sub [] st ⟨[(2, .c (row 1 eLi64 plans)), (3, .c (.ptr 0 0 0)), (6, .c (.ptr 1 0 0))], [.one (.cells 4 [[int t.facts, row 1 intI t.init, row 1 intI t.goal, row 4 eTOperator t.operators]]), .one (.cells 2 [[int 0, int 0]])]⟩ | .inr x => e = .ret ∧ Done [.cell 6 28 2] (fun t _ => t = .agg [int x.code, int x.index]) .ret st) ?_ ?_ ?_ ?_
          · try dsimp only
            exact Sub.cut ⟨rfl, rfl, rfl, rfl, rfl, rfl, trivial⟩ rfl ⟨.one rfl, .one rfl, trivial⟩ rfl
          · intro t7 s hlot7 hltt7 _
            try dsimp only
            refine AWP.seq ?_
            refine AWP.region ?_
            refine AOps.lss rfl rfl rfl ?_
            refine AOps.nil ?_
            refine thn_normal ?_
            refine AWP.seq ?_
            refine AWP.condNP rfl hltt7 ?_
            refine AWP.exit ?_
            refine thn_exit ?_
            refine thn_exit ⟨rfl, ?_⟩
            exact Sub.env ⟨rfl, rfl, rfl, trivial⟩
          · intro t7 s o hlot7 hltt7 h
            unfold merging_check_l1 at h
            try dsimp only at h ⊢
            refine AWP.seq ?_
            refine AWP.region ?_
            refine AOps.lss rfl rfl rfl ?_
            refine AOps.nil ?_
            refine thn_normal ?_
            refine AWP.seq ?_
            refine AWP.condP rfl hltt7 ?_
            refine AWP.skip ?_
            refine thn_normal ?_
            refine AWP.seq ?_
            refine AWP.block ?_
            refine AWP.seq ?_
            obtain ⟨a42, ha42, h⟩ := bind_some h
            refine AWP.region ?_
            refine AOps.move rfl rfl ?_
            refine S.idx ha42 rfl rfl rfl rfl ?_
            refine AOps.loadI rfl rfl rfl rfl ?_
            refine AOps.assign rfl rfl ?_
            refine AOps.assign rfl rfl ?_
            refine AOps.nil ?_
            refine thn_normal ?_
            refine AWP.seq ?_
            obtain ⟨a47, ha47, h⟩ := bind_some h
            refine AWP.region ?_
            refine AOps.move rfl rfl ?_
            refine W.fieldAddr rfl rfl rfl rfl ?_
            refine AOps.load rfl rfl rfl rfl rfl rfl ?_
            refine AOps.callR rfl rfl rfl rfl (strips_IsSet_ok ha47) rfl ?_
            refine AOps.not rfl rfl ?_
            refine AOps.nil ?_
            refine thn_normal ?_
            refine AWP.iteB rfl h (fun hc8 h => ?_) (fun hc8 h => ?_)
            · refine AWP.seq ?_
              refine AWP.region ?_
              refine AOps.move rfl rfl ?_
              refine S.sub rfl rfl rfl ?_
              refine W.build rfl rfl rfl rfl ?_
              refine W.storeAgg rfl rfl rfl rfl rfl rfl rfl ?_
              refine AOps.nil ?_
              refine thn_normal ?_
              refine AWP.ret ?_
              refine inB_ret ?_
              refine thn_ret ?_
              have ej := Option.some.inj h
              subst ej
              refine thn_ret ⟨_, rfl, rfl, ?_⟩
              exact Done.ret rfl rfl
            · refine AWP.skip ?_
              refine inB_normal ?_
              refine thn_normal ?_
              refine AWP.region ?_
              refine AOps.add rfl rfl rfl (by omega) ?_
              refine AOps.move rfl rfl ?_
              refine AOps.nil ?_
              have ej := Option.some.inj h
              subst ej
              refine thn_normal ⟨_, rfl, ?_⟩
              exact Sub.env ⟨rfl, rfl, rfl, rfl, rfl, rfl, trivial⟩
          · intro e s hq
            rcases oo with u | x
            · try dsimp only at h hq
              obtain ⟨rfl, hs⟩ := hq
              refine ⟨_, hs, ?_⟩
              refine inB_exit ?_
              refine thn_normal ?_
              refine AWP.seq ?_
              refine AWP.seq ?_
              refine AWP.region ?_
              refine AOps.move rfl rfl ?_
              refine S.len rfl rfl (fun hl54 => ?_)
              refine AOps.move rfl rfl ?_
              refine AOps.nil ?_
              refine thn_normal ?_
              refine AWP.block ?_
              obtain ⟨oo, ho2, h⟩ := bind_some h
              refine AWP.rngS ho2 (fun t9 _ => ⟨[(3, .c (.ptr 0 0 0)), (6, .c (.ptr 1 0 0)), (53, .c (row 1 eLi64 plans)), (54, .c (int (plans.length : Int))), (55, .c (int t9))], [.one (.cells 4 [[int t.facts, row 1 intI t.init, row 1 intI t.goal, row 4 eTOperator t.operators]]), .one (.cells 2 [[int 0, int 0]])]⟩) (fun o e st => match o with | .inl _ => e = .exit 3 ∧ Sub [] st ⟨[(6, .c (.ptr 1 0 0))], [.one (.cells 4 [[int t.facts, row 1 intI t.init, row 1 intI t.goal, row 4 eTOperator t.operators]]), .one (.cells 2 [[int 0, int 0]])]⟩ | .inr x => e = .ret ∧ Done [.cell 6 28 2] (fun t _ => t = .agg [int x.code, int x.index]) .ret st) ?_ ?_ ?_ ?_
              · try dsimp only
                exact Sub.env ⟨rfl, rfl, rfl, rfl, rfl, trivial⟩
              · intro t9 s hlot9 hltt9 _
                try dsimp only
                refine AWP.seq ?_
                refine AWP.region ?_
                refine AOps.lss rfl rfl rfl ?_
                refine AOps.nil ?_
                refine thn_normal ?_
                refine AWP.seq ?_
                refine AWP.condNP rfl hltt9 ?_
                refine AWP.exit ?_
                refine thn_exit ?_
                refine thn_exit ⟨rfl, ?_⟩
                exact Sub.env ⟨rfl, trivial⟩
              · intro t9 s o hlot9 hltt9 h
                unfold merging_check_l2 at h
                try dsimp only at h ⊢
                refine AWP.seq ?_
                refine AWP.region ?_
                refine AOps.lss rfl rfl rfl ?_
                refine AOps.nil ?_
                refine thn_normal ?_
                refine AWP.seq ?_
                refine AWP.condP rfl hltt9 ?_
                refine AWP.skip ?_
                refine thn_normal ?_
                refine AWP.seq ?_
                refine AWP.block ?_
                refine AWP.seq ?_
                obtain ⟨a58, ha58, h⟩ := bind_some h
                refine AWP.region ?_
                refine AOps.move rfl rfl ?_
                refine S.idx ha58 rfl rfl rfl rfl ?_
                refine AOps.loadI rfl rfl rfl rfl ?_
                refine AOps.assign rfl rfl ?_
                refine AOps.assign rfl rfl ?_
                refine AOps.nil ?_
                refine thn_normal ?_
                refine AWP.seq ?_
                refine AWP.seq ?_
                refine AWP.region ?_
                refine AOps.move rfl rfl ?_
                refine S.len rfl rfl (fun hl61 => ?_)
                refine AOps.gtr rfl rfl rfl ?_
                refine AOps.nil ?_
                refine thn_normal ?_
                refine AWP.ite rfl h (fun hc10 h => ?_) (fun hc10 h => ?_)
                · refine AWP.seq ?_
                  refine AWP.region ?_
                  refine AOps.move rfl rfl ?_
                  refine S.sub rfl rfl rfl ?_
                  refine W.build rfl rfl rfl rfl ?_
                  refine W.storeAgg rfl rfl rfl rfl rfl rfl rfl ?_
                  refine AOps.nil ?_
                  refine thn_normal ?_
                  refine AWP.ret ?_
                  refine thn_ret ?_
                  refine inB_ret ?_
                  refine thn_ret ?_
                  have ej := Option.some.inj h
                  subst ej
                  refine thn_ret ⟨_, rfl, rfl, ?_⟩
                  exact Done.ret rfl rfl
                · refine AWP.skip ?_
                  refine thn_normal ?_
                  refine AWP.seq ?_
                  refine AWP.region ?_
                  refine AOps.move rfl rfl ?_
                  refine S.len rfl rfl (fun hl67 => ?_)
                  refine AOps.move rfl rfl ?_
                  refine AOps.nil ?_
                  refine thn_normal ?_
                  refine AWP.block ?_
                  obtain ⟨oo, ho3, h⟩ := bind_some h
                  refine AWP.rngS ho3 (fun t11 _ => ⟨[(3, .c (.ptr 0 0 0)), (6, .c (.ptr 1 0 0)), (10, .c (int t9)), (53, .c (row 1 eLi64 plans)), (54, .c (int (plans.length : Int))), (55, .c (int t9)), (66, .c (row 1 intI a58)), (67, .c (int (a58.length : Int))), (68, .c (int t11))], [.one (.cells 4 [[int t.facts, row 1 intI t.init, row 1 intI t.goal, row 4 eTOperator t.operators]]), .one (.cells 2 [[int 0, int 0]])]⟩) (fun o e st => match o with | .inl _ => e = .exit 5 ∧ Sub [] st ⟨[(3, .c (.ptr 0 0 0)), (6, .c (.ptr 1 0 0)), (53, .c (row 1 eLi64 plans)), (54, .c (int (plans.length : Int))), (55, .c (int t9))], [.one (.cells 4 [[int t.facts, row 1 intI t.init, row 1 intI t.goal, row 4 eTOperator t.operators]]), .one (.cells 2 [[int 0, int 0]])]⟩ | .inr x => e = .ret ∧ Done [.cell 6 28 2] (fun t _ => t = .agg [int x.code, int x.index]) .ret st) ?_ ?_ ?_ ?_
                  · try dsimp only
                    exact Sub.env ⟨rfl, rfl, rfl, rfl, rfl, rfl, rfl, rfl, rfl, trivial⟩
                  · intro t11 s hlot11 hltt11 _
                    try dsimp only
                    refine AWP.seq ?_
                    refine AWP.region ?_
                    refine AOps.lss rfl rfl rfl ?_
                    refine AOps.nil ?_
                    refine thn_normal ?_
                    refine AWP.seq ?_
                    refine AWP.condNP rfl hltt11 ?_
                    refine AWP.exit ?_
                    refine thn_exit ?_
                    refine thn_exit ⟨rfl, ?_⟩
                    exact Sub.env ⟨rfl, rfl, rfl, rfl, rfl, trivial⟩
                  · intro t11 s o hlot11 hltt11 h
                    unfold merging_check_l3 at h
                    try dsimp only at h ⊢
                    refine AWP.seq ?_
                    refine AWP.region ?_
                    refine AOps.lss rfl rfl rfl ?_
                    refine AOps.nil ?_
                    refine thn_normal ?_
                    refine AWP.seq ?_
                    refine AWP.condP rfl hltt11 ?_
                    refine AWP.skip ?_
                    refine thn_normal ?_
                    refine AWP.seq ?_
                    refine AWP.block ?_
                    refine AWP.seq ?_
                    obtain ⟨a70, ha70, h⟩ := bind_some h
                    refine AWP.region ?_
                    refine S.idx ha70 rfl rfl rfl rfl ?_
                    refine AOps.loadI rfl rfl rfl rfl ?_
                    refine AOps.assign rfl rfl ?_
                    refine AOps.nil ?_
                    refine thn_normal ?_
                    refine AWP.seqJ (⟨[(3, .c (.ptr 0 0 0)), (6, .c (.ptr 1 0 0)), (10, .c (int t9)), (53, .c (row 1 eLi64 plans)), (54, .c (int (plans.length : Int))), (55, .c (int t9)), (66, .c (row 1 intI a58)), (67, .c (int (a58.length : Int))), (68, .c (int t11)), (80, .c (bool ((decide (a70 < 0)) || (decide ((t.operators.length : Int) ≤ a70)))))], [.one (.cells 4 [[int t.facts, row 1 intI t.init, row 1 intI t.goal, row 4 eTOperator t.operators]]), .one (.cells 2 [[int 0, int 0]])]⟩) ?_ ?_
                    · rcases Bool.eq_false_or_eq_true (decide (a70 < 0)) with hb1 | hb1
                      · refine AWP.region ?_
                        refine AOps.move rfl rfl ?_
                        refine AOps.lss rfl rfl rfl ?_
                        refine AOps.move rfl rfl ?_
                        refine AOps.guardF rfl rfl rfl hb1 ?_
                        refine AOps.guardF rfl rfl rfl hb1 ?_
                        refine AOps.guardF rfl rfl rfl hb1 ?_
                        refine AOps.guardF rfl rfl rfl hb1 ?_
                        refine AOps.guardF rfl rfl rfl hb1 ?_
                        refine AOps.pickT rfl hb1 rfl rfl ?_
                        refine AOps.nil ?_
                        refine thn_normal ?_
                        simp only [and_t hb1, or_t hb1, Bool.false_or, Bool.true_or, Bool.false_and, Bool.true_and]
                        exact Sub.env ⟨rfl, rfl, rfl, rfl, rfl, rfl, rfl, rfl, rfl, rfl, trivial⟩
                      · refine AWP.region ?_
                        refine AOps.move rfl rfl ?_
                        refine AOps.lss rfl rfl rfl ?_
                        refine AOps.move rfl rfl ?_
                        refine AOps.guardT rfl rfl rfl hb1 ?_; refine AOps.move rfl rfl ?_
                        refine AOps.guardT rfl rfl rfl hb1 ?_; refine W.fieldAddr rfl rfl rfl rfl ?_
                        refine AOps.guardT rfl rfl rfl hb1 ?_; refine AOps.load rfl rfl rfl rfl rfl rfl ?_
                        refine AOps.guardT rfl rfl rfl hb1 ?_; refine S.len rfl rfl (fun hl78 => ?_)
                        refine AOps.guardT rfl rfl rfl hb1 ?_; refine AOps.geq rfl rfl rfl ?_
                        refine AOps.pickF rfl hb1 rfl rfl ?_
                        refine AOps.nil ?_
                        refine thn_normal ?_
                        simp only [and_f hb1, or_f hb1, Bool.false_or, Bool.true_or, Bool.false_and, Bool.true_and]
                        exact Sub.env ⟨rfl, rfl, rfl, rfl, rfl, rfl, rfl, rfl, rfl, rfl, trivial⟩
                    · refine AWP.iteB rfl h (fun hc12 h => ?_) (fun hc12 h => ?_)
                      · refine AWP.seq ?_
                        refine AWP.region ?_
                        refine AOps.move rfl rfl ?_
                        refine S.sub rfl rfl rfl ?_
                        refine W.build rfl rfl rfl rfl ?_
                        refine W.storeAgg rfl rfl rfl rfl rfl rfl rfl ?_
                        refine AOps.nil ?_
                        refine thn_normal ?_
                        refine AWP.ret ?_
                        refine inB_ret ?_
                        refine thn_ret ?_
                        have ej := Option.some.inj h
                        subst ej
                        refine thn_ret ⟨_, rfl, rfl, ?_⟩
                        exact Done.ret rfl rfl
                      · refine AWP.skip ?_
                        refine inB_normal ?_
                        refine thn_normal ?_
                        refine AWP.region ?_
                        refine AOps.add rfl rfl rfl (by omega) ?_
                        refine AOps.move rfl rfl ?_
                        refine AOps.nil ?_
                        have ej := Option.some.inj h
                        subst ej
                        refine thn_normal ⟨_, rfl, ?_⟩
                        exact Sub.env ⟨rfl, rfl, rfl, rfl, rfl, rfl, rfl, rfl, rfl, trivial⟩
                  · intro e s hq
                    rcases oo with u | x
                    · try dsimp only at h hq
                      obtain ⟨rfl, hs⟩ := hq
                      refine ⟨_, hs, ?_⟩
                      refine inB_exit ?_
                      refine inB_normal ?_
                      refine thn_normal ?_
                      refine AWP.region ?_
                      refine AOps.add rfl rfl rfl (by omega) ?_
                      refine AOps.move rfl rfl ?_
                      refine AOps.nil ?_
                      have ej := Option.some.inj h
                      subst ej
                      refine thn_normal ⟨_, rfl, ?_⟩
                      exact Sub.env ⟨rfl, rfl, rfl, rfl, rfl, trivial⟩
                    · try dsimp only at h hq
                      obtain ⟨rfl, hs⟩ := hq
                      refine ⟨_, Sub.refl _ _, ?_⟩
                      refine inB_ret ?_
                      refine inB_ret ?_
                      refine thn_ret ?_
                      have ej := Option.some.inj h
                      subst ej
                      refine thn_ret ⟨_, rfl, rfl, ?_⟩
                      exact hs
              · intro e s hq
                rcases oo with u | x
                · try dsimp only at h hq
                  obtain ⟨rfl, hs⟩ := hq
                  refine ⟨_, hs, ?_⟩
                  refine inB_exit ?_
                  refine thn_normal ?_
                  refine AWP.seq ?_
                  refine AWP.region ?_
                  refine W.build rfl rfl rfl rfl ?_
                  refine W.storeAgg rfl rfl rfl rfl rfl rfl rfl ?_
                  refine AOps.nil ?_
                  refine thn_normal ?_
                  refine AWP.ret ?_
                  have ej := Option.some.inj h
                  subst ej
                  exact Done.ret rfl rfl
                · try dsimp only at h hq
                  obtain ⟨rfl, hs⟩ := hq
                  refine ⟨_, Sub.refl _ _, ?_⟩
                  refine inB_ret ?_
                  refine thn_ret ?_
                  have ej := Option.some.inj h
                  subst ej
                  exact hs
            · try dsimp only at h hq
              obtain ⟨rfl, hs⟩ := hq
              refine ⟨_, Sub.refl _ _, ?_⟩
              refine inB_ret ?_
              refine thn_ret ?_
              have ej := Option.some.inj h
              subst ej
              exact hs
theorem strips_Update_ok {sv : List Int} {add : List Int} {del : List Int} {r : (List Int)} (h : strips_Update sv add del = some r) : FreshOk Tryd.prog 44 [.c (row 1 intI sv), .c (row 1 intI add), .c (row 1 intI del)] 1 (List.map intI r) := by
  unfold FreshOk
  refine FnOk.enter (rs := [.t 6]) Tryd.func44 rfl Tryd.ntmps44 Tryd.results44 rfl ⟨trivial, trivial⟩ (by kernel_rfl) rfl ?_
  unfold strips_Update at h
  refine AWP.seq ?_
  refine AWP.region ?_
  refine AOps.assign rfl rfl ?_
  refine AOps.nil ?_
  refine thn_normal ?_
  refine AWP.seq ?_
  refine AWP.region ?_
  refine AOps.assign rfl rfl ?_
  refine AOps.nil ?_
  refine thn_normal ?_
  refine AWP.seq ?_
  refine AWP.seq ?_
  refine AWP.region ?_
  refine AOps.move rfl rfl ?_
  refine S.len rfl rfl (fun hl13 => ?_)
  refine AOps.move rfl rfl ?_
  refine AOps.nil ?_
  refine thn_normal ?_
  refine AWP.block ?_
  refine AWP.virtV 1 intI 7 rfl rfl rfl ?_
  obtain ⟨c4, ho1, h⟩ := bind_some h
  refine AWP.forS ho1 (fun t5 c4 => ⟨[(1, .c (row 1 intI add)), (2, .c (row 1 intI del)), (7, .c (.own 0 0 c4.length)), (12, .c (row 1 intI sv)), (13, .c (int (sv.length : Int))), (14, .c (int t5))], [.one (vec 1 intI c4)]⟩) (fun c4 e st => e = .exit 0 ∧ Sub [] st ⟨[(1, .c (row 1 intI add)), (7, .c (.own 0 0 c4.length))], [.one (vec 1 intI c4)]⟩) ?_ ?_ ?_ ?_
  · try dsimp only
    exact Sub.env ⟨rfl, rfl, (own_len (by first | rfl | simp only [List.length_set])), rfl, rfl, rfl, trivial⟩
  · intro t5 c4 hlot5 hltt5 _
    try dsimp only
    refine AWP.seq ?_
    refine AWP.region ?_
    refine AOps.lss rfl rfl rfl ?_
    refine AOps.nil ?_
    refine thn_normal ?_
    refine AWP.seq ?_
    refine AWP.condNP rfl hltt5 ?_
    refine AWP.exit ?_
    refine thn_exit ?_
    refine thn_exit ⟨rfl, ?_⟩
    exact Sub.env ⟨rfl, rfl, trivial⟩
  · intro t5 c4 o hlot5 hltt5 h
    unfold strips_Update_l1 at h
    try dsimp only at h ⊢
    refine AWP.seq ?_
    refine AWP.region ?_
    refine AOps.lss rfl rfl rfl ?_
    refine AOps.nil ?_
    refine thn_normal ?_
    refine AWP.seq ?_
    refine AWP.condP rfl hltt5 ?_
    refine AWP.skip ?_
    refine thn_normal ?_
    obtain ⟨c6, hx7, h⟩ := bind_some h
    refine AWP.seqJ (⟨[(1, .c (row 1 intI add)), (2, .c (row 1 intI del)), (7, .c (.own 2 0 c6.length)), (12, .c (row 1 intI sv)), (13, .c (int (sv.length : Int))), (14, .c (int t5))], [.dead, .dead, .one (vec 1 intI c6)]⟩) ?_ ?_
    · refine AWP.block ?_
      refine AWP.seq ?_
      obtain ⟨a16, ha16, hx7⟩ := bind_some hx7
      refine AWP.region ?_
      refine S.idx ha16 rfl rfl rfl rfl ?_
      refine AOps.loadI rfl rfl rfl rfl ?_
      refine AOps.assign rfl rfl ?_
      refine AOps.nil ?_
      refine thn_normal ?_
      refine AWP.seq ?_
      obtain ⟨a21, ha21, hx7⟩ := bind_some hx7
      refine AWP.region ?_
      refine AOps.move rfl rfl ?_
      refine AOps.move rfl rfl ?_
      refine AOps.callR rfl rfl rfl rfl (slices_BinarySearch_int_int_ok ha21) rfl ?_
      refine AOps.move rfl rfl ?_
      refine AOps.extract rfl rfl rfl ?_
      refine AOps.extract rfl rfl rfl ?_
      refine AOps.assign rfl rfl ?_
      refine AOps.assign rfl rfl ?_
      refine AOps.nil ?_
      refine thn_normal ?_
      refine AWP.seq ?_
      refine AWP.region ?_
      refine AOps.move rfl rfl ?_
      refine AOps.not rfl rfl ?_
      refine AOps.nil ?_
      refine thn_normal ?_
      refine AWP.iteB rfl hx7 (fun hc8 hx7 => ?_) (fun hc8 hx7 => ?_)
      · obtain ⟨a29, ha29, hx7⟩ := bind_some hx7
        refine AWP.region ?_
        refine AOps.move rfl rfl ?_
        refine AOps.move rfl rfl ?_
        refine S.lit (f := intI) (l := [a16]) (ess := [[int a16]]) rfl rfl rfl rfl rfl rfl rfl ⟨⟨.inl rfl, trivial⟩, trivial⟩ rfl rfl rfl ?_
        refine S.append (f := intI) ha29 rfl rfl rfl rfl rfl rfl (.own rfl rfl) rfl rfl rfl rfl ?_
        refine AOps.assign rfl rfl ?_
        refine AOps.nil ?_
        refine inB_normal ?_
        have ej := Option.some.inj hx7
        subst ej
        refine thn_normal ?_
        exact Sub.cut ⟨rfl, rfl, rfl, rfl, rfl, rfl, trivial⟩ rfl ⟨.dead, .dead, .vec, trivial⟩ rfl
      · refine AWP.skip ?_
        refine inB_normal ?_
        have ej := Option.some.inj hx7
        subst ej
        refine thn_normal ?_
        exact (Sub.move (env' := [(1, .c (row 1 intI add)), (2, .c (row 1 intI del)), (7, .c (.own 2 0 c4.length)), (12, .c (row 1 intI sv)), (13, .c (int (sv.length : Int))), (14, .c (int t5))]) (σ' := [.dead, .dead, .one (vec 1 intI c4)]) 2 0 rfl rfl rfl ⟨rfl, rfl, rfl, rfl, rfl, rfl, trivial⟩ rfl ⟨trivial, trivial, ⟨Blk.im_ok _ _ _, vec_mv rfl⟩, trivial⟩).trans (Sub.env ⟨rfl, rfl, rfl, rfl, rfl, rfl, trivial⟩)
    · refine AWP.region ?_
      refine AOps.add rfl rfl rfl (by omega) ?_
      refine AOps.move rfl rfl ?_
      refine AOps.nil ?_
      have ej := Option.some.inj h
      subst ej
      refine thn_normal ?_
      exact (Sub.move (env' := [(1, .c (row 1 intI add)), (2, .c (row 1 intI del)), (7, .c (.own 0 0 c6.length)), (12, .c (row 1 intI sv)), (13, .c (int (sv.length : Int))), (14, .c (int (t5 + 1)))]) (σ' := [.one (vec 1 intI c6), .dead]) 0 2 rfl rfl rfl ⟨rfl, rfl, rfl, rfl, rfl, rfl, trivial⟩ rfl ⟨⟨Blk.im_ok _ _ _, vec_mv rfl⟩, trivial, trivial⟩).trans (Sub.cut ⟨rfl, rfl, rfl, rfl, rfl, rfl, trivial⟩ rfl ⟨.vec, trivial⟩ rfl)
  · intro e s hq
    obtain ⟨rfl, hs⟩ := hq
    refine ⟨_, hs, ?_⟩
    refine inB_exit ?_
    refine thn_normal ?_
    refine AWP.seq ?_
    obtain ⟨a33, ha33, h⟩ := bind_some h
    refine AWP.region ?_
    refine AOps.move rfl rfl ?_
    refine AOps.move rfl rfl ?_
    refine S.append (f := intI) ha33 rfl rfl rfl rfl rfl rfl .row rfl rfl rfl rfl ?_
    refine AOps.assign rfl rfl ?_
    refine AOps.nil ?_
    refine thn_normal ?_
    refine AWP.seq ?_
    refine AWP.move (env' := [(7, .c (.own 0 0 a33.length))]) (σ' := [.one (vec 1 intI a33)]) 0 1 rfl rfl rfl ⟨rfl, trivial⟩ rfl ⟨⟨Blk.im_ok _ _ _, vec_mv rfl⟩, trivial⟩ ?_
    obtain ⟨a35, ha35, h⟩ := bind_some h
    refine AWP.region ?_
    refine AOps.move rfl rfl ?_
    refine S.sort ha35 sortL_ok rfl rfl rfl rfl rfl rfl ?_
    refine AOps.nil ?_
    refine thn_normal ?_
    refine AWP.seq ?_
    refine AWP.region ?_
    refine AOps.move rfl rfl ?_
    refine S.compact compactL_ok rfl rfl (sortL_len ha35) rfl rfl rfl rfl rfl ?_
    refine AOps.assign rfl rfl ?_
    refine AOps.nil ?_
    refine thn_normal ?_
    refine AWP.ret ?_
    have ej := Option.some.inj h
    subst ej
    exact Done.ret rfl (Fresh.mk rfl rfl)
theorem strips_Union_ok {av : List Int} {bv : List Int} {r : (List Int)} (h : strips_Union av bv = some r) : FreshOk Tryd.prog 41 [.c (row 1 intI av), .c (row 1 intI bv)] 1 (List.map intI r) := by
  unfold FreshOk
  refine FnOk.enter (rs := [.t 4]) Tryd.func41 rfl Tryd.ntmps41 Tryd.results41 rfl ⟨trivial, trivial⟩ (by kernel_rfl) rfl ?_
  unfold strips_Union at h
  refine AWP.seq ?_
  refine AWP.region ?_
  refine AOps.assign rfl rfl ?_
  refine AOps.nil ?_
  refine thn_normal ?_
  refine AWP.seq ?_
  obtain ⟨a7, ha7, h⟩ := bind_some h
  refine AWP.region ?_
  refine AOps.move rfl rfl ?_
  refine AOps.move rfl rfl ?_
  refine S.fresh rfl rfl rfl rfl (FreshOk.nil (by exact ⟨(.inl rfl), (.inl rfl), (.inr ⟨rfl, _, rfl⟩), trivial⟩) (strips_Update_ok ha7)) rfl rfl ?_
  refine AOps.assign rfl rfl ?_
  refine AOps.nil ?_
  refine thn_normal ?_
  refine AWP.ret ?_
  have ej := Option.some.inj h
  subst ej
  exact Done.ret rfl (Fresh.mk rfl rfl)
theorem merging_union_ok {l : List (List Int)} {r : (List Int)} (h : merging_union l = some r) : FreshOk Tryd.prog 24 [.c (row 1 eLi64 l)] 1 (List.map intI r) := by
  unfold FreshOk
  refine FnOk.enter (rs := [.t 2]) Tryd.func24 rfl Tryd.ntmps24 Tryd.results24 rfl ⟨trivial, trivial⟩ (by kernel_rfl) rfl ?_
  unfold merging_union at h
  refine AWP.seq ?_
  refine AWP.region ?_
  refine AOps.assign rfl rfl ?_
  refine AOps.nil ?_
  refine thn_normal ?_
  refine AWP.seq ?_
  refine AWP.region ?_
  refine AOps.assign rfl rfl ?_
  refine AOps.nil ?_
  refine thn_normal ?_
  refine AWP.seq ?_
  refine AWP.seq ?_
  refine AWP.region ?_
  refine AOps.move rfl rfl ?_
  refine S.len rfl rfl (fun hl7 => ?_)
  refine AOps.move rfl rfl ?_
  refine AOps.nil ?_
  refine thn_normal ?_
  refine AWP.block ?_
  refine AWP.virtV 1 intI 3 rfl rfl rfl ?_
  obtain ⟨c2, ho1, h⟩ := bind_some h
  refine AWP.forS ho1 (fun t3 c2 => ⟨[(3, .c (.own 0 0 c2.length)), (6, .c (row 1 eLi64 l)), (7, .c (int (l.length : Int))), (8, .c (int t3))], [.one (vec 1 intI c2)]⟩) (fun c2 e st => e = .exit 0 ∧ Sub [] st ⟨[(3, .c (.own 0 0 c2.length))], [.one (vec 1 intI c2)]⟩) ?_ ?_ ?_ ?_
  · try dsimp only
    exact Sub.env ⟨(own_len (by first | rfl | simp only [List.length_set])), rfl, rfl, rfl, trivial⟩
  · intro t3 c2 hlot3 hltt3 _
    try dsimp only
    refine AWP.seq ?_
    refine AWP.region ?_
    refine AOps.lss rfl rfl rfl ?_
    refine AOps.nil ?_
    refine thn_normal ?_
    refine AWP.seq ?_
    refine AWP.condNP rfl hltt3 ?_
    refine AWP.exit ?_
    refine thn_exit ?_
    refine thn_exit ⟨rfl, ?_⟩
    exact Sub.env ⟨rfl, trivial⟩
  · intro t3 c2 o hlot3 hltt3 h
    unfold merging_union_l1 at h
    try dsimp only at h ⊢
    refine AWP.seq ?_
    refine AWP.region ?_
    refine AOps.lss rfl rfl rfl ?_
    refine AOps.nil ?_
    refine thn_normal ?_
    refine AWP.seq ?_
    refine AWP.condP rfl hltt3 ?_
    refine AWP.skip ?_
    refine thn_normal ?_
    refine AWP.seq ?_
    refine AWP.block ?_
    refine AWP.seq ?_
    obtain ⟨a10, ha10, h⟩ := bind_some h
    refine AWP.region ?_
    refine S.idx ha10 rfl rfl rfl rfl ?_
    refine AOps.loadI rfl rfl rfl rfl ?_
    refine AOps.assign rfl rfl ?_
    refine AOps.nil ?_
    refine thn_normal ?_
    obtain ⟨a14, ha14, h⟩ := bind_some h
    refine AWP.region ?_
    refine AOps.move rfl rfl ?_
    refine AOps.move rfl rfl ?_
    refine AOps.frzV (id := 0) (l := c2) (env2 := [(6, .c (row 1 eLi64 l)), (7, .c (int (l.length : Int))), (8, .c (int t3)), (12, .c (row 1 intI c2)), (13, .c (row 1 intI a10))]) (σ2 := [.dead]) rfl rfl (by exact ⟨⟨_, rfl, .inl ⟨rfl, rfl⟩⟩, ⟨_, rfl, .inl ⟨rfl, rfl⟩⟩, ⟨_, rfl, .inl ⟨rfl, rfl⟩⟩, ⟨_, rfl, .inr ⟨_, rfl, rfl, rfl⟩⟩, ⟨_, rfl, .inl ⟨rfl, rfl⟩⟩, trivial⟩) rfl (by exact ⟨trivial, trivial⟩) ?_; refine S.fresh rfl rfl rfl rfl (strips_Union_ok ha14) rfl rfl ?_
    refine AOps.assign rfl rfl ?_
    refine AOps.nil ?_
    refine inB_normal ?_
    refine thn_normal ?_
    refine AWP.region ?_
    refine AOps.add rfl rfl rfl (by omega) ?_
    refine AOps.move rfl rfl ?_
    refine AOps.nil ?_
    have ej := Option.some.inj h
    subst ej
    refine thn_normal ?_
    exact (Sub.move (env' := [(3, .c (.own 0 0 a14.length)), (6, .c (row 1 eLi64 l)), (7, .c (int (l.length : Int))), (8, .c (int (t3 + 1)))]) (σ' := [.one (vec 1 intI a14)]) 0 1 rfl rfl rfl ⟨rfl, rfl, rfl, rfl, trivial⟩ rfl ⟨⟨Blk.im_ok _ _ _, vec_mv rfl⟩, trivial⟩).trans (Sub.env ⟨rfl, rfl, rfl, rfl, trivial⟩)
  · intro e s hq
    obtain ⟨rfl, hs⟩ := hq
    refine ⟨_, hs, ?_⟩
    refine inB_exit ?_
    refine thn_normal ?_
    refine AWP.seq ?_
    refine AWP.region ?_
    refine AOps.move rfl rfl ?_
    refine AOps.assign rfl rfl ?_
    refine AOps.nil ?_
    refine thn_normal ?_
    refine AWP.ret ?_
    have ej := Option.some.inj h
    subst ej
    exact Done.ret rfl (Fresh.mk rfl rfl)
theorem internal_strconv_small_ok {iv : Int} {r : ByteArray} (h : internal_strconv_small iv = some r) : PureOk Tryd.prog 73 [.c (int iv)] (.c (.imm (.val (.string r)))) := by
  unfold PureOk
  refine FnOk.enter (rs := [.t 2]) Tryd.func73 rfl Tryd.ntmps73 Tryd.results73 rfl ⟨trivial, trivial⟩ (by kernel_rfl) rfl ?_
  unfold internal_strconv_small at h
  refine AWP.seq ?_
  refine AWP.region ?_
  refine AOps.assign rfl rfl ?_
  refine AOps.nil ?_
  refine thn_normal ?_
  refine AWP.seq ?_
  refine AWP.seq ?_
  refine AWP.region ?_
  refine AOps.move rfl rfl ?_
  refine AOps.lss rfl rfl rfl ?_
  refine AOps.nil ?_
  refine thn_normal ?_
  refine AWP.ite rfl h (fun hc2 h => ?_) (fun hc2 h => ?_)
  · refine AWP.seq ?_
    obtain ⟨a8, ha8, h⟩ := bind_some h
    refine AWP.region ?_
    refine AOps.move rfl rfl ?_
    refine AOps.move rfl rfl ?_
    refine S.add rfl rfl rfl ?_
    refine S.subStr ha8 rfl rfl rfl rfl ?_
    refine AOps.assign rfl rfl ?_
    refine AOps.nil ?_
    refine thn_normal ?_
    refine AWP.ret ?_
    refine thn_ret ?_
    have ej := Option.some.inj h
    subst ej
    exact Done.ret rfl rfl
  · refine AWP.skip ?_
    refine thn_normal ?_
    refine AWP.seq ?_
    obtain ⟨a14, ha14, h⟩ := bind_some h
    refine AWP.region ?_
    refine AOps.move rfl rfl ?_
    refine S.mul rfl rfl rfl ?_
    refine AOps.move rfl rfl ?_
    refine S.mul rfl rfl rfl ?_
    refine S.add rfl rfl rfl ?_
    refine S.subStr ha14 rfl rfl rfl rfl ?_
    refine AOps.assign rfl rfl ?_
    refine AOps.nil ?_
    refine thn_normal ?_
    refine AWP.ret ?_
    have ej := Option.some.inj h
    subst ej
    exact Done.ret rfl rfl
theorem internal_strconv_AppendUint_w3_ok {iv : Int} {base : Int} {l : List Int} {r : (List Int)} (h : internal_strconv_AppendUint_w3 iv base l = some r) : FnOk Tryd.prog 61 [.c (.own 0 0 l.length), .c (.imm (.val (.int .u64 iv))), .c (int base)] (internal_strconv_AppendUint_w3_s0 iv base l) (fun tt ss => tt = .c (.own 2 0 r.length) ∧ ss = [.dead, .dead, .one (vec 1 eU8 r)]) := by
  refine FnOk.enter (rs := [.t 6]) Tryd.func61 rfl Tryd.ntmps61 Tryd.results61 rfl ⟨trivial, trivial⟩ (by kernel_rfl) rfl ?_
  refine AWP.weak ?_
  unfold internal_strconv_AppendUint_w3 at h
  refine AWP.move (env' := [(0, .c (.own 1 0 l.length)), (1, .c (.imm (.val (.int .u64 iv)))), (2, .c (int base))]) (σ' := [.dead, .one (vec 1 eU8 l)]) 1 0 rfl rfl rfl ⟨rfl, rfl, rfl, trivial⟩ rfl ⟨trivial, ⟨Blk.im_ok _ _ _, vec_mv rfl⟩, trivial⟩ ?_
  refine AWP.seq ?_
  refine AWP.region ?_
  refine AOps.assign rfl rfl ?_
  refine AOps.nil ?_
  refine thn_normal ?_
  refine AWP.seq ?_
  refine AWP.seq ?_
  refine AWP.region ?_
  refine AOps.move rfl rfl ?_
  refine AOps.eql rfl rfl rfl ?_
  refine AOps.nil ?_
  refine thn_normal ?_
  refine AWP.ite rfl h (fun hc55 h => ?_) (fun hc55 h => ?_)
  · refine AWP.seq ?_
    refine AWP.seq ?_
    refine AWP.region ?_
    refine AOps.move rfl rfl ?_
    refine AOps.lss rfl rfl rfl ?_
    refine AOps.nil ?_
    refine thn_normal ?_
    refine AWP.ite rfl h (fun hc56 h => ?_) (fun hc56 h => ?_)
    · refine AWP.seq ?_
      obtain ⟨a16, ha16, h⟩ := bind_some h
      obtain ⟨a17, ha17, h⟩ := bind_some h
      refine AWP.region ?_
      refine AOps.move rfl rfl ?_
      refine AOps.move rfl rfl ?_
      refine AOps.convInt rfl rfl ?_
      refine AOps.callR rfl rfl rfl rfl (internal_strconv_small_ok ha16) rfl ?_
      refine S.appendStr ha17 rfl rfl rfl rfl rfl rfl rfl rfl rfl rfl ?_
      refine AOps.assign rfl rfl ?_
      refine AOps.nil ?_
      refine thn_normal ?_
      refine AWP.ret ?_
      refine thn_ret ?_
      refine thn_ret ?_
      have ej := Option.some.inj h
      subst ej
      exact ⟨⟨[(6, .c (.own 2 0 a17.length))], [.dead, .dead, .one (vec 1 eU8 a17)]⟩, Sub.env ⟨rfl, trivial⟩, Done.ret rfl ⟨rfl, rfl⟩⟩
    · cases h
  · cases h
theorem internal_strconv_AppendInt_w2_ok {iv : Int} {base : Int} {l : List Int} {r : (List Int)} (h : internal_strconv_AppendInt_w2 iv base l = some r) : FnOk Tryd.prog 55 [.c (.own 0 0 l.length), .c (int iv), .c (int base)] (internal_strconv_AppendInt_w2_s0 iv base l) (fun tt ss => tt = .c (.own 3 0 r.length) ∧ ss = [.dead, .dead, .dead, .one (vec 1 eU8 r)]) := by
  refine FnOk.enter (rs := [.t 6]) Tryd.func55 rfl Tryd.ntmps55 Tryd.results55 rfl ⟨trivial, trivial⟩ (by kernel_rfl) rfl ?_
  refine AWP.weak ?_
  unfold internal_strconv_AppendInt_w2 at h
  refine AWP.move (env' := [(0, .c (.own 1 0 l.length)), (1, .c (int iv)), (2, .c (int base))]) (σ' := [.dead, .one (vec 1 eU8 l)]) 1 0 rfl rfl rfl ⟨rfl, rfl, rfl, trivial⟩ rfl ⟨trivial, ⟨Blk.im_ok _ _ _, vec_mv rfl⟩, trivial⟩ ?_
  refine AWP.seq ?_
  refine AWP.region ?_
  refine AOps.assign rfl rfl ?_
  refine AOps.nil ?_
  refine thn_normal ?_
  refine AWP.seq ?_
  refine AWP.region ?_
  refine AOps.move rfl rfl ?_
  refine AOps.convInt rfl rfl ?_
  refine AOps.assign rfl rfl ?_
  refine AOps.nil ?_
  refine thn_normal ?_
  obtain ⟨u, hx55, h⟩ := bind_some h
  refine AWP.seqJ (⟨[(0, .c (.own 1 0 l.length)), (2, .c (int base)), (7, .c (.imm (.val (.int .u64 ((IntKind.u64).wrap iv)))))], [.dead, .one (vec 1 eU8 l)]⟩) ?_ ?_
  · refine AWP.seq ?_
    refine AWP.region ?_
    refine AOps.move rfl rfl ?_
    refine AOps.lss rfl rfl rfl ?_
    refine AOps.nil ?_
    refine thn_normal ?_
    refine AWP.ite rfl hx55 (fun hc56 hx55 => ?_) (fun hc56 hx55 => ?_)
    · cases hx55
    · refine AWP.skip ?_
      have ej := Option.some.inj hx55
      subst ej
      refine thn_normal ?_
      exact Sub.env ⟨rfl, rfl, rfl, trivial⟩
  · try dsimp only at h
    refine AWP.seq ?_
    obtain ⟨a20, ha20, h⟩ := bind_some h
    refine AWP.region ?_
    refine AOps.move rfl rfl ?_
    refine AOps.move rfl rfl ?_
    refine AOps.move rfl rfl ?_
    refine AOps.callF (r2 := .c (.own 3 0 a20.length)) (σ'' := [.dead, .dead, .dead, .one (vec 1 eU8 a20)]) rfl rfl rfl (FnOk.lend [1] (internal_strconv_AppendUint_w3_ok ha20) rfl rfl rfl rfl rfl rfl (by exact ⟨.vec, trivial⟩) rfl (by exact ⟨(.live rfl .vec), trivial⟩) rfl rfl (by exact ⟨.dead, .dead, .dead, (.new 2 rfl rfl .vec), trivial⟩)) ?_
    refine AOps.assign rfl rfl ?_
    refine AOps.nil ?_
    refine thn_normal ?_
    refine AWP.ret ?_
    have ej := Option.some.inj h
    subst ej
    exact ⟨⟨[(6, .c (.own 3 0 a20.length))], [.dead, .dead, .dead, .one (vec 1 eU8 a20)]⟩, Sub.env ⟨rfl, trivial⟩, Done.ret rfl ⟨rfl, rfl⟩⟩
theorem strconv_AppendInt_w1_ok {iv : Int} {base : Int} {l : List Int} {r : (List Int)} (h : strconv_AppendInt_w1 iv base l = some r) : FnOk Tryd.prog 49 [.c (.own 0 0 l.length), .c (int iv), .c (int base)] (strconv_AppendInt_w1_s0 iv base l) (fun tt ss => tt = .c (.own 4 0 r.length) ∧ ss = [.dead, .dead, .dead, .dead, .one (vec 1 eU8 r)]) := by
  refine FnOk.enter (rs := [.t 6]) Tryd.func49 rfl Tryd.ntmps49 Tryd.results49 rfl ⟨trivial, trivial⟩ (by kernel_rfl) rfl ?_
  refine AWP.weak ?_
  unfold strconv_AppendInt_w1 at h
  refine AWP.move (env' := [(0, .c (.own 1 0 l.length)), (1, .c (int iv)), (2, .c (int base))]) (σ' := [.dead, .one (vec 1 eU8 l)]) 1 0 rfl rfl rfl ⟨rfl, rfl, rfl, trivial⟩ rfl ⟨trivial, ⟨Blk.im_ok _ _ _, vec_mv rfl⟩, trivial⟩ ?_
  refine AWP.seq ?_
  refine AWP.region ?_
  refine AOps.assign rfl rfl ?_
  refine AOps.nil ?_
  refine thn_normal ?_
  refine AWP.seq ?_
  obtain ⟨a10, ha10, h⟩ := bind_some h
  refine AWP.region ?_
  refine AOps.move rfl rfl ?_
  refine AOps.move rfl rfl ?_
  refine AOps.move rfl rfl ?_
  refine AOps.callF (r2 := .c (.own 4 0 a10.length)) (σ'' := [.dead, .dead, .dead, .dead, .one (vec 1 eU8 a10)]) rfl rfl rfl (FnOk.lend [1] (internal_strconv_AppendInt_w2_ok ha10) rfl rfl rfl rfl rfl rfl (by exact ⟨.vec, trivial⟩) rfl (by exact ⟨(.live rfl .vec), trivial⟩) rfl rfl (by exact ⟨.dead, .dead, .dead, .dead, (.new 3 rfl rfl .vec), trivial⟩)) ?_
  refine AOps.assign rfl rfl ?_
  refine AOps.nil ?_
  refine thn_normal ?_
  refine AWP.ret ?_
  have ej := Option.some.inj h
  subst ej
  exact ⟨⟨[(6, .c (.own 4 0 a10.length))], [.dead, .dead, .dead, .dead, .one (vec 1 eU8 a10)]⟩, Sub.env ⟨rfl, trivial⟩, Done.ret rfl ⟨rfl, rfl⟩⟩
theorem belief_Key_ok {l : List (List Int)} {r : ByteArray} (h : belief_Key l = some r) : PureOk Tryd.prog 42 [.c (row 1 eLi64 l)] (.c (.imm (.val (.string r)))) := by
  unfold PureOk
  refine FnOk.enter (rs := [.t 2]) Tryd.func42 rfl Tryd.ntmps42 Tryd.results42 rfl ⟨trivial, trivial⟩ (by kernel_rfl) rfl ?_
  unfold belief_Key at h
  refine AWP.seq ?_
  refine AWP.region ?_
  refine AOps.assign rfl rfl ?_
  refine AOps.nil ?_
  refine thn_normal ?_
  refine AWP.seq ?_
  refine AWP.region ?_
  refine AOps.assign rfl rfl ?_
  refine AOps.nil ?_
  refine thn_normal ?_
  refine AWP.seq ?_
  refine AWP.seq ?_
  refine AWP.region ?_
  refine AOps.move rfl rfl ?_
  refine S.len rfl rfl (fun hl9 => ?_)
  refine AOps.move rfl rfl ?_
  refine AOps.nil ?_
  refine thn_normal ?_
  refine AWP.block ?_
  refine AWP.virtV 1 eU8 3 rfl rfl rfl ?_
  obtain ⟨c2, ho1, h⟩ := bind_some h
  refine AWP.forS ho1 (fun t3 c2 => ⟨[(3, .c (.own 0 0 c2.length)), (8, .c (row 1 eLi64 l)), (9, .c (int (l.length : Int))), (10, .c (int t3))], [.one (vec 1 eU8 c2)]⟩) (fun c2 e st => e = .exit 0 ∧ Sub [] st ⟨[(3, .c (.own 0 0 c2.length))], [.one (vec 1 eU8 c2)]⟩) ?_ ?_ ?_ ?_
  · try dsimp only
    exact Sub.env ⟨(own_len (by first | rfl | simp only [List.length_set])), rfl, rfl, rfl, trivial⟩
  · intro t3 c2 hlot3 hltt3 _
    try dsimp only
    refine AWP.seq ?_
    refine AWP.region ?_
    refine AOps.lss rfl rfl rfl ?_
    refine AOps.nil ?_
    refine thn_normal ?_
    refine AWP.seq ?_
    refine AWP.condNP rfl hltt3 ?_
    refine AWP.exit ?_
    refine thn_exit ?_
    refine thn_exit ⟨rfl, ?_⟩
    exact Sub.env ⟨rfl, trivial⟩
  · intro t3 c2 o hlot3 hltt3 h
    unfold belief_Key_l1 at h
    try dsimp only at h ⊢
    refine AWP.seq ?_
    refine AWP.region ?_
    refine AOps.lss rfl rfl rfl ?_
    refine AOps.nil ?_
    refine thn_normal ?_
    refine AWP.seq ?_
    refine AWP.condP rfl hltt3 ?_
    refine AWP.skip ?_
    refine thn_normal ?_
    refine AWP.seq ?_
    refine AWP.block ?_
    refine AWP.seq ?_
    obtain ⟨a12, ha12, h⟩ := bind_some h
    refine AWP.region ?_
    refine S.idx ha12 rfl rfl rfl rfl ?_
    refine AOps.loadI rfl rfl rfl rfl ?_
    refine AOps.assign rfl rfl ?_
    refine AOps.nil ?_
    refine thn_normal ?_
    refine AWP.seq ?_
    refine AWP.seq ?_
    refine AWP.region ?_
    refine AOps.move rfl rfl ?_
    refine S.len rfl rfl (fun hl15 => ?_)
    refine AOps.move rfl rfl ?_
    refine AOps.nil ?_
    refine thn_normal ?_
    refine AWP.block ?_
    obtain ⟨c4, ho2, h⟩ := bind_some h
    refine AWP.forS ho2 (fun t5 c4 => ⟨[(3, .c (.own 0 0 c4.length)), (8, .c (row 1 eLi64 l)), (9, .c (int (l.length : Int))), (10, .c (int t3)), (14, .c (row 1 intI a12)), (15, .c (int (a12.length : Int))), (16, .c (int t5))], [.one (vec 1 eU8 c4)]⟩) (fun c4 e st => e = .exit 2 ∧ Sub [] st ⟨[(3, .c (.own 0 0 c4.length)), (8, .c (row 1 eLi64 l)), (9, .c (int (l.length : Int))), (10, .c (int t3))], [.one (vec 1 eU8 c4)]⟩) ?_ ?_ ?_ ?_
    · try dsimp only
      exact Sub.env ⟨rfl, rfl, rfl, rfl, rfl, rfl, rfl, trivial⟩
    · intro t5 c4 hlot5 hltt5 _
      try dsimp only
      refine AWP.seq ?_
      refine AWP.region ?_
      refine AOps.lss rfl rfl rfl ?_
      refine AOps.nil ?_
      refine thn_normal ?_
      refine AWP.seq ?_
      refine AWP.condNP rfl hltt5 ?_
      refine AWP.exit ?_
      refine thn_exit ?_
      refine thn_exit ⟨rfl, ?_⟩
      exact Sub.env ⟨rfl, rfl, rfl, rfl, trivial⟩
    · intro t5 c4 o hlot5 hltt5 h
      unfold belief_Key_l2 at h
      try dsimp only at h ⊢
      refine AWP.seq ?_
      refine AWP.region ?_
      refine AOps.lss rfl rfl rfl ?_
      refine AOps.nil ?_
      refine thn_normal ?_
      refine AWP.seq ?_
      refine AWP.condP rfl hltt5 ?_
      refine AWP.skip ?_
      refine thn_normal ?_
      refine AWP.seq ?_
      refine AWP.block ?_
      refine AWP.seq ?_
      obtain ⟨a18, ha18, h⟩ := bind_some h
      refine AWP.region ?_
      refine S.idx ha18 rfl rfl rfl rfl ?_
      refine AOps.loadI rfl rfl rfl rfl ?_
      refine AOps.assign rfl rfl ?_
      refine AOps.nil ?_
      refine thn_normal ?_
      obtain ⟨a22, ha22, h⟩ := bind_some h
      obtain ⟨a24, ha24, h⟩ := bind_some h
      refine AWP.region ?_
      refine AOps.move rfl rfl ?_
      refine AOps.move rfl rfl ?_
      refine AOps.callF (r2 := .c (.own 4 0 a22.length)) (σ'' := [.dead, .dead, .dead, .dead, .one (vec 1 eU8 a22)]) rfl rfl rfl (FnOk.lend [0] (strconv_AppendInt_w1_ok ha22) rfl rfl rfl rfl rfl rfl (by exact ⟨.vec, trivial⟩) rfl (by exact ⟨(.live rfl .vec), trivial⟩) rfl rfl (by exact ⟨.dead, .dead, .dead, .dead, (.new 4 rfl rfl .vec), trivial⟩)) ?_
      refine S.lit (f := eU8) (l := [44]) (ess := [[.imm (.val (.int .u8 44))]]) rfl rfl rfl rfl rfl rfl rfl ⟨⟨.inl rfl, trivial⟩, trivial⟩ rfl rfl rfl ?_
      refine S.append (f := eU8) ha24 rfl rfl rfl rfl rfl rfl (.own rfl rfl) rfl rfl rfl rfl ?_
      refine AOps.assign rfl rfl ?_
      refine AOps.nil ?_
      refine inB_normal ?_
      refine thn_normal ?_
      refine AWP.move (env' := [(3, .c (.own 4 0 a24.length)), (8, .c (row 1 eLi64 l)), (9, .c (int (l.length : Int))), (10, .c (int t3)), (14, .c (row 1 intI a12)), (15, .c (int (a12.length : Int))), (16, .c (int t5))]) (σ' := [.dead, .dead, .dead, .dead, .one (vec 1 eU8 a24), .one (vec 1 eU8 [44])]) 4 6 rfl rfl rfl ⟨rfl, rfl, rfl, rfl, rfl, rfl, rfl, trivial⟩ rfl ⟨trivial, trivial, trivial, trivial, ⟨Blk.im_ok _ _ _, vec_mv rfl⟩, ⟨Blk.im_ok _ _ _, vec_mv rfl⟩, trivial⟩ ?_
      refine AWP.region ?_
      refine AOps.add rfl rfl rfl (by omega) ?_
      refine AOps.move rfl rfl ?_
      refine AOps.nil ?_
      have ej := Option.some.inj h
      subst ej
      refine thn_normal ?_
      exact (Sub.move (env' := [(3, .c (.own 0 0 a24.length)), (8, .c (row 1 eLi64 l)), (9, .c (int (l.length : Int))), (10, .c (int t3)), (14, .c (row 1 intI a12)), (15, .c (int (a12.length : Int))), (16, .c (int (t5 + 1)))]) (σ' := [.one (vec 1 eU8 a24), .dead, .dead, .dead, .dead, .one (vec 1 eU8 [44])]) 0 4 rfl rfl rfl ⟨rfl, rfl, rfl, rfl, rfl, rfl, rfl, trivial⟩ rfl ⟨⟨Blk.im_ok _ _ _, vec_mv rfl⟩, trivial, trivial, trivial, trivial, ⟨Blk.im_ok _ _ _, vec_mv rfl⟩, trivial⟩).trans (Sub.cut ⟨rfl, rfl, rfl, rfl, rfl, rfl, rfl, trivial⟩ rfl ⟨.vec, trivial⟩ rfl)
    · intro e s hq
      obtain ⟨rfl, hs⟩ := hq
      refine ⟨_, hs, ?_⟩
      refine inB_exit ?_
      refine thn_normal ?_
      obtain ⟨a28, ha28, h⟩ := bind_some h
      refine AWP.region ?_
      refine AOps.move rfl rfl ?_
      refine S.lit (f := eU8) (l := [59]) (ess := [[.imm (.val (.int .u8 59))]]) rfl rfl rfl rfl rfl rfl rfl ⟨⟨.inl rfl, trivial⟩, trivial⟩ rfl rfl rfl ?_
      refine S.append (f := eU8) ha28 rfl rfl rfl rfl rfl rfl (.own rfl rfl) rfl rfl rfl rfl ?_
      refine AOps.assign rfl rfl ?_
      refine AOps.nil ?_
      refine inB_normal ?_
      refine thn_normal ?_
      refine AWP.move (env' := [(3, .c (.own 0 0 a28.length)), (8, .c (row 1 eLi64 l)), (9, .c (int (l.length : Int))), (10, .c (int t3))]) (σ' := [.one (vec 1 eU8 a28), .one (vec 1 eU8 [59])]) 0 2 rfl rfl rfl ⟨rfl, rfl, rfl, rfl, trivial⟩ rfl ⟨⟨Blk.im_ok _ _ _, vec_mv rfl⟩, ⟨Blk.im_ok _ _ _, vec_mv rfl⟩, trivial⟩ ?_
      refine AWP.region ?_
      refine AOps.add rfl rfl rfl (by omega) ?_
      refine AOps.move rfl rfl ?_
      refine AOps.nil ?_
      have ej := Option.some.inj h
      subst ej
      refine thn_normal ?_
      exact Sub.cut ⟨rfl, rfl, rfl, rfl, trivial⟩ rfl ⟨.vec, trivial⟩ rfl
  · intro e s hq
    obtain ⟨rfl, hs⟩ := hq
    refine ⟨_, hs, ?_⟩
    refine inB_exit ?_
    refine thn_normal ?_
    refine AWP.seq ?_
    refine AWP.region ?_
    refine AOps.move rfl rfl ?_
    refine S.bytesStr rfl rfl rfl rfl ?_
    refine AOps.assign rfl rfl ?_
    refine AOps.nil ?_
    refine thn_normal ?_
    refine AWP.ret ?_
    have ej := Option.some.inj h
    subst ej
    exact Done.ret rfl rfl
theorem strips_Contains_ok {sv : List Int} {part : List Int} {r : Bool} (h : strips_Contains sv part = some r) : PureOk Tryd.prog 32 [.c (row 1 intI sv), .c (row 1 intI part)] (.c (bool r)) := by
  unfold PureOk
  refine FnOk.enter (rs := [.t 4]) Tryd.func32 rfl Tryd.ntmps32 Tryd.results32 rfl ⟨trivial, trivial⟩ (by kernel_rfl) rfl ?_
  unfold strips_Contains at h
  refine AWP.seq ?_
  refine AWP.region ?_
  refine AOps.assign rfl rfl ?_
  refine AOps.nil ?_
  refine thn_normal ?_
  refine AWP.seq ?_
  refine AWP.region ?_
  refine AOps.assign rfl rfl ?_
  refine AOps.nil ?_
  refine thn_normal ?_
  refine AWP.seq ?_
  refine AWP.seq ?_
  refine AWP.region ?_
  refine AOps.move rfl rfl ?_
  refine S.len rfl rfl (fun hl9 => ?_)
  refine AOps.move rfl rfl ?_
  refine AOps.nil ?_
  refine thn_normal ?_
  refine AWP.block ?_
  obtain ⟨oo, ho1, h⟩ := bind_some h
  refine AWP.rngS ho1 (fun t4 iv3 => ⟨[(0, .c (row 1 intI sv)), (5, .c (int iv3)), (8, .c (row 1 intI part)), (9, .c (int (part.length : Int))), (10, .c (int t4))], []⟩) (fun o e st => match o with | .inl iv3 => e = .exit 0 ∧ Sub [] st ⟨[], []⟩ | .inr x => e = .ret ∧ Done [.t 4] (fun t _ => t = .c (bool x)) .ret st) ?_ ?_ ?_ ?_
  · try dsimp only
    exact Sub.env ⟨rfl, rfl, rfl, rfl, rfl, trivial⟩
  · intro t4 iv3 hlot4 hltt4 _
    try dsimp only
    refine AWP.seq ?_
    refine AWP.region ?_
    refine AOps.lss rfl rfl rfl ?_
    refine AOps.nil ?_
    refine thn_normal ?_
    refine AWP.seq ?_
    refine AWP.condNP rfl hltt4 ?_
    refine AWP.exit ?_
    refine thn_exit ?_
    refine thn_exit ⟨rfl, ?_⟩
    exact Sub.env trivial
  · intro t4 iv3 o hlot4 hltt4 h
    unfold strips_Contains_l1 at h
    try dsimp only at h ⊢
    refine AWP.seq ?_
    refine AWP.region ?_
    refine AOps.lss rfl rfl rfl ?_
    refine AOps.nil ?_
    refine thn_normal ?_
    refine AWP.seq ?_
    refine AWP.condP rfl hltt4 ?_
    refine AWP.skip ?_
    refine thn_normal ?_
    refine AWP.seq ?_
    refine AWP.block ?_
    refine AWP.seq ?_
    obtain ⟨a12, ha12, h⟩ := bind_some h
    refine AWP.region ?_
    refine S.idx ha12 rfl rfl rfl rfl ?_
    refine AOps.loadI rfl rfl rfl rfl ?_
    refine AOps.assign rfl rfl ?_
    refine AOps.nil ?_
    refine thn_normal ?_
    refine AWP.seq ?_
    refine AWP.block ?_
    obtain ⟨iv6, ho2, h⟩ := bind_some h
    refine AWP.loopS ho2 (fun iv5 => ⟨[(0, .c (row 1 intI sv)), (5, .c (int iv5)), (7, .c (int a12)), (8, .c (row 1 intI part)), (9, .c (int (part.length : Int))), (10, .c (int t4))], []⟩) (fun iv6 e st => e = .exit 2 ∧ Sub [] st ⟨[(0, .c (row 1 intI sv)), (5, .c (int iv6)), (7, .c (int a12)), (8, .c (row 1 intI part)), (9, .c (int (part.length : Int))), (10, .c (int t4))], []⟩) ?_ ?_ ?_
    · try dsimp only
      exact Sub.env ⟨rfl, rfl, rfl, rfl, rfl, rfl, trivial⟩
    · intro iv5 o h
      unfold strips_Contains_l2 at h
      try dsimp only at h ⊢
      refine AWP.seq ?_
      obtain ⟨t7, hx8, h⟩ := bind_some h
      refine AWP.seqJ (⟨[(0, .c (row 1 intI sv)), (5, .c (int iv5)), (7, .c (int a12)), (8, .c (row 1 intI part)), (9, .c (int (part.length : Int))), (10, .c (int t4)), (25, .c (bool t7))], []⟩) ?_ ?_
      · rcases Bool.eq_false_or_eq_true (decide (iv5 < (sv.length : Int))) with hb9 | hb9
        · replace hx8 := iteDT hb9 hx8
          obtain ⟨a21, ha21, hx8⟩ := bind_some hx8
          refine AWP.region ?_
          refine AOps.move rfl rfl ?_
          refine AOps.move rfl rfl ?_
          refine S.len rfl rfl (fun hl16 => ?_)
          refine AOps.lss rfl rfl rfl ?_
          refine AOps.move rfl rfl ?_
          refine AOps.guardT rfl rfl rfl hb9 ?_; refine AOps.move rfl rfl ?_
          refine AOps.guardT rfl rfl rfl hb9 ?_; refine AOps.move rfl rfl ?_
          refine AOps.guardT rfl rfl rfl hb9 ?_; refine S.idx ha21 rfl rfl rfl rfl ?_
          refine AOps.guardT rfl rfl rfl hb9 ?_; refine AOps.loadI rfl rfl rfl rfl ?_
          refine AOps.guardT rfl rfl rfl hb9 ?_; refine AOps.move rfl rfl ?_
          refine AOps.guardT rfl rfl rfl hb9 ?_; refine AOps.lss rfl rfl rfl ?_
          refine AOps.pickT rfl hb9 rfl rfl ?_
          refine AOps.nil ?_
          have ej := Option.some.inj hx8
          subst ej
          refine thn_normal ?_
          exact Sub.env ⟨rfl, rfl, rfl, rfl, rfl, rfl, rfl, trivial⟩
        · replace hx8 := iteDF hb9 hx8
          refine AWP.region ?_
          refine AOps.move rfl rfl ?_
          refine AOps.move rfl rfl ?_
          refine S.len rfl rfl (fun hl16 => ?_)
          refine AOps.lss rfl rfl rfl ?_
          refine AOps.move rfl rfl ?_
          refine AOps.guardF rfl rfl rfl hb9 ?_
          refine AOps.guardF rfl rfl rfl hb9 ?_
          refine AOps.guardF rfl rfl rfl hb9 ?_
          refine AOps.guardF rfl rfl rfl hb9 ?_
          refine AOps.guardF rfl rfl rfl hb9 ?_
          refine AOps.guardF rfl rfl rfl hb9 ?_
          refine AOps.pickF rfl hb9 rfl rfl ?_
          refine AOps.nil ?_
          have ej := Option.some.inj hx8
          subst ej
          refine thn_normal ?_
          exact Sub.env ⟨rfl, rfl, rfl, rfl, rfl, rfl, rfl, trivial⟩
      · refine AWP.iteB rfl h (fun hc10 h => ?_) (fun hc10 h => ?_)
        · refine AWP.skip ?_
          refine thn_normal ?_
          refine AWP.block ?_
          refine AWP.region ?_
          refine AOps.move rfl rfl ?_
          refine S.add rfl rfl rfl ?_
          refine AOps.assign rfl rfl ?_
          refine AOps.nil ?_
          refine inB_normal ?_
          have ej := Option.some.inj h
          subst ej
          refine thn_normal ⟨_, rfl, ?_⟩
          exact Sub.env ⟨rfl, rfl, rfl, rfl, rfl, rfl, trivial⟩
        · refine AWP.exit ?_
          refine thn_exit ?_
          have ej := Option.some.inj h
          subst ej
          refine thn_exit ⟨_, rfl, rfl, ?_⟩
          exact Sub.env ⟨rfl, rfl, rfl, rfl, rfl, rfl, trivial⟩
    · intro e s hq
      obtain ⟨rfl, hs⟩ := hq
      refine ⟨_, hs, ?_⟩
      refine inB_exit ?_
      refine thn_normal ?_
      obtain ⟨t11, hx12, h⟩ := bind_some h
      refine AWP.seqJ (⟨[(0, .c (row 1 intI sv)), (5, .c (int iv6)), (8, .c (row 1 intI part)), (9, .c (int (part.length : Int))), (10, .c (int t4)), (39, .c (bool t11))], []⟩) ?_ ?_
      · rcases Bool.eq_false_or_eq_true (decide (iv6 = (sv.length : Int))) with hb13 | hb13
        · replace hx12 := iteDT hb13 hx12
          refine AWP.region ?_
          refine AOps.move rfl rfl ?_
          refine AOps.move rfl rfl ?_
          refine S.len rfl rfl (fun hl30 => ?_)
          refine AOps.eql rfl rfl rfl ?_
          refine AOps.move rfl rfl ?_
          refine AOps.guardF rfl rfl rfl hb13 ?_
          refine AOps.guardF rfl rfl rfl hb13 ?_
          refine AOps.guardF rfl rfl rfl hb13 ?_
          refine AOps.guardF rfl rfl rfl hb13 ?_
          refine AOps.guardF rfl rfl rfl hb13 ?_
          refine AOps.guardF rfl rfl rfl hb13 ?_
          refine AOps.pickT rfl hb13 rfl rfl ?_
          refine AOps.nil ?_
          have ej := Option.some.inj hx12
          subst ej
          refine thn_normal ?_
          exact Sub.env ⟨rfl, rfl, rfl, rfl, rfl, rfl, trivial⟩
        · replace hx12 := iteDF hb13 hx12
          obtain ⟨a35, ha35, hx12⟩ := bind_some hx12
          refine AWP.region ?_
          refine AOps.move rfl rfl ?_
          refine AOps.move rfl rfl ?_
          refine S.len rfl rfl (fun hl30 => ?_)
          refine AOps.eql rfl rfl rfl ?_
          refine AOps.move rfl rfl ?_
          refine AOps.guardT rfl rfl rfl hb13 ?_; refine AOps.move rfl rfl ?_
          refine AOps.guardT rfl rfl rfl hb13 ?_; refine AOps.move rfl rfl ?_
          refine AOps.guardT rfl rfl rfl hb13 ?_; refine S.idx ha35 rfl rfl rfl rfl ?_
          refine AOps.guardT rfl rfl rfl hb13 ?_; refine AOps.loadI rfl rfl rfl rfl ?_
          refine AOps.guardT rfl rfl rfl hb13 ?_; refine AOps.move rfl rfl ?_
          refine AOps.guardT rfl rfl rfl hb13 ?_; refine AOps.neq rfl rfl rfl ?_
          refine AOps.pickF rfl hb13 rfl rfl ?_
          refine AOps.nil ?_
          have ej := Option.some.inj hx12
          subst ej
          refine thn_normal ?_
          exact Sub.env ⟨rfl, rfl, rfl, rfl, rfl, rfl, trivial⟩
      · refine AWP.iteB rfl h (fun hc14 h => ?_) (fun hc14 h => ?_)
        · refine AWP.seq ?_
          refine AWP.region ?_
          refine AOps.assign rfl rfl ?_
          refine AOps.nil ?_
          refine thn_normal ?_
          refine AWP.ret ?_
          refine inB_ret ?_
          refine thn_ret ?_
          have ej := Option.some.inj h
          subst ej
          refine thn_ret ⟨_, rfl, rfl, ?_⟩
          exact Done.ret rfl rfl
        · refine AWP.skip ?_
          refine inB_normal ?_
          refine thn_normal ?_
          refine AWP.region ?_
          refine AOps.add rfl rfl rfl (by omega) ?_
          refine AOps.move rfl rfl ?_
          refine AOps.nil ?_
          have ej := Option.some.inj h
          subst ej
          refine thn_normal ⟨_, rfl, ?_⟩
          exact Sub.env ⟨rfl, rfl, rfl, rfl, rfl, trivial⟩
  · intro e s hq
    rcases oo with iv3 | x
    · try dsimp only at h hq
      obtain ⟨rfl, hs⟩ := hq
      refine ⟨_, hs, ?_⟩
      refine inB_exit ?_
      refine thn_normal ?_
      refine AWP.seq ?_
      refine AWP.region ?_
      refine AOps.assign rfl rfl ?_
      refine AOps.nil ?_
      refine thn_normal ?_
      refine AWP.ret ?_
      have ej := Option.some.inj h
      subst ej
      exact Done.ret rfl rfl
    · try dsimp only at h hq
      obtain ⟨rfl, hs⟩ := hq
      refine ⟨_, Sub.refl _ _, ?_⟩
      refine inB_ret ?_
      refine thn_ret ?_
      have ej := Option.some.inj h
      subst ej
      exact hs
theorem strips_Can_ok {t : TTask} {sv : List Int} {op : Int} {r : Bool} (h : strips_Can t sv op = some r) : PureOk Tryd.prog 30 [.agg [int t.facts, row 1 intI t.init, row 1 intI t.goal, row 4 eTOperator t.operators], .c (row 1 intI sv), .c (int op)] (.c (bool r)) := by
  unfold PureOk
  refine FnOk.enter (rs := [.t 6]) Tryd.func30 rfl Tryd.ntmps30 Tryd.results30 rfl ⟨trivial, trivial⟩ (by kernel_rfl) rfl ?_
  unfold strips_Can at h
  refine AWP.seq ?_
  refine AWP.region ?_
  refine W.box rfl rfl rfl rfl rfl rfl ?_
  refine AOps.assign rfl rfl ?_
  refine AOps.nil ?_
  refine thn_normal ?_
  refine AWP.seq ?_
  obtain ⟨a11, ha11, h⟩ := bind_some h
  obtain ⟨a14, ha14, h⟩ := bind_some h
  refine AWP.region ?_
  refine AOps.move rfl rfl ?_
  refine W.fieldAddr rfl rfl rfl rfl ?_
  refine AOps.load rfl rfl rfl rfl rfl rfl ?_
  refine AOps.move rfl rfl ?_
  refine S.idx ha11 rfl rfl rfl rfl ?_
  refine W.fieldAddrI rfl rfl rfl rfl ?_
  refine AOps.loadI rfl rfl rfl rfl ?_
  refine AOps.callR rfl rfl rfl rfl (strips_Contains_ok ha14) rfl ?_
  refine AOps.assign rfl rfl ?_
  refine AOps.nil ?_
  refine thn_normal ?_
  refine AWP.ret ?_
  have ej := Option.some.inj h
  subst ej
  exact Done.ret rfl rfl
theorem strips_Next_ok {t : TTask} {sv : List Int} {op : Int} {r : (List Int)} (h : strips_Next t sv op = some r) : FreshOk Tryd.prog 31 [.agg [int t.facts, row 1 intI t.init, row 1 intI t.goal, row 4 eTOperator t.operators], .c (row 1 intI sv), .c (int op)] 1 (List.map intI r) := by
  unfold FreshOk
  refine FnOk.enter (rs := [.t 6]) Tryd.func31 rfl Tryd.ntmps31 Tryd.results31 rfl ⟨trivial, trivial⟩ (by kernel_rfl) rfl ?_
  unfold strips_Next at h
  refine AWP.seq ?_
  refine AWP.region ?_
  refine W.box rfl rfl rfl rfl rfl rfl ?_
  refine AOps.assign rfl rfl ?_
  refine AOps.nil ?_
  refine thn_normal ?_
  refine AWP.seq ?_
  obtain ⟨a11, ha11, h⟩ := bind_some h
  refine AWP.region ?_
  refine W.fieldAddr rfl rfl rfl rfl ?_
  refine AOps.load rfl rfl rfl rfl rfl rfl ?_
  refine AOps.move rfl rfl ?_
  refine S.idx ha11 rfl rfl rfl rfl ?_
  refine W.loadIAgg rfl rfl rfl rfl rfl ?_
  refine W.alloc rfl rfl rfl rfl ?_
  refine W.storeAgg rfl rfl rfl rfl rfl rfl rfl ?_
  refine AOps.nil ?_
  refine thn_normal ?_
  refine AWP.seq ?_
  obtain ⟨a18, ha18, h⟩ := bind_some h
  refine AWP.region ?_
  refine AOps.move rfl rfl ?_
  refine W.fieldAddr rfl rfl rfl rfl ?_
  refine AOps.load rfl rfl rfl rfl rfl rfl ?_
  refine W.fieldAddr rfl rfl rfl rfl ?_
  refine AOps.load rfl rfl rfl rfl rfl rfl ?_
  refine S.fresh rfl rfl rfl rfl (strips_Update_ok ha18) rfl rfl ?_
  refine AOps.assign rfl rfl ?_
  refine AOps.nil ?_
  refine thn_normal ?_
  refine AWP.ret ?_
  have ej := Option.some.inj h
  subst ej
  exact Done.ret rfl (Fresh.mk rfl rfl)
theorem merging_merger_turns_w1_okN {t : TTask} {plans : List (List Int)} : ∀ (n : Nat) (xs : (List Int) × (List Int) × (List Int) × (List (ByteArray × Int))) (r : (List Int) × Bool × (List Int) × (List (ByteArray × Int))), recN (merging_merger_turns_w1_b t plans) n xs = some r → FnOk Tryd.prog 25 [.c (.ptr 0 0 0), .c (row 1 intI xs.1), .c (row 1 intI xs.2.1)] (merging_merger_turns_w1_s0 xs.1 xs.2.1 t plans xs.2.2.1 xs.2.2.2) (fun tt ss => tt = .tup [.c (row 1 intI r.1), .c (bool r.2.1)] ∧ ss = [.one (.cells 7 [[int t.facts, row 1 intI t.init, row 1 intI t.goal, row 4 eTOperator t.operators, row 1 eLi64 plans, .own 1 0 r.2.2.1.length, .map 2]]), .one (vec 1 intI r.2.2.1), .one (mapB Value.string (Value.int .i64) r.2.2.2)]) := by
  intro n
  induction n with
  | zero => intro xs r h; cases h
  | succ n ih =>
    intro xs r h
    obtain ⟨sv, atv, l, l6⟩ := xs
    have h : merging_merger_turns_w1_b t plans (recN (merging_merger_turns_w1_b t plans) n) (sv, atv, l, l6) = some r := h
    revert ih h
    generalize recN (merging_merger_turns_w1_b t plans) n = slf
    intro hslf h
    try dsimp only
    refine FnOk.enter (rs := [.t 6, .t 7]) Tryd.func25 rfl Tryd.ntmps25 Tryd.results25 rfl ⟨trivial, trivial, trivial⟩ (by kernel_rfl) rfl ?_
    refine AWP.weak ?_
    unfold merging_merger_turns_w1_b at h
    try dsimp only at h
    refine AWP.seq ?_
    refine AWP.region ?_
    refine AOps.assign rfl rfl ?_
    refine AOps.assign rfl rfl ?_
    refine AOps.nil ?_
    refine thn_normal ?_
    refine AWP.seq ?_
    obtain ⟨a18, ha18, h⟩ := bind_some h
    refine AWP.region ?_
    refine AOps.move rfl rfl ?_
    refine AOps.move rfl rfl ?_
    refine S.lit (f := eLi64) (l := [sv, atv]) (ess := [[row 1 intI sv], [row 1 intI atv]]) rfl rfl rfl rfl rfl rfl rfl ⟨⟨.inl rfl, trivial⟩, ⟨.inl rfl, trivial⟩, trivial⟩ rfl rfl rfl ?_
    refine AOps.callL rfl rfl (.cons (.c (.own rfl rfl)) .nil) rfl (belief_Key_ok ha18) rfl ?_
    refine AOps.assign rfl rfl ?_
    refine AOps.nil ?_
    refine thn_normal ?_
    refine AWP.seq ?_
    refine AWP.seq ?_
    refine AWP.region ?_
    refine AOps.move rfl rfl ?_
    refine AOps.nilCheck rfl rfl rfl ?_
    refine W.fieldAddr rfl rfl rfl rfl ?_
    refine AOps.load rfl rfl rfl rfl rfl rfl ?_
    refine AOps.move rfl rfl ?_
    refine W.lookup (fk := Value.string) (fv := (Value.int .i64)) (k := a18) (z := 0) keyStr rfl (fun _ => rfl) rfl rfl rfl rfl ?_
    refine AOps.gtr rfl rfl rfl ?_
    refine AOps.nil ?_
    refine thn_normal ?_
    refine AWP.ite rfl h (fun hc11 h => ?_) (fun hc11 h => ?_)
    · refine AWP.seq ?_
      refine AWP.region ?_
      refine AOps.assign rfl rfl ?_
      refine AOps.assign rfl rfl ?_
      refine AOps.nil ?_
      refine thn_normal ?_
      refine AWP.nilrow 1 6 rfl ?_
      refine AWP.ret ?_
      refine thn_ret ?_
      have ej := Option.some.inj h
      subst ej
      exact ⟨⟨[(6, .c (row 1 intI [])), (7, .c (bool false))], [.one (.cells 7 [[int t.facts, row 1 intI t.init, row 1 intI t.goal, row 4 eTOperator t.operators, row 1 eLi64 plans, .own 1 0 l.length, .map 2]]), .one (vec 1 intI l), .one (mapB Value.string (Value.int .i64) l6)]⟩, Sub.cut ⟨rfl, rfl, trivial⟩ rfl ⟨.one rfl, .vec, .one rfl, trivial⟩ rfl, Done.ret rfl ⟨rfl, rfl⟩⟩
    · refine AWP.skip ?_
      refine thn_normal ?_
      refine AWP.seq ?_
      refine AWP.region ?_
      refine AOps.assign rfl rfl ?_
      refine AOps.nil ?_
      refine thn_normal ?_
      refine AWP.seq ?_
      refine AWP.seq ?_
      refine AWP.region ?_
      refine AOps.move rfl rfl ?_
      refine AOps.nilCheck rfl rfl rfl ?_
      refine W.fieldAddr rfl rfl rfl rfl ?_
      refine AOps.load rfl rfl rfl rfl rfl rfl ?_
      refine S.len rfl rfl (fun hl30 => ?_)
      refine AOps.move rfl rfl ?_
      refine AOps.nil ?_
      refine thn_normal ?_
      refine AWP.block ?_
      obtain ⟨oo, ho1, h⟩ := bind_some h
      refine AWP.rngS ho1 (fun t15 (c12, c13, done14) => ⟨[(0, .c (.ptr 0 0 0)), (1, .c (row 1 intI sv)), (2, .c (row 1 intI atv)), (8, .c (.imm (.val (.string a18)))), (9, .c (bool done14)), (29, .c (row 1 eLi64 plans)), (30, .c (int (plans.length : Int))), (31, .c (int t15))], [.one (.cells 7 [[int t.facts, row 1 intI t.init, row 1 intI t.goal, row 4 eTOperator t.operators, row 1 eLi64 plans, .own 1 0 c12.length, .map 2]]), .one (vec 1 intI c12), .one (mapB Value.string (Value.int .i64) c13)]⟩) (fun o e st => match o with | .inl (c12, c13, done14) => e = .exit 0 ∧ Sub (merging_merger_turns_w1_s0 sv atv t plans l l6) st ⟨[(0, .c (.ptr 0 0 0)), (1, .c (row 1 intI sv)), (8, .c (.imm (.val (.string a18)))), (9, .c (bool done14))], [.one (.cells 7 [[int t.facts, row 1 intI t.init, row 1 intI t.goal, row 4 eTOperator t.operators, row 1 eLi64 plans, .own 1 0 c12.length, .map 2]]), .one (vec 1 intI c12), .one (mapB Value.string (Value.int .i64) c13)]⟩ | .inr x => e = .ret ∧ ∃ J, Sub (merging_merger_turns_w1_s0 sv atv t plans l l6) st J ∧ Done [.t 6, .t 7] (fun tt ss => tt = .tup [.c (row 1 intI x.1), .c (bool x.2.1)] ∧ ss = [.one (.cells 7 [[int t.facts, row 1 intI t.init, row 1 intI t.goal, row 4 eTOperator t.operators, row 1 eLi64 plans, .own 1 0 x.2.2.1.length, .map 2]]), .one (vec 1 intI x.2.2.1), .one (mapB Value.string (Value.int .i64) x.2.2.2)]) .ret J) ?_ ?_ ?_ ?_
      · try dsimp only
        exact Sub.cut ⟨rfl, rfl, rfl, rfl, rfl, rfl, rfl, rfl, trivial⟩ rfl ⟨.one rfl, .vec, .one rfl, trivial⟩ rfl
      · intro t15 s hlot15 hltt15 _
        obtain ⟨c12, c13, done14⟩ := s
        try dsimp only
        refine AWP.seq ?_
        refine AWP.region ?_
        refine AOps.lss rfl rfl rfl ?_
        refine AOps.nil ?_
        refine thn_normal ?_
        refine AWP.seq ?_
        refine AWP.condNP rfl hltt15 ?_
        refine AWP.exit ?_
        refine thn_exit ?_
        refine thn_exit ⟨rfl, ?_⟩
        exact Sub.env ⟨rfl, rfl, rfl, rfl, trivial⟩
      · intro t15 s o hlot15 hltt15 h
        obtain ⟨c12, c13, done14⟩ := s
        unfold merging_merger_turns_w1_l1 at h
        try dsimp only at h ⊢
        refine AWP.seq ?_
        refine AWP.region ?_
        refine AOps.lss rfl rfl rfl ?_
        refine AOps.nil ?_
        refine thn_normal ?_
        refine AWP.seq ?_
        refine AWP.condP rfl hltt15 ?_
        refine AWP.skip ?_
        refine thn_normal ?_
        refine AWP.seqF (merging_merger_turns_w1_j2) o (fun (c16, c17, done18) => ⟨[(0, .c (.ptr 0 0 0)), (1, .c (row 1 intI sv)), (2, .c (row 1 intI atv)), (8, .c (.imm (.val (.string a18)))), (9, .c (bool done18)), (29, .c (row 1 eLi64 plans)), (30, .c (int (plans.length : Int))), (31, .c (int t15))], [.one (.cells 7 [[int t.facts, row 1 intI t.init, row 1 intI t.goal, row 4 eTOperator t.operators, row 1 eLi64 plans, .own 1 0 c16.length, .map 2]]), .one (vec 1 intI c16), .one (mapB Value.string (Value.int .i64) c17)]⟩) (fun x h => ?_) ?_
        · obtain ⟨c16, c17, done18⟩ := x
          unfold merging_merger_turns_w1_j2 at h
          try dsimp only at h ⊢
          refine AWP.region ?_
          refine AOps.add rfl rfl rfl (by omega) ?_
          refine AOps.move rfl rfl ?_
          refine AOps.nil ?_
          have ej := Option.some.inj h
          subst ej
          refine thn_normal ⟨_, rfl, ?_⟩
          exact Sub.env ⟨rfl, rfl, rfl, rfl, rfl, rfl, rfl, rfl, trivial⟩
        · refine AWP.block ?_
          refine AWP.seq ?_
          obtain ⟨a34, ha34, h⟩ := bind_some h
          refine AWP.region ?_
          refine AOps.move rfl rfl ?_
          refine S.idx ha34 rfl rfl rfl rfl ?_
          refine AOps.loadI rfl rfl rfl rfl ?_
          refine AOps.assign rfl rfl ?_
          refine AOps.assign rfl rfl ?_
          refine AOps.nil ?_
          refine thn_normal ?_
          refine AWP.seq ?_
          refine AWP.seq ?_
          obtain ⟨a38, ha38, h⟩ := bind_some h
          refine AWP.region ?_
          refine AOps.move rfl rfl ?_
          refine AOps.move rfl rfl ?_
          refine S.idx ha38 rfl rfl rfl rfl ?_
          refine AOps.loadI rfl rfl rfl rfl ?_
          refine AOps.move rfl rfl ?_
          refine S.len rfl rfl (fun hl41 => ?_)
          refine AOps.eql rfl rfl rfl ?_
          refine AOps.nil ?_
          refine thn_normal ?_
          refine AWP.ite rfl h (fun hc19 h => ?_) (fun hc19 h => ?_)
          · refine AWP.exit ?_
            refine thn_exit ?_
            refine inB_exit ?_
            refine thn_normal ⟨_, h, ?_⟩
            exact Sub.env ⟨rfl, rfl, rfl, rfl, rfl, rfl, rfl, rfl, trivial⟩
          · refine AWP.skip ?_
            refine thn_normal ?_
            refine AWP.seq ?_
            refine AWP.region ?_
            refine AOps.assign rfl rfl ?_
            refine AOps.nil ?_
            refine thn_normal ?_
            refine AWP.seq ?_
            refine AWP.seq ?_
            obtain ⟨a51, ha51, h⟩ := bind_some h
            obtain ⟨a53, ha53, h⟩ := bind_some h
            obtain ⟨a55, ha55, h⟩ := bind_some h
            refine AWP.drawI mixed rfl ?_
            apply DrawSeq.consF; exact rfl; intro E
            refine AOps.move rfl rfl ?_
            exact AOps.nil ⟨rfl, rfl⟩
            exact rfl
            apply DrawSeq.consF; exact rfl; intro E
            refine AOps.nilCheck rfl rfl rfl ?_
            exact AOps.nil ⟨rfl, rfl⟩
            exact rfl
            apply DrawSeq.consF; exact rfl; intro E
            refine W.fieldAddr rfl rfl rfl rfl ?_
            exact AOps.nil ⟨rfl, rfl⟩
            exact rfl
            apply DrawSeq.consF; exact rfl; intro E
            refine W.loadAgg rfl rfl rfl rfl rfl rfl rfl ?_
            exact AOps.nil ⟨rfl, rfl⟩
            exact rfl
            apply DrawSeq.consF; exact rfl; intro E
            refine AOps.move rfl rfl ?_
            exact AOps.nil ⟨rfl, rfl⟩
            exact rfl
            apply DrawSeq.consF; exact rfl; intro E
            refine AOps.move rfl rfl ?_
            exact AOps.nil ⟨rfl, rfl⟩
            exact rfl
            apply DrawSeq.consF; exact rfl; intro E
            refine AOps.move rfl rfl ?_
            exact AOps.nil ⟨rfl, rfl⟩
            exact rfl
            apply DrawSeq.consF; exact rfl; intro E
            refine AOps.move rfl rfl ?_
            exact AOps.nil ⟨rfl, rfl⟩
            exact rfl
            apply DrawSeq.consF; exact rfl; intro E
            refine S.idx ha51 rfl rfl rfl rfl ?_
            exact AOps.nil ⟨rfl, rfl⟩
            exact rfl
            apply DrawSeq.consF; exact rfl; intro E
            refine AOps.loadI rfl rfl rfl rfl ?_
            exact AOps.nil ⟨rfl, rfl⟩
            exact rfl
            apply DrawSeq.consF; exact rfl; intro E
            refine S.idx ha53 rfl rfl rfl rfl ?_
            exact AOps.nil ⟨rfl, rfl⟩
            exact rfl
            apply DrawSeq.consF; exact rfl; intro E
            refine AOps.loadI rfl rfl rfl rfl ?_
            exact AOps.nil ⟨rfl, rfl⟩
            exact rfl
            apply DrawSeq.consF; exact rfl; intro E
            refine AOps.callR rfl rfl rfl rfl (strips_Can_ok ha55) rfl ?_
            exact AOps.nil ⟨rfl, rfl⟩
            exact rfl
            apply DrawSeq.consF; exact rfl; intro E
            refine AOps.not rfl rfl ?_
            exact AOps.nil ⟨rfl, rfl⟩
            exact rfl
            refine DrawSeq.done ?_
            dsimp only [envEnd]
            refine thn_normal ?_
            refine AWP.iteB rfl h (fun hc20 h => ?_) (fun hc20 h => ?_)
            · refine AWP.exit ?_
              refine thn_exit ?_
              refine inB_exit ?_
              refine thn_normal ⟨_, h, ?_⟩
              exact Sub.env ⟨rfl, rfl, rfl, rfl, rfl, rfl, rfl, rfl, trivial⟩
            · refine AWP.skip ?_
              refine thn_normal ?_
              refine AWP.seq ?_
              obtain ⟨a58, ha58, h⟩ := bind_some h
              refine AWP.region ?_
              refine AOps.move rfl rfl ?_
              refine S.fresh rfl rfl rfl rfl (slices_Clone_int_int_ok ha58) rfl rfl ?_
              refine AOps.assign rfl rfl ?_
              refine AOps.nil ?_
              refine thn_normal ?_
              refine AWP.seq ?_
              obtain ⟨a61, ha61, h⟩ := bind_some h
              obtain ⟨a64, ha64, h⟩ := bind_some h
              refine AWP.region ?_
              refine AOps.move rfl rfl ?_
              refine AOps.move rfl rfl ?_
              refine S.idxO ha61 rfl rfl rfl rfl rfl ?_
              refine S.loadO ha61 rfl rfl rfl rfl rfl ?_
              refine S.add rfl rfl rfl ?_
              refine S.idxO ha64 rfl rfl rfl rfl rfl ?_
              refine S.storeO1 (f := intI) (a' := w64 (a61 + 1)) (ix_lt ha64) (fun _ => ⟨_, rfl⟩) rfl rfl rfl rfl rfl ?_
              refine AOps.nil ?_
              refine thn_normal ?_
              refine AWP.seq ?_
              refine AWP.frzV (id := 3) (l := a58.set t15.toNat (w64 (a61 + 1))) (env2 := [(0, .c (.ptr 0 0 0)), (1, .c (row 1 intI sv)), (2, .c (row 1 intI atv)), (8, .c (.imm (.val (.string a18)))), (9, .c (bool false)), (10, .c (int t15)), (11, .c (row 1 intI a34)), (12, .c (row 1 intI (a58.set t15.toNat (w64 (a61 + 1))))), (29, .c (row 1 eLi64 plans)), (30, .c (int (plans.length : Int))), (31, .c (int t15))]) (σ2 := [.one (.cells 7 [[int t.facts, row 1 intI t.init, row 1 intI t.goal, row 4 eTOperator t.operators, row 1 eLi64 plans, .own 1 0 c12.length, .map 2]]), .one (vec 1 intI c12), .one (mapB Value.string (Value.int .i64) c13), .dead]) rfl rfl (by exact ⟨⟨_, rfl, .inl ⟨rfl, rfl⟩⟩, ⟨_, rfl, .inl ⟨rfl, rfl⟩⟩, ⟨_, rfl, .inl ⟨rfl, rfl⟩⟩, ⟨_, rfl, .inl ⟨rfl, rfl⟩⟩, ⟨_, rfl, .inl ⟨rfl, rfl⟩⟩, ⟨_, rfl, .inl ⟨rfl, rfl⟩⟩, ⟨_, rfl, .inl ⟨rfl, rfl⟩⟩, ⟨_, rfl, .inr ⟨_, rfl, (by simp only [List.length_set]), rfl⟩⟩, ⟨_, rfl, .inl ⟨rfl, rfl⟩⟩, ⟨_, rfl, .inl ⟨rfl, rfl⟩⟩, ⟨_, rfl, .inl ⟨rfl, rfl⟩⟩, trivial⟩) rfl (by exact ⟨⟨rfl, .inl ⟨rfl, rfl⟩, .inl ⟨rfl, rfl⟩, .inl ⟨rfl, rfl⟩, .inl ⟨rfl, rfl⟩, .inl ⟨rfl, rfl⟩, .inl ⟨rfl, rfl⟩, .inl ⟨rfl, rfl⟩, trivial⟩, FrzB.vec, ⟨rfl, rfl⟩, trivial, trivial⟩) ?_
              obtain ⟨a75, ha75, h⟩ := bind_some h
              obtain ⟨a77, ha77, h⟩ := bind_some h
              obtain ⟨a79, ha79, h⟩ := bind_some h
              obtain ⟨a81, ha81, h⟩ := bind_some h
              refine AWP.drawEI [15] mixed rfl rfl rfl ?_
              apply DrawSeqE.consN; exact rfl; exact rfl; intro E
              refine AOps.move rfl rfl ?_
              exact AOps.nil ⟨rfl, rfl⟩
              exact rfl
              apply DrawSeqE.consN; exact rfl; exact rfl; intro E
              refine AOps.move rfl rfl ?_
              exact AOps.nil ⟨rfl, rfl⟩
              exact rfl
              apply DrawSeqE.consN; exact rfl; exact rfl; intro E
              refine AOps.nilCheck rfl rfl rfl ?_
              exact AOps.nil ⟨rfl, rfl⟩
              exact rfl
              apply DrawSeqE.consN; exact rfl; exact rfl; intro E
              refine W.fieldAddr rfl rfl rfl rfl ?_
              exact AOps.nil ⟨rfl, rfl⟩
              exact rfl
              apply DrawSeqE.consN; exact rfl; exact rfl; intro E
              refine W.loadAgg rfl rfl rfl rfl rfl rfl rfl ?_
              exact AOps.nil ⟨rfl, rfl⟩
              exact rfl
              apply DrawSeqE.consN; exact rfl; exact rfl; intro E
              refine AOps.move rfl rfl ?_
              exact AOps.nil ⟨rfl, rfl⟩
              exact rfl
              apply DrawSeqE.consN; exact rfl; exact rfl; intro E
              refine AOps.move rfl rfl ?_
              exact AOps.nil ⟨rfl, rfl⟩
              exact rfl
              apply DrawSeqE.consN; exact rfl; exact rfl; intro E
              refine AOps.move rfl rfl ?_
              exact AOps.nil ⟨rfl, rfl⟩
              exact rfl
              apply DrawSeqE.consN; exact rfl; exact rfl; intro E
              refine AOps.move rfl rfl ?_
              exact AOps.nil ⟨rfl, rfl⟩
              exact rfl
              apply DrawSeqE.consN; exact rfl; exact rfl; intro E
              refine S.idx ha75 rfl rfl rfl rfl ?_
              exact AOps.nil ⟨rfl, rfl⟩
              exact rfl
              apply DrawSeqE.consN; exact rfl; exact rfl; intro E
              refine AOps.loadI rfl rfl rfl rfl ?_
              exact AOps.nil ⟨rfl, rfl⟩
              exact rfl
              apply DrawSeqE.consN; exact rfl; exact rfl; intro E
              refine S.idx ha77 rfl rfl rfl rfl ?_
              exact AOps.nil ⟨rfl, rfl⟩
              exact rfl
              apply DrawSeqE.consN; exact rfl; exact rfl; intro E
              refine AOps.loadI rfl rfl rfl rfl ?_
              exact AOps.nil ⟨rfl, rfl⟩
              exact rfl
              apply DrawSeqE.consN; exact rfl; exact rfl; intro E
              refine AOps.callR rfl rfl rfl rfl (FreshOk.data (strips_Next_ok ha79)) rfl ?_
              exact AOps.nil ⟨rfl, rfl⟩
              exact rfl
              apply DrawSeqE.consN; exact rfl; exact rfl; intro E
              refine AOps.move rfl rfl ?_
              exact AOps.nil ⟨rfl, rfl⟩
              exact rfl
              apply DrawSeqE.consE; exact rfl; exact rfl; intro E
              refine AOps.callF (r2 := .tup [.c (row 1 intI a81.1), .c (bool a81.2.1)]) (σ'' := [.one (.cells 7 [[int t.facts, row 1 intI t.init, row 1 intI t.goal, row 4 eTOperator t.operators, row 1 eLi64 plans, .own 1 0 a81.2.2.1.length, .map 2]]), .one (vec 1 intI a81.2.2.1), .one (mapB Value.string (Value.int .i64) a81.2.2.2), .dead]) rfl rfl rfl (FnOk.lend [0, 1, 2] (hslf _ _ ha81) rfl rfl rfl rfl rfl rfl (by exact ⟨(.one rfl), .vec, (.one rfl), trivial⟩) rfl (by exact ⟨(.live rfl (.one rfl)), (.live rfl .vec), (.live rfl (.one rfl)), trivial⟩) rfl rfl (by exact ⟨(.new 0 rfl rfl (.one rfl)), (.new 1 rfl rfl .vec), (.new 2 rfl rfl (.one rfl)), .dead, trivial⟩)) ?_
              exact AOps.nil ⟨rfl, rfl⟩
              exact rfl
              exact rfl
              apply DrawSeqE.consN; exact rfl; exact rfl; intro E
              refine AOps.move rfl rfl ?_
              exact AOps.nil ⟨rfl, rfl⟩
              exact rfl
              apply DrawSeqE.consN; exact rfl; exact rfl; intro E
              refine AOps.extract rfl rfl rfl ?_
              exact AOps.nil ⟨rfl, rfl⟩
              exact rfl
              apply DrawSeqE.consN; exact rfl; exact rfl; intro E
              refine AOps.extract rfl rfl rfl ?_
              exact AOps.nil ⟨rfl, rfl⟩
              exact rfl
              apply DrawSeqE.consN; exact rfl; exact rfl; intro E
              refine AOps.assign rfl rfl ?_
              exact AOps.nil ⟨rfl, rfl⟩
              exact rfl
              apply DrawSeqE.consN; exact rfl; exact rfl; intro E
              refine AOps.assign rfl rfl ?_
              exact AOps.nil ⟨rfl, rfl⟩
              exact rfl
              refine DrawSeqE.done rfl ?_ ?_
              · apply RestI.cons; exact rfl; exact rfl
                first | refine RestK.skip rfl ?_ | (apply RestK.go; exact rfl; exact rfl; intro E; (refine AOps.move rfl rfl ?_); exact AOps.nil ⟨rfl, rfl⟩)
                first | refine RestK.skip rfl ?_ | (apply RestK.go; exact rfl; exact rfl; intro E; (refine AOps.move rfl rfl ?_); exact AOps.nil ⟨rfl, rfl⟩)
                exact RestK.nil
                apply RestI.cons; exact rfl; exact rfl
                first | refine RestK.skip rfl ?_ | (apply RestK.go; exact rfl; exact rfl; intro E; (refine AOps.move rfl rfl ?_); exact AOps.nil ⟨rfl, rfl⟩)
                first | refine RestK.skip rfl ?_ | (apply RestK.go; exact rfl; exact rfl; intro E; (refine AOps.move rfl rfl ?_); exact AOps.nil ⟨rfl, rfl⟩)
                exact RestK.nil
                apply RestI.cons; exact rfl; exact rfl
                first | refine RestK.skip rfl ?_ | (apply RestK.go; exact rfl; exact rfl; intro E; (refine AOps.nilCheck rfl rfl rfl ?_); exact AOps.nil ⟨rfl, rfl⟩)
                first | refine RestK.skip rfl ?_ | (apply RestK.go; exact rfl; exact rfl; intro E; (refine AOps.nilCheck rfl rfl rfl ?_); exact AOps.nil ⟨rfl, rfl⟩)
                exact RestK.nil
                apply RestI.cons; exact rfl; exact rfl
                first | refine RestK.skip rfl ?_ | (apply RestK.go; exact rfl; exact rfl; intro E; (refine W.fieldAddr rfl rfl rfl rfl ?_); exact AOps.nil ⟨rfl, rfl⟩)
                first | refine RestK.skip rfl ?_ | (apply RestK.go; exact rfl; exact rfl; intro E; (refine W.fieldAddr rfl rfl rfl rfl ?_); exact AOps.nil ⟨rfl, rfl⟩)
                exact RestK.nil
                apply RestI.cons; exact rfl; exact rfl
                first | refine RestK.skip rfl ?_ | (apply RestK.go; exact rfl; exact rfl; intro E; (refine W.loadAgg rfl rfl rfl rfl rfl rfl rfl ?_); exact AOps.nil ⟨rfl, rfl⟩)
                first | refine RestK.skip rfl ?_ | (apply RestK.go; exact rfl; exact rfl; intro E; (refine W.loadAgg rfl rfl rfl rfl rfl rfl rfl ?_); exact AOps.nil ⟨rfl, rfl⟩)
                exact RestK.nil
                apply RestI.cons; exact rfl; exact rfl
                first | refine RestK.skip rfl ?_ | (apply RestK.go; exact rfl; exact rfl; intro E; (refine AOps.move rfl rfl ?_); exact AOps.nil ⟨rfl, rfl⟩)
                first | refine RestK.skip rfl ?_ | (apply RestK.go; exact rfl; exact rfl; intro E; (refine AOps.move rfl rfl ?_); exact AOps.nil ⟨rfl, rfl⟩)
                exact RestK.nil
                apply RestI.cons; exact rfl; exact rfl
                first | refine RestK.skip rfl ?_ | (apply RestK.go; exact rfl; exact rfl; intro E; (refine AOps.move rfl rfl ?_); exact AOps.nil ⟨rfl, rfl⟩)
                first | refine RestK.skip rfl ?_ | (apply RestK.go; exact rfl; exact rfl; intro E; (refine AOps.move rfl rfl ?_); exact AOps.nil ⟨rfl, rfl⟩)
                exact RestK.nil
                apply RestI.cons; exact rfl; exact rfl
                first | refine RestK.skip rfl ?_ | (apply RestK.go; exact rfl; exact rfl; intro E; (refine AOps.move rfl rfl ?_); exact AOps.nil ⟨rfl, rfl⟩)
                first | refine RestK.skip rfl ?_ | (apply RestK.go; exact rfl; exact rfl; intro E; (refine AOps.move rfl rfl ?_); exact AOps.nil ⟨rfl, rfl⟩)
                exact RestK.nil
                apply RestI.cons; exact rfl; exact rfl
                first | refine RestK.skip rfl ?_ | (apply RestK.go; exact rfl; exact rfl; intro E; (refine AOps.move rfl rfl ?_); exact AOps.nil ⟨rfl, rfl⟩)
                first | refine RestK.skip rfl ?_ | (apply RestK.go; exact rfl; exact rfl; intro E; (refine AOps.move rfl rfl ?_); exact AOps.nil ⟨rfl, rfl⟩)
                exact RestK.nil
                apply RestI.cons; exact rfl; exact rfl
                first | refine RestK.skip rfl ?_ | (apply RestK.go; exact rfl; exact rfl; intro E; (refine S.idx ha75 rfl rfl rfl rfl ?_); exact AOps.nil ⟨rfl, rfl⟩)
                first | refine RestK.skip rfl ?_ | (apply RestK.go; exact rfl; exact rfl; intro E; (refine S.idx ha75 rfl rfl rfl rfl ?_); exact AOps.nil ⟨rfl, rfl⟩)
                exact RestK.nil
                apply RestI.cons; exact rfl; exact rfl
                first | refine RestK.skip rfl ?_ | (apply RestK.go; exact rfl; exact rfl; intro E; (refine AOps.loadI rfl rfl rfl rfl ?_); exact AOps.nil ⟨rfl, rfl⟩)
                first | refine RestK.skip rfl ?_ | (apply RestK.go; exact rfl; exact rfl; intro E; (refine AOps.loadI rfl rfl rfl rfl ?_); exact AOps.nil ⟨rfl, rfl⟩)
                exact RestK.nil
                apply RestI.cons; exact rfl; exact rfl
                first | refine RestK.skip rfl ?_ | (apply RestK.go; exact rfl; exact rfl; intro E; (refine S.idx ha77 rfl rfl rfl rfl ?_); exact AOps.nil ⟨rfl, rfl⟩)
                first | refine RestK.skip rfl ?_ | (apply RestK.go; exact rfl; exact rfl; intro E; (refine S.idx ha77 rfl rfl rfl rfl ?_); exact AOps.nil ⟨rfl, rfl⟩)
                exact RestK.nil
                apply RestI.cons; exact rfl; exact rfl
                first | refine RestK.skip rfl ?_ | (apply RestK.go; exact rfl; exact rfl; intro E; (refine AOps.loadI rfl rfl rfl rfl ?_); exact AOps.nil ⟨rfl, rfl⟩)
                first | refine RestK.skip rfl ?_ | (apply RestK.go; exact rfl; exact rfl; intro E; (refine AOps.loadI rfl rfl rfl rfl ?_); exact AOps.nil ⟨rfl, rfl⟩)
                exact RestK.nil
                apply RestI.cons; exact rfl; exact rfl
                first | refine RestK.skip rfl ?_ | (apply RestK.go; exact rfl; exact rfl; intro E; (refine AOps.callR rfl rfl rfl rfl (FreshOk.data (strips_Next_ok ha79)) rfl ?_); exact AOps.nil ⟨rfl, rfl⟩)
                first | refine RestK.skip rfl ?_ | (apply RestK.go; exact rfl; exact rfl; intro E; (refine AOps.callR rfl rfl rfl rfl (FreshOk.data (strips_Next_ok ha79)) rfl ?_); exact AOps.nil ⟨rfl, rfl⟩)
                exact RestK.nil
                apply RestI.cons; exact rfl; exact rfl
                first | refine RestK.skip rfl ?_ | (apply RestK.go; exact rfl; exact rfl; intro E; (refine AOps.move rfl rfl ?_); exact AOps.nil ⟨rfl, rfl⟩)
                first | refine RestK.skip rfl ?_ | (apply RestK.go; exact rfl; exact rfl; intro E; (refine AOps.move rfl rfl ?_); exact AOps.nil ⟨rfl, rfl⟩)
                exact RestK.nil
                refine RestI.skip rfl ?_
                apply RestI.cons; exact rfl; exact rfl
                first | refine RestK.skip rfl ?_ | (apply RestK.go; exact rfl; exact rfl; intro E; (refine AOps.move rfl rfl ?_); exact AOps.nil ⟨rfl, rfl⟩)
                first | refine RestK.skip rfl ?_ | (apply RestK.go; exact rfl; exact rfl; intro E; (refine AOps.move rfl rfl ?_); exact AOps.nil ⟨rfl, rfl⟩)
                exact RestK.nil
                apply RestI.cons; exact rfl; exact rfl
                first | refine RestK.skip rfl ?_ | (apply RestK.go; exact rfl; exact rfl; intro E; (refine AOps.extract rfl rfl rfl ?_); exact AOps.nil ⟨rfl, rfl⟩)
                first | refine RestK.skip rfl ?_ | (apply RestK.go; exact rfl; exact rfl; intro E; (refine AOps.extract rfl rfl rfl ?_); exact AOps.nil ⟨rfl, rfl⟩)
                exact RestK.nil
                apply RestI.cons; exact rfl; exact rfl
                first | refine RestK.skip rfl ?_ | (apply RestK.go; exact rfl; exact rfl; intro E; (refine AOps.extract rfl rfl rfl ?_); exact AOps.nil ⟨rfl, rfl⟩)
                first | refine RestK.skip rfl ?_ | (apply RestK.go; exact rfl; exact rfl; intro E; (refine AOps.extract rfl rfl rfl ?_); exact AOps.nil ⟨rfl, rfl⟩)
                exact RestK.nil
                apply RestI.cons; exact rfl; exact rfl
                first | refine RestK.skip rfl ?_ | (apply RestK.go; exact rfl; exact rfl; intro E; (refine AOps.assign rfl rfl ?_); exact AOps.nil ⟨rfl, rfl⟩)
                first | refine RestK.skip rfl ?_ | (apply RestK.go; exact rfl; exact rfl; intro E; (refine AOps.assign rfl rfl ?_); exact AOps.nil ⟨rfl, rfl⟩)
                exact RestK.nil
                apply RestI.cons; exact rfl; exact rfl
                first | refine RestK.skip rfl ?_ | (apply RestK.go; exact rfl; exact rfl; intro E; (refine AOps.assign rfl rfl ?_); exact AOps.nil ⟨rfl, rfl⟩)
                first | refine RestK.skip rfl ?_ | (apply RestK.go; exact rfl; exact rfl; intro E; (refine AOps.assign rfl rfl ?_); exact AOps.nil ⟨rfl, rfl⟩)
                exact RestK.nil
                exact RestI.nil
              dsimp only [envEnd]
              refine thn_normal ?_
              refine AWP.seq ?_
              refine AWP.region ?_
              refine AOps.move rfl rfl ?_
              refine AOps.nil ?_
              refine thn_normal ?_
              refine AWP.iteB rfl h (fun hc21 h => ?_) (fun hc21 h => ?_)
              · refine AWP.seq ?_
                obtain ⟨a88, ha88, h⟩ := bind_some h
                refine AWP.region ?_
                refine AOps.move rfl rfl ?_
                refine S.lit (f := intI) (l := [t15]) (ess := [[int t15]]) rfl rfl rfl rfl rfl rfl rfl ⟨⟨.inl rfl, trivial⟩, trivial⟩ rfl rfl rfl ?_
                refine AOps.move rfl rfl ?_
                refine S.append (f := intI) ha88 rfl rfl rfl rfl rfl rfl .row rfl rfl rfl rfl ?_
                refine AOps.assign rfl rfl ?_
                refine AOps.assign rfl rfl ?_
                refine AOps.nil ?_
                refine thn_normal ?_
                refine AWP.frzV (id := 5) (l := a88) (env2 := [(6, .c (row 1 intI a88)), (7, .c (bool true))]) (σ2 := [.one (.cells 7 [[int t.facts, row 1 intI t.init, row 1 intI t.goal, row 4 eTOperator t.operators, row 1 eLi64 plans, .own 1 0 a81.2.2.1.length, .map 2]]), .one (vec 1 intI a81.2.2.1), .one (mapB Value.string (Value.int .i64) a81.2.2.2), .dead, .dead, .dead]) rfl rfl (by exact ⟨⟨_, rfl, .inr ⟨_, rfl, rfl, rfl⟩⟩, ⟨_, rfl, .inl ⟨rfl, rfl⟩⟩, trivial⟩) rfl (by exact ⟨⟨rfl, .inl ⟨rfl, rfl⟩, .inl ⟨rfl, rfl⟩, .inl ⟨rfl, rfl⟩, .inl ⟨rfl, rfl⟩, .inl ⟨rfl, rfl⟩, .inl ⟨rfl, rfl⟩, .inl ⟨rfl, rfl⟩, trivial⟩, FrzB.vec, ⟨rfl, rfl⟩, trivial, trivial, trivial, trivial⟩) ?_
                refine AWP.ret ?_
                refine inB_ret ?_
                refine thn_ret ?_
                have ej := Option.some.inj h
                subst ej
                refine thn_ret ⟨_, rfl, rfl, ?_⟩
                exact ⟨⟨[(6, .c (row 1 intI a88)), (7, .c (bool true))], [.one (.cells 7 [[int t.facts, row 1 intI t.init, row 1 intI t.goal, row 4 eTOperator t.operators, row 1 eLi64 plans, .own 1 0 a81.2.2.1.length, .map 2]]), .one (vec 1 intI a81.2.2.1), .one (mapB Value.string (Value.int .i64) a81.2.2.2)]⟩, Sub.cut ⟨rfl, rfl, trivial⟩ rfl ⟨.one rfl, .vec, .one rfl, trivial⟩ rfl, Done.ret rfl ⟨rfl, rfl⟩⟩
              · refine AWP.skip ?_
                refine inB_normal ?_
                refine thn_normal ⟨_, h, ?_⟩
                exact Sub.cut ⟨rfl, rfl, rfl, rfl, rfl, rfl, rfl, rfl, trivial⟩ rfl ⟨.one rfl, .vec, .one rfl, trivial⟩ rfl
      · intro e s hq
        rcases oo with ⟨c12, c13, done14⟩ | x
        · try dsimp only at h hq
          obtain ⟨rfl, hs⟩ := hq
          refine ⟨_, hs, ?_⟩
          refine inB_exit ?_
          refine thn_normal ?_
          refine AWP.seq ?_
          obtain ⟨t22, hx23, h⟩ := bind_some h
          refine AWP.seqJ (⟨[(0, .c (.ptr 0 0 0)), (8, .c (.imm (.val (.string a18)))), (98, .c (bool t22))], [.one (.cells 7 [[int t.facts, row 1 intI t.init, row 1 intI t.goal, row 4 eTOperator t.operators, row 1 eLi64 plans, .own 1 0 c12.length, .map 2]]), .one (vec 1 intI c12), .one (mapB Value.string (Value.int .i64) c13)]⟩) ?_ ?_
          · rcases Bool.eq_false_or_eq_true (done14) with hb24 | hb24
            · replace hx23 := iteBT hb24 hx23
              obtain ⟨a97, ha97, hx23⟩ := bind_some hx23
              refine AWP.region ?_
              refine AOps.move rfl rfl ?_
              refine AOps.move rfl rfl ?_
              refine AOps.guardT rfl rfl rfl hb24 ?_; refine AOps.move rfl rfl ?_
              refine AOps.guardT rfl rfl rfl hb24 ?_; refine AOps.move rfl rfl ?_
              refine AOps.guardT rfl rfl rfl hb24 ?_; refine AOps.nilCheck rfl rfl rfl ?_
              refine AOps.guardT rfl rfl rfl hb24 ?_; refine W.fieldAddr rfl rfl rfl rfl ?_
              refine AOps.guardT rfl rfl rfl hb24 ?_; refine AOps.load rfl rfl rfl rfl rfl rfl ?_
              refine AOps.guardT rfl rfl rfl hb24 ?_; refine AOps.callL rfl rfl (.cons (.c .imm) (.cons (.c (.own rfl rfl)) .nil)) rfl (strips_Contains_ok ha97) rfl ?_
              refine AOps.pickT rfl hb24 rfl rfl ?_
              refine AOps.nil ?_
              have ej := Option.some.inj hx23
              subst ej
              refine thn_normal ?_
              exact Sub.env ⟨rfl, rfl, rfl, trivial⟩
            · replace hx23 := iteBF hb24 hx23
              refine AWP.region ?_
              refine AOps.move rfl rfl ?_
              refine AOps.move rfl rfl ?_
              refine AOps.guardF rfl rfl rfl hb24 ?_
              refine AOps.guardF rfl rfl rfl hb24 ?_
              refine AOps.guardF rfl rfl rfl hb24 ?_
              refine AOps.guardF rfl rfl rfl hb24 ?_
              refine AOps.guardF rfl rfl rfl hb24 ?_
              refine AOps.guardF rfl rfl rfl hb24 ?_
              refine AOps.pickF rfl hb24 rfl rfl ?_
              refine AOps.nil ?_
              have ej := Option.some.inj hx23
              subst ej
              refine thn_normal ?_
              exact Sub.env ⟨rfl, rfl, rfl, trivial⟩
          · refine AWP.iteB rfl h (fun hc25 h => ?_) (fun hc25 h => ?_)
            · refine AWP.seq ?_
              refine AWP.region ?_
              refine AOps.assign rfl rfl ?_
              refine AOps.assign rfl rfl ?_
              refine AOps.nil ?_
              refine thn_normal ?_
              refine AWP.nilrow 1 6 rfl ?_
              refine AWP.ret ?_
              refine thn_ret ?_
              have ej := Option.some.inj h
              subst ej
              exact ⟨⟨[(6, .c (row 1 intI [])), (7, .c (bool true))], [.one (.cells 7 [[int t.facts, row 1 intI t.init, row 1 intI t.goal, row 4 eTOperator t.operators, row 1 eLi64 plans, .own 1 0 c12.length, .map 2]]), .one (vec 1 intI c12), .one (mapB Value.string (Value.int .i64) c13)]⟩, Sub.env ⟨rfl, rfl, trivial⟩, Done.ret rfl ⟨rfl, rfl⟩⟩
            · refine AWP.skip ?_
              refine thn_normal ?_
              refine AWP.seq ?_
              refine AWP.region ?_
              refine AOps.move rfl rfl ?_
              refine AOps.nilCheck rfl rfl rfl ?_
              refine W.fieldAddr rfl rfl rfl rfl ?_
              refine AOps.load rfl rfl rfl rfl rfl rfl ?_
              refine AOps.move rfl rfl ?_
              refine W.mapUpdate (fk := Value.string) (fv := (Value.int .i64)) (k := a18) (a := 1) keyStr rfl rfl rfl rfl rfl ?_
              refine AOps.nil ?_
              refine thn_normal ?_
              refine AWP.seq ?_
              refine AWP.region ?_
              refine AOps.assign rfl rfl ?_
              refine AOps.assign rfl rfl ?_
              refine AOps.nil ?_
              refine thn_normal ?_
              refine AWP.nilrow 1 6 rfl ?_
              refine AWP.ret ?_
              have ej := Option.some.inj h
              subst ej
              exact ⟨⟨[(6, .c (row 1 intI [])), (7, .c (bool false))], [.one (.cells 7 [[int t.facts, row 1 intI t.init, row 1 intI t.goal, row 4 eTOperator t.operators, row 1 eLi64 plans, .own 1 0 c12.length, .map 2]]), .one (vec 1 intI c12), .one (mapB Value.string (Value.int .i64) (mset c13 a18 1))]⟩, Sub.env ⟨rfl, rfl, trivial⟩, Done.ret rfl ⟨rfl, rfl⟩⟩
        · try dsimp only at h hq
          obtain ⟨rfl, hs⟩ := hq
          refine ⟨_, Sub.refl _ _, ?_⟩
          refine inB_ret ?_
          refine thn_ret ?_
          have ej := Option.some.inj h
          subst ej
          exact hs
theorem merging_merger_turns_w1_ok {sv : List Int} {atv : List Int} {t : TTask} {plans : List (List Int)} {l : List Int} {l6 : List (ByteArray × Int)} {r : (List Int) × Bool × (List Int) × (List (ByteArray × Int))} (h : merging_merger_turns_w1 sv atv t plans l l6 = some r) : FnOk Tryd.prog 25 [.c (.ptr 0 0 0), .c (row 1 intI sv), .c (row 1 intI atv)] (merging_merger_turns_w1_s0 sv atv t plans l l6) (fun tt ss => tt = .tup [.c (row 1 intI r.1), .c (bool r.2.1)] ∧ ss = [.one (.cells 7 [[int t.facts, row 1 intI t.init, row 1 intI t.goal, row 4 eTOperator t.operators, row 1 eLi64 plans, .own 1 0 r.2.2.1.length, .map 2]]), .one (vec 1 intI r.2.2.1), .one (mapB Value.string (Value.int .i64) r.2.2.2)]) := by
  obtain ⟨n, hn⟩ := Rec_some h
  exact merging_merger_turns_w1_okN n _ r hn
theorem merging_merger_turns_w_ok {sv : List Int} {t : TTask} {plans : List (List Int)} {l : List Int} {l5 : List Int} {l6 : List (ByteArray × Int)} {r : (List Int) × (List (ByteArray × Int)) × (List Int) × Bool} (h : merging_merger_turns_w sv t plans l l5 l6 = some r) : FnOk Tryd.prog 25 [.c (.ptr 0 0 0), .c (row 1 intI sv), .c (.own 1 0 l.length)] (merging_merger_turns_w_s0 sv t plans l l5 l6) (fun tt ss => tt = .tup [.c (row 1 intI r.2.2.1), .c (bool r.2.2.2)] ∧ ss = [.one (.cells 7 [[int t.facts, row 1 intI t.init, row 1 intI t.goal, row 4 eTOperator t.operators, row 1 eLi64 plans, .own 2 0 r.1.length, .map 3]]), .dead, .one (vec 1 intI r.1), .one (mapB Value.string (Value.int .i64) r.2.1)]) := by
  refine FnOk.enter (rs := [.t 6, .t 7]) Tryd.func25 rfl Tryd.ntmps25 Tryd.results25 rfl ⟨trivial, trivial, trivial⟩ (by kernel_rfl) rfl ?_
  refine AWP.weak ?_
  unfold merging_merger_turns_w at h
  refine AWP.move (env' := [(0, .c (.ptr 0 0 0)), (1, .c (row 1 intI sv)), (2, .c (.own 4 0 l.length))]) (σ' := [.one (.cells 7 [[int t.facts, row 1 intI t.init, row 1 intI t.goal, row 4 eTOperator t.operators, row 1 eLi64 plans, .own 2 0 l5.length, .map 3]]), .dead, .one (vec 1 intI l5), .one (mapB Value.string (Value.int .i64) l6), .one (vec 1 intI l)]) 4 1 rfl rfl rfl ⟨rfl, rfl, rfl, trivial⟩ rfl ⟨⟨rfl, rfl⟩, trivial, ⟨Blk.im_ok _ _ _, vec_mv rfl⟩, ⟨rfl, rfl⟩, ⟨Blk.im_ok _ _ _, vec_mv rfl⟩, trivial⟩ ?_
  refine AWP.seq ?_
  refine AWP.region ?_
  refine AOps.assign rfl rfl ?_
  refine AOps.assign rfl rfl ?_
  refine AOps.nil ?_
  refine thn_normal ?_
  refine AWP.seq ?_
  obtain ⟨a18, ha18, h⟩ := bind_some h
  refine AWP.region ?_
  refine AOps.move rfl rfl ?_
  refine AOps.move rfl rfl ?_
  refine AOps.frzV (id := 4) (l := l) (env2 := [(0, .c (.ptr 0 0 0)), (1, .c (row 1 intI sv)), (2, .c (row 1 intI l)), (15, .c (row 1 intI sv)), (16, .c (row 1 intI l))]) (σ2 := [.one (.cells 7 [[int t.facts, row 1 intI t.init, row 1 intI t.goal, row 4 eTOperator t.operators, row 1 eLi64 plans, .own 2 0 l5.length, .map 3]]), .dead, .one (vec 1 intI l5), .one (mapB Value.string (Value.int .i64) l6), .dead]) rfl rfl (by exact ⟨⟨_, rfl, .inl ⟨rfl, rfl⟩⟩, ⟨_, rfl, .inl ⟨rfl, rfl⟩⟩, ⟨_, rfl, .inr ⟨_, rfl, rfl, rfl⟩⟩, ⟨_, rfl, .inl ⟨rfl, rfl⟩⟩, ⟨_, rfl, .inr ⟨_, rfl, rfl, rfl⟩⟩, trivial⟩) rfl (by exact ⟨⟨rfl, .inl ⟨rfl, rfl⟩, .inl ⟨rfl, rfl⟩, .inl ⟨rfl, rfl⟩, .inl ⟨rfl, rfl⟩, .inl ⟨rfl, rfl⟩, .inl ⟨rfl, rfl⟩, .inl ⟨rfl, rfl⟩, trivial⟩, trivial, FrzB.vec, ⟨rfl, rfl⟩, trivial, trivial⟩) ?_; refine S.lit (f := eLi64) (l := [sv, l]) (ess := [[row 1 intI sv], [row 1 intI l]]) rfl rfl rfl rfl rfl rfl rfl ⟨⟨.inl rfl, trivial⟩, ⟨.inl rfl, trivial⟩, trivial⟩ rfl rfl rfl ?_
  refine AOps.callL rfl rfl (.cons (.c (.own rfl rfl)) .nil) rfl (belief_Key_ok ha18) rfl ?_
  refine AOps.assign rfl rfl ?_
  refine AOps.nil ?_
  refine thn_normal ?_
  refine AWP.seq ?_
  refine AWP.seq ?_
  refine AWP.region ?_
  refine AOps.move rfl rfl ?_
  refine AOps.nilCheck rfl rfl rfl ?_
  refine W.fieldAddr rfl rfl rfl rfl ?_
  refine AOps.load rfl rfl rfl rfl rfl rfl ?_
  refine AOps.move rfl rfl ?_
  refine W.lookup (fk := Value.string) (fv := (Value.int .i64)) (k := a18) (z := 0) keyStr rfl (fun _ => rfl) rfl rfl rfl rfl ?_
  refine AOps.gtr rfl rfl rfl ?_
  refine AOps.nil ?_
  refine thn_normal ?_
  refine AWP.ite rfl h (fun hc61 h => ?_) (fun hc61 h => ?_)
  · refine AWP.seq ?_
    refine AWP.region ?_
    refine AOps.assign rfl rfl ?_
    refine AOps.assign rfl rfl ?_
    refine AOps.nil ?_
    refine thn_normal ?_
    refine AWP.nilrow 1 6 rfl ?_
    refine AWP.ret ?_
    refine thn_ret ?_
    have ej := Option.some.inj h
    subst ej
    exact ⟨⟨[(6, .c (row 1 intI [])), (7, .c (bool false))], [.one (.cells 7 [[int t.facts, row 1 intI t.init, row 1 intI t.goal, row 4 eTOperator t.operators, row 1 eLi64 plans, .own 2 0 l5.length, .map 3]]), .dead, .one (vec 1 intI l5), .one (mapB Value.string (Value.int .i64) l6)]⟩, Sub.cut ⟨rfl, rfl, trivial⟩ rfl ⟨.one rfl, .dead, .vec, .one rfl, trivial⟩ rfl, Done.ret rfl ⟨rfl, rfl⟩⟩
  · refine AWP.skip ?_
    refine thn_normal ?_
    refine AWP.seq ?_
    refine AWP.region ?_
    refine AOps.assign rfl rfl ?_
    refine AOps.nil ?_
    refine thn_normal ?_
    refine AWP.seq ?_
    refine AWP.seq ?_
    refine AWP.region ?_
    refine AOps.move rfl rfl ?_
    refine AOps.nilCheck rfl rfl rfl ?_
    refine W.fieldAddr rfl rfl rfl rfl ?_
    refine AOps.load rfl rfl rfl rfl rfl rfl ?_
    refine S.len rfl rfl (fun hl30 => ?_)
    refine AOps.move rfl rfl ?_
    refine AOps.nil ?_
    refine thn_normal ?_
    refine AWP.block ?_
    obtain ⟨oo, ho1, h⟩ := bind_some h
    refine AWP.rngS ho1 (fun t65 (c62, c63, done64) => ⟨[(0, .c (.ptr 0 0 0)), (1, .c (row 1 intI sv)), (2, .c (row 1 intI l)), (8, .c (.imm (.val (.string a18)))), (9, .c (bool done64)), (29, .c (row 1 eLi64 plans)), (30, .c (int (plans.length : Int))), (31, .c (int t65))], [.one (.cells 7 [[int t.facts, row 1 intI t.init, row 1 intI t.goal, row 4 eTOperator t.operators, row 1 eLi64 plans, .own 2 0 c62.length, .map 3]]), .dead, .one (vec 1 intI c62), .one (mapB Value.string (Value.int .i64) c63)]⟩) (fun o e st => match o with | .inl (c62, c63, done64) => e = .exit 0 ∧ Sub (merging_merger_turns_w_s0 sv t plans l l5 l6) st ⟨[(0, .c (.ptr 0 0 0)), (1, .c (row 1 intI sv)), (8, .c (.imm (.val (.string a18)))), (9, .c (bool done64))], [.one (.cells 7 [[int t.facts, row 1 intI t.init, row 1 intI t.goal, row 4 eTOperator t.operators, row 1 eLi64 plans, .own 2 0 c62.length, .map 3]]), .dead, .one (vec 1 intI c62), .one (mapB Value.string (Value.int .i64) c63)]⟩ | .inr x => e = .ret ∧ ∃ J, Sub (merging_merger_turns_w_s0 sv t plans l l5 l6) st J ∧ Done [.t 6, .t 7] (fun tt ss => tt = .tup [.c (row 1 intI x.2.2.1), .c (bool x.2.2.2)] ∧ ss = [.one (.cells 7 [[int t.facts, row 1 intI t.init, row 1 intI t.goal, row 4 eTOperator t.operators, row 1 eLi64 plans, .own 2 0 x.1.length, .map 3]]), .dead, .one (vec 1 intI x.1), .one (mapB Value.string (Value.int .i64) x.2.1)]) .ret J) ?_ ?_ ?_ ?_
    · try dsimp only
      exact Sub.cut ⟨rfl, rfl, rfl, rfl, rfl, rfl, rfl, rfl, trivial⟩ rfl ⟨.one rfl, .dead, .vec, .one rfl, trivial⟩ rfl
    · intro t65 s hlot65 hltt65 _
      obtain ⟨c62, c63, done64⟩ := s
      try dsimp only
      refine AWP.seq ?_
      refine AWP.region ?_
      refine AOps.lss rfl rfl rfl ?_
      refine AOps.nil ?_
      refine thn_normal ?_
      refine AWP.seq ?_
      refine AWP.condNP rfl hltt65 ?_
      refine AWP.exit ?_
      refine thn_exit ?_
      refine thn_exit ⟨rfl, ?_⟩
      exact Sub.env ⟨rfl, rfl, rfl, rfl, trivial⟩
    · intro t65 s o hlot65 hltt65 h
      obtain ⟨c62, c63, done64⟩ := s
      unfold merging_merger_turns_w_l1 at h
      try dsimp only at h ⊢
      refine AWP.seq ?_
      refine AWP.region ?_
      refine AOps.lss rfl rfl rfl ?_
      refine AOps.nil ?_
      refine thn_normal ?_
      refine AWP.seq ?_
      refine AWP.condP rfl hltt65 ?_
      refine AWP.skip ?_
      refine thn_normal ?_
      refine AWP.seqF (merging_merger_turns_w_j2) o (fun (c66, c67, done68) => ⟨[(0, .c (.ptr 0 0 0)), (1, .c (row 1 intI sv)), (2, .c (row 1 intI l)), (8, .c (.imm (.val (.string a18)))), (9, .c (bool done68)), (29, .c (row 1 eLi64 plans)), (30, .c (int (plans.length : Int))), (31, .c (int t65))], [.one (.cells 7 [[int t.facts, row 1 intI t.init, row 1 intI t.goal, row 4 eTOperator t.operators, row 1 eLi64 plans, .own 2 0 c66.length, .map 3]]), .dead, .one (vec 1 intI c66), .one (mapB Value.string (Value.int .i64) c67)]⟩) (fun x h => ?_) ?_
      · obtain ⟨c66, c67, done68⟩ := x
        unfold merging_merger_turns_w_j2 at h
        try dsimp only at h ⊢
        refine AWP.region ?_
        refine AOps.add rfl rfl rfl (by omega) ?_
        refine AOps.move rfl rfl ?_
        refine AOps.nil ?_
        have ej := Option.some.inj h
        subst ej
        refine thn_normal ⟨_, rfl, ?_⟩
        exact Sub.env ⟨rfl, rfl, rfl, rfl, rfl, rfl, rfl, rfl, trivial⟩
      · refine AWP.block ?_
        refine AWP.seq ?_
        obtain ⟨a34, ha34, h⟩ := bind_some h
        refine AWP.region ?_
        refine AOps.move rfl rfl ?_
        refine S.idx ha34 rfl rfl rfl rfl ?_
        refine AOps.loadI rfl rfl rfl rfl ?_
        refine AOps.assign rfl rfl ?_
        refine AOps.assign rfl rfl ?_
        refine AOps.nil ?_
        refine thn_normal ?_
        refine AWP.seq ?_
        refine AWP.seq ?_
        obtain ⟨a38, ha38, h⟩ := bind_some h
        refine AWP.region ?_
        refine AOps.move rfl rfl ?_
        refine AOps.move rfl rfl ?_
        refine S.idx ha38 rfl rfl rfl rfl ?_
        refine AOps.loadI rfl rfl rfl rfl ?_
        refine AOps.move rfl rfl ?_
        refine S.len rfl rfl (fun hl41 => ?_)
        refine AOps.eql rfl rfl rfl ?_
        refine AOps.nil ?_
        refine thn_normal ?_
        refine AWP.ite rfl h (fun hc69 h => ?_) (fun hc69 h => ?_)
        · refine AWP.exit ?_
          refine thn_exit ?_
          refine inB_exit ?_
          refine thn_normal ⟨_, h, ?_⟩
          exact Sub.env ⟨rfl, rfl, rfl, rfl, rfl, rfl, rfl, rfl, trivial⟩
        · refine AWP.skip ?_
          refine thn_normal ?_
          refine AWP.seq ?_
          refine AWP.region ?_
          refine AOps.assign rfl rfl ?_
          refine AOps.nil ?_
          refine thn_normal ?_
          refine AWP.seq ?_
          refine AWP.seq ?_
          obtain ⟨a51, ha51, h⟩ := bind_some h
          obtain ⟨a53, ha53, h⟩ := bind_some h
          obtain ⟨a55, ha55, h⟩ := bind_some h
          refine AWP.drawI mixed rfl ?_
          apply DrawSeq.consF; exact rfl; intro E
          refine AOps.move rfl rfl ?_
          exact AOps.nil ⟨rfl, rfl⟩
          exact rfl
          apply DrawSeq.consF; exact rfl; intro E
          refine AOps.nilCheck rfl rfl rfl ?_
          exact AOps.nil ⟨rfl, rfl⟩
          exact rfl
          apply DrawSeq.consF; exact rfl; intro E
          refine W.fieldAddr rfl rfl rfl rfl ?_
          exact AOps.nil ⟨rfl, rfl⟩
          exact rfl
          apply DrawSeq.consF; exact rfl; intro E
          refine W.loadAgg rfl rfl rfl rfl rfl rfl rfl ?_
          exact AOps.nil ⟨rfl, rfl⟩
          exact rfl
          apply DrawSeq.consF; exact rfl; intro E
          refine AOps.move rfl rfl ?_
          exact AOps.nil ⟨rfl, rfl⟩
          exact rfl
          apply DrawSeq.consF; exact rfl; intro E
          refine AOps.move rfl rfl ?_
          exact AOps.nil ⟨rfl, rfl⟩
          exact rfl
          apply DrawSeq.consF; exact rfl; intro E
          refine AOps.move rfl rfl ?_
          exact AOps.nil ⟨rfl, rfl⟩
          exact rfl
          apply DrawSeq.consF; exact rfl; intro E
          refine AOps.move rfl rfl ?_
          exact AOps.nil ⟨rfl, rfl⟩
          exact rfl
          apply DrawSeq.consF; exact rfl; intro E
          refine S.idx ha51 rfl rfl rfl rfl ?_
          exact AOps.nil ⟨rfl, rfl⟩
          exact rfl
          apply DrawSeq.consF; exact rfl; intro E
          refine AOps.loadI rfl rfl rfl rfl ?_
          exact AOps.nil ⟨rfl, rfl⟩
          exact rfl
          apply DrawSeq.consF; exact rfl; intro E
          refine S.idx ha53 rfl rfl rfl rfl ?_
          exact AOps.nil ⟨rfl, rfl⟩
          exact rfl
          apply DrawSeq.consF; exact rfl; intro E
          refine AOps.loadI rfl rfl rfl rfl ?_
          exact AOps.nil ⟨rfl, rfl⟩
          exact rfl
          apply DrawSeq.consF; exact rfl; intro E
          refine AOps.callR rfl rfl rfl rfl (strips_Can_ok ha55) rfl ?_
          exact AOps.nil ⟨rfl, rfl⟩
          exact rfl
          apply DrawSeq.consF; exact rfl; intro E
          refine AOps.not rfl rfl ?_
          exact AOps.nil ⟨rfl, rfl⟩
          exact rfl
          refine DrawSeq.done ?_
          dsimp only [envEnd]
          refine thn_normal ?_
          refine AWP.iteB rfl h (fun hc70 h => ?_) (fun hc70 h => ?_)
          · refine AWP.exit ?_
            refine thn_exit ?_
            refine inB_exit ?_
            refine thn_normal ⟨_, h, ?_⟩
            exact Sub.env ⟨rfl, rfl, rfl, rfl, rfl, rfl, rfl, rfl, trivial⟩
          · refine AWP.skip ?_
            refine thn_normal ?_
            refine AWP.seq ?_
            obtain ⟨a58, ha58, h⟩ := bind_some h
            refine AWP.region ?_
            refine AOps.move rfl rfl ?_
            refine S.fresh rfl rfl rfl rfl (slices_Clone_int_int_ok ha58) rfl rfl ?_
            refine AOps.assign rfl rfl ?_
            refine AOps.nil ?_
            refine thn_normal ?_
            refine AWP.seq ?_
            obtain ⟨a61, ha61, h⟩ := bind_some h
            obtain ⟨a64, ha64, h⟩ := bind_some h
            refine AWP.region ?_
            refine AOps.move rfl rfl ?_
            refine AOps.move rfl rfl ?_
            refine S.idxO ha61 rfl rfl rfl rfl rfl ?_
            refine S.loadO ha61 rfl rfl rfl rfl rfl ?_
            refine S.add rfl rfl rfl ?_
            refine S.idxO ha64 rfl rfl rfl rfl rfl ?_
            refine S.storeO1 (f := intI) (a' := w64 (a61 + 1)) (ix_lt ha64) (fun _ => ⟨_, rfl⟩) rfl rfl rfl rfl rfl ?_
            refine AOps.nil ?_
            refine thn_normal ?_
            refine AWP.seq ?_
            refine AWP.frzV (id := 4) (l := a58.set t65.toNat (w64 (a61 + 1))) (env2 := [(0, .c (.ptr 0 0 0)), (1, .c (row 1 intI sv)), (2, .c (row 1 intI l)), (8, .c (.imm (.val (.string a18)))), (9, .c (bool false)), (10, .c (int t65)), (11, .c (row 1 intI a34)), (12, .c (row 1 intI (a58.set t65.toNat (w64 (a61 + 1))))), (29, .c (row 1 eLi64 plans)), (30, .c (int (plans.length : Int))), (31, .c (int t65))]) (σ2 := [.one (.cells 7 [[int t.facts, row 1 intI t.init, row 1 intI t.goal, row 4 eTOperator t.operators, row 1 eLi64 plans, .own 2 0 c62.length, .map 3]]), .dead, .one (vec 1 intI c62), .one (mapB Value.string (Value.int .i64) c63), .dead]) rfl rfl (by exact ⟨⟨_, rfl, .inl ⟨rfl, rfl⟩⟩, ⟨_, rfl, .inl ⟨rfl, rfl⟩⟩, ⟨_, rfl, .inl ⟨rfl, rfl⟩⟩, ⟨_, rfl, .inl ⟨rfl, rfl⟩⟩, ⟨_, rfl, .inl ⟨rfl, rfl⟩⟩, ⟨_, rfl, .inl ⟨rfl, rfl⟩⟩, ⟨_, rfl, .inl ⟨rfl, rfl⟩⟩, ⟨_, rfl, .inr ⟨_, rfl, (by simp only [List.length_set]), rfl⟩⟩, ⟨_, rfl, .inl ⟨rfl, rfl⟩⟩, ⟨_, rfl, .inl ⟨rfl, rfl⟩⟩, ⟨_, rfl, .inl ⟨rfl, rfl⟩⟩, trivial⟩) rfl (by exact ⟨⟨rfl, .inl ⟨rfl, rfl⟩, .inl ⟨rfl, rfl⟩, .inl ⟨rfl, rfl⟩, .inl ⟨rfl, rfl⟩, .inl ⟨rfl, rfl⟩, .inl ⟨rfl, rfl⟩, .inl ⟨rfl, rfl⟩, trivial⟩, trivial, FrzB.vec, ⟨rfl, rfl⟩, trivial, trivial⟩) ?_
            obtain ⟨a75, ha75, h⟩ := bind_some h
            obtain ⟨a77, ha77, h⟩ := bind_some h
            obtain ⟨a79, ha79, h⟩ := bind_some h
            obtain ⟨a81, ha81, h⟩ := bind_some h
            refine AWP.drawEI [15] mixed rfl rfl rfl ?_
            apply DrawSeqE.consN; exact rfl; exact rfl; intro E
            refine AOps.move rfl rfl ?_
            exact AOps.nil ⟨rfl, rfl⟩
            exact rfl
            apply DrawSeqE.consN; exact rfl; exact rfl; intro E
            refine AOps.move rfl rfl ?_
            exact AOps.nil ⟨rfl, rfl⟩
            exact rfl
            apply DrawSeqE.consN; exact rfl; exact rfl; intro E
            refine AOps.nilCheck rfl rfl rfl ?_
            exact AOps.nil ⟨rfl, rfl⟩
            exact rfl
            apply DrawSeqE.consN; exact rfl; exact rfl; intro E
            refine W.fieldAddr rfl rfl rfl rfl ?_
            exact AOps.nil ⟨rfl, rfl⟩
            exact rfl
            apply DrawSeqE.consN; exact rfl; exact rfl; intro E
            refine W.loadAgg rfl rfl rfl rfl rfl rfl rfl ?_
            exact AOps.nil ⟨rfl, rfl⟩
            exact rfl
            apply DrawSeqE.consN; exact rfl; exact rfl; intro E
            refine AOps.move rfl rfl ?_
            exact AOps.nil ⟨rfl, rfl⟩
            exact rfl
            apply DrawSeqE.consN; exact rfl; exact rfl; intro E
            refine AOps.move rfl rfl ?_
            exact AOps.nil ⟨rfl, rfl⟩
            exact rfl
            apply DrawSeqE.consN; exact rfl; exact rfl; intro E
            refine AOps.move rfl rfl ?_
            exact AOps.nil ⟨rfl, rfl⟩
            exact rfl
            apply DrawSeqE.consN; exact rfl; exact rfl; intro E
            refine AOps.move rfl rfl ?_
            exact AOps.nil ⟨rfl, rfl⟩
            exact rfl
            apply DrawSeqE.consN; exact rfl; exact rfl; intro E
            refine S.idx ha75 rfl rfl rfl rfl ?_
            exact AOps.nil ⟨rfl, rfl⟩
            exact rfl
            apply DrawSeqE.consN; exact rfl; exact rfl; intro E
            refine AOps.loadI rfl rfl rfl rfl ?_
            exact AOps.nil ⟨rfl, rfl⟩
            exact rfl
            apply DrawSeqE.consN; exact rfl; exact rfl; intro E
            refine S.idx ha77 rfl rfl rfl rfl ?_
            exact AOps.nil ⟨rfl, rfl⟩
            exact rfl
            apply DrawSeqE.consN; exact rfl; exact rfl; intro E
            refine AOps.loadI rfl rfl rfl rfl ?_
            exact AOps.nil ⟨rfl, rfl⟩
            exact rfl
            apply DrawSeqE.consN; exact rfl; exact rfl; intro E
            refine AOps.callR rfl rfl rfl rfl (FreshOk.data (strips_Next_ok ha79)) rfl ?_
            exact AOps.nil ⟨rfl, rfl⟩
            exact rfl
            apply DrawSeqE.consN; exact rfl; exact rfl; intro E
            refine AOps.move rfl rfl ?_
            exact AOps.nil ⟨rfl, rfl⟩
            exact rfl
            apply DrawSeqE.consE; exact rfl; exact rfl; intro E
            refine AOps.callF (r2 := .tup [.c (row 1 intI a81.1), .c (bool a81.2.1)]) (σ'' := [.one (.cells 7 [[int t.facts, row 1 intI t.init, row 1 intI t.goal, row 4 eTOperator t.operators, row 1 eLi64 plans, .own 2 0 a81.2.2.1.length, .map 3]]), .dead, .one (vec 1 intI a81.2.2.1), .one (mapB Value.string (Value.int .i64) a81.2.2.2), .dead]) rfl rfl rfl (FnOk.lend [0, 2, 3] (merging_merger_turns_w1_ok ha81) rfl rfl rfl rfl rfl rfl (by exact ⟨(.one rfl), .vec, (.one rfl), trivial⟩) rfl (by exact ⟨(.live rfl (.one rfl)), (.live rfl .vec), (.live rfl (.one rfl)), trivial⟩) rfl rfl (by exact ⟨(.new 0 rfl rfl (.one rfl)), .dead, (.new 1 rfl rfl .vec), (.new 2 rfl rfl (.one rfl)), .dead, trivial⟩)) ?_
            exact AOps.nil ⟨rfl, rfl⟩
            exact rfl
            exact rfl
            apply DrawSeqE.consN; exact rfl; exact rfl; intro E
            refine AOps.move rfl rfl ?_
            exact AOps.nil ⟨rfl, rfl⟩
            exact rfl
            apply DrawSeqE.consN; exact rfl; exact rfl; intro E
            refine AOps.extract rfl rfl rfl ?_
            exact AOps.nil ⟨rfl, rfl⟩
            exact rfl
            apply DrawSeqE.consN; exact rfl; exact rfl; intro E
            refine AOps.extract rfl rfl rfl ?_
            exact AOps.nil ⟨rfl, rfl⟩
            exact rfl
            apply DrawSeqE.consN; exact rfl; exact rfl; intro E
            refine AOps.assign rfl rfl ?_
            exact AOps.nil ⟨rfl, rfl⟩
            exact rfl
            apply DrawSeqE.consN; exact rfl; exact rfl; intro E
            refine AOps.assign rfl rfl ?_
            exact AOps.nil ⟨rfl, rfl⟩
            exact rfl
            refine DrawSeqE.done rfl ?_ ?_
            · apply RestI.cons; exact rfl; exact rfl
              first | refine RestK.skip rfl ?_ | (apply RestK.go; exact rfl; exact rfl; intro E; (refine AOps.move rfl rfl ?_); exact AOps.nil ⟨rfl, rfl⟩)
              first | refine RestK.skip rfl ?_ | (apply RestK.go; exact rfl; exact rfl; intro E; (refine AOps.move rfl rfl ?_); exact AOps.nil ⟨rfl, rfl⟩)
              exact RestK.nil
              apply RestI.cons; exact rfl; exact rfl
              first | refine RestK.skip rfl ?_ | (apply RestK.go; exact rfl; exact rfl; intro E; (refine AOps.move rfl rfl ?_); exact AOps.nil ⟨rfl, rfl⟩)
              first | refine RestK.skip rfl ?_ | (apply RestK.go; exact rfl; exact rfl; intro E; (refine AOps.move rfl rfl ?_); exact AOps.nil ⟨rfl, rfl⟩)
              exact RestK.nil
              apply RestI.cons; exact rfl; exact rfl
              first | refine RestK.skip rfl ?_ | (apply RestK.go; exact rfl; exact rfl; intro E; (refine AOps.nilCheck rfl rfl rfl ?_); exact AOps.nil ⟨rfl, rfl⟩)
              first | refine RestK.skip rfl ?_ | (apply RestK.go; exact rfl; exact rfl; intro E; (refine AOps.nilCheck rfl rfl rfl ?_); exact AOps.nil ⟨rfl, rfl⟩)
              exact RestK.nil
              apply RestI.cons; exact rfl; exact rfl
              first | refine RestK.skip rfl ?_ | (apply RestK.go; exact rfl; exact rfl; intro E; (refine W.fieldAddr rfl rfl rfl rfl ?_); exact AOps.nil ⟨rfl, rfl⟩)
              first | refine RestK.skip rfl ?_ | (apply RestK.go; exact rfl; exact rfl; intro E; (refine W.fieldAddr rfl rfl rfl rfl ?_); exact AOps.nil ⟨rfl, rfl⟩)
              exact RestK.nil
              apply RestI.cons; exact rfl; exact rfl
              first | refine RestK.skip rfl ?_ | (apply RestK.go; exact rfl; exact rfl; intro E; (refine W.loadAgg rfl rfl rfl rfl rfl rfl rfl ?_); exact AOps.nil ⟨rfl, rfl⟩)
              first | refine RestK.skip rfl ?_ | (apply RestK.go; exact rfl; exact rfl; intro E; (refine W.loadAgg rfl rfl rfl rfl rfl rfl rfl ?_); exact AOps.nil ⟨rfl, rfl⟩)
              exact RestK.nil
              apply RestI.cons; exact rfl; exact rfl
              first | refine RestK.skip rfl ?_ | (apply RestK.go; exact rfl; exact rfl; intro E; (refine AOps.move rfl rfl ?_); exact AOps.nil ⟨rfl, rfl⟩)
              first | refine RestK.skip rfl ?_ | (apply RestK.go; exact rfl; exact rfl; intro E; (refine AOps.move rfl rfl ?_); exact AOps.nil ⟨rfl, rfl⟩)
              exact RestK.nil
              apply RestI.cons; exact rfl; exact rfl
              first | refine RestK.skip rfl ?_ | (apply RestK.go; exact rfl; exact rfl; intro E; (refine AOps.move rfl rfl ?_); exact AOps.nil ⟨rfl, rfl⟩)
              first | refine RestK.skip rfl ?_ | (apply RestK.go; exact rfl; exact rfl; intro E; (refine AOps.move rfl rfl ?_); exact AOps.nil ⟨rfl, rfl⟩)
              exact RestK.nil
              apply RestI.cons; exact rfl; exact rfl
              first | refine RestK.skip rfl ?_ | (apply RestK.go; exact rfl; exact rfl; intro E; (refine AOps.move rfl rfl ?_); exact AOps.nil ⟨rfl, rfl⟩)
              first | refine RestK.skip rfl ?_ | (apply RestK.go; exact rfl; exact rfl; intro E; (refine AOps.move rfl rfl ?_); exact AOps.nil ⟨rfl, rfl⟩)
              exact RestK.nil
              apply RestI.cons; exact rfl; exact rfl
              first | refine RestK.skip rfl ?_ | (apply RestK.go; exact rfl; exact rfl; intro E; (refine AOps.move rfl rfl ?_); exact AOps.nil ⟨rfl, rfl⟩)
              first | refine RestK.skip rfl ?_ | (apply RestK.go; exact rfl; exact rfl; intro E; (refine AOps.move rfl rfl ?_); exact AOps.nil ⟨rfl, rfl⟩)
              exact RestK.nil
              apply RestI.cons; exact rfl; exact rfl
              first | refine RestK.skip rfl ?_ | (apply RestK.go; exact rfl; exact rfl; intro E; (refine S.idx ha75 rfl rfl rfl rfl ?_); exact AOps.nil ⟨rfl, rfl⟩)
              first | refine RestK.skip rfl ?_ | (apply RestK.go; exact rfl; exact rfl; intro E; (refine S.idx ha75 rfl rfl rfl rfl ?_); exact AOps.nil ⟨rfl, rfl⟩)
              exact RestK.nil
              apply RestI.cons; exact rfl; exact rfl
              first | refine RestK.skip rfl ?_ | (apply RestK.go; exact rfl; exact rfl; intro E; (refine AOps.loadI rfl rfl rfl rfl ?_); exact AOps.nil ⟨rfl, rfl⟩)
              first | refine RestK.skip rfl ?_ | (apply RestK.go; exact rfl; exact rfl; intro E; (refine AOps.loadI rfl rfl rfl rfl ?_); exact AOps.nil ⟨rfl, rfl⟩)
              exact RestK.nil
              apply RestI.cons; exact rfl; exact rfl
              first | refine RestK.skip rfl ?_ | (apply RestK.go; exact rfl; exact rfl; intro E; (refine S.idx ha77 rfl rfl rfl rfl ?_); exact AOps.nil ⟨rfl, rfl⟩)
              first | refine RestK.skip rfl ?_ | (apply RestK.go; exact rfl; exact rfl; intro E; (refine S.idx ha77 rfl rfl rfl rfl ?_); exact AOps.nil ⟨rfl, rfl⟩)
              exact RestK.nil
              apply RestI.cons; exact rfl; exact rfl
              first | refine RestK.skip rfl ?_ | (apply RestK.go; exact rfl; exact rfl; intro E; (refine AOps.loadI rfl rfl rfl rfl ?_); exact AOps.nil ⟨rfl, rfl⟩)
              first | refine RestK.skip rfl ?_ | (apply RestK.go; exact rfl; exact rfl; intro E; (refine AOps.loadI rfl rfl rfl rfl ?_); exact AOps.nil ⟨rfl, rfl⟩)
              exact RestK.nil
              apply RestI.cons; exact rfl; exact rfl
              first | refine RestK.skip rfl ?_ | (apply RestK.go; exact rfl; exact rfl; intro E; (refine AOps.callR rfl rfl rfl rfl (FreshOk.data (strips_Next_ok ha79)) rfl ?_); exact AOps.nil ⟨rfl, rfl⟩)
              first | refine RestK.skip rfl ?_ | (apply RestK.go; exact rfl; exact rfl; intro E; (refine AOps.callR rfl rfl rfl rfl (FreshOk.data (strips_Next_ok ha79)) rfl ?_); exact AOps.nil ⟨rfl, rfl⟩)
              exact RestK.nil
              apply RestI.cons; exact rfl; exact rfl
              first | refine RestK.skip rfl ?_ | (apply RestK.go; exact rfl; exact rfl; intro E; (refine AOps.move rfl rfl ?_); exact AOps.nil ⟨rfl, rfl⟩)
              first | refine RestK.skip rfl ?_ | (apply RestK.go; exact rfl; exact rfl; intro E; (refine AOps.move rfl rfl ?_); exact AOps.nil ⟨rfl, rfl⟩)
              exact RestK.nil
              refine RestI.skip rfl ?_
              apply RestI.cons; exact rfl; exact rfl
              first | refine RestK.skip rfl ?_ | (apply RestK.go; exact rfl; exact rfl; intro E; (refine AOps.move rfl rfl ?_); exact AOps.nil ⟨rfl, rfl⟩)
              first | refine RestK.skip rfl ?_ | (apply RestK.go; exact rfl; exact rfl; intro E; (refine AOps.move rfl rfl ?_); exact AOps.nil ⟨rfl, rfl⟩)
              exact RestK.nil
              apply RestI.cons; exact rfl; exact rfl
              first | refine RestK.skip rfl ?_ | (apply RestK.go; exact rfl; exact rfl; intro E; (refine AOps.extract rfl rfl rfl ?_); exact AOps.nil ⟨rfl, rfl⟩)
              first | refine RestK.skip rfl ?_ | (apply RestK.go; exact rfl; exact rfl; intro E; (refine AOps.extract rfl rfl rfl ?_); exact AOps.nil ⟨rfl, rfl⟩)
              exact RestK.nil
              apply RestI.cons; exact rfl; exact rfl
              first | refine RestK.skip rfl ?_ | (apply RestK.go; exact rfl; exact rfl; intro E; (refine AOps.extract rfl rfl rfl ?_); exact AOps.nil ⟨rfl, rfl⟩)
              first | refine RestK.skip rfl ?_ | (apply RestK.go; exact rfl; exact rfl; intro E; (refine AOps.extract rfl rfl rfl ?_); exact AOps.nil ⟨rfl, rfl⟩)
              exact RestK.nil
              apply RestI.cons; exact rfl; exact rfl
              first | refine RestK.skip rfl ?_ | (apply RestK.go; exact rfl; exact rfl; intro E; (refine AOps.assign rfl rfl ?_); exact AOps.nil ⟨rfl, rfl⟩)
              first | refine RestK.skip rfl ?_ | (apply RestK.go; exact rfl; exact rfl; intro E; (refine AOps.assign rfl rfl ?_); exact AOps.nil ⟨rfl, rfl⟩)
              exact RestK.nil
              apply RestI.cons; exact rfl; exact rfl
              first | refine RestK.skip rfl ?_ | (apply RestK.go; exact rfl; exact rfl; intro E; (refine AOps.assign rfl rfl ?_); exact AOps.nil ⟨rfl, rfl⟩)
              first | refine RestK.skip rfl ?_ | (apply RestK.go; exact rfl; exact rfl; intro E; (refine AOps.assign rfl rfl ?_); exact AOps.nil ⟨rfl, rfl⟩)
              exact RestK.nil
              exact RestI.nil
            dsimp only [envEnd]
            refine thn_normal ?_
            refine AWP.seq ?_
            refine AWP.region ?_
            refine AOps.move rfl rfl ?_
            refine AOps.nil ?_
            refine thn_normal ?_
            refine AWP.iteB rfl h (fun hc71 h => ?_) (fun hc71 h => ?_)
            · refine AWP.seq ?_
              obtain ⟨a88, ha88, h⟩ := bind_some h
              refine AWP.region ?_
              refine AOps.move rfl rfl ?_
              refine S.lit (f := intI) (l := [t65]) (ess := [[int t65]]) rfl rfl rfl rfl rfl rfl rfl ⟨⟨.inl rfl, trivial⟩, trivial⟩ rfl rfl rfl ?_
              refine AOps.move rfl rfl ?_
              refine S.append (f := intI) ha88 rfl rfl rfl rfl rfl rfl .row rfl rfl rfl rfl ?_
              refine AOps.assign rfl rfl ?_
              refine AOps.assign rfl rfl ?_
              refine AOps.nil ?_
              refine thn_normal ?_
              refine AWP.frzV (id := 6) (l := a88) (env2 := [(6, .c (row 1 intI a88)), (7, .c (bool true))]) (σ2 := [.one (.cells 7 [[int t.facts, row 1 intI t.init, row 1 intI t.goal, row 4 eTOperator t.operators, row 1 eLi64 plans, .own 2 0 a81.2.2.1.length, .map 3]]), .dead, .one (vec 1 intI a81.2.2.1), .one (mapB Value.string (Value.int .i64) a81.2.2.2), .dead, .dead, .dead]) rfl rfl (by exact ⟨⟨_, rfl, .inr ⟨_, rfl, rfl, rfl⟩⟩, ⟨_, rfl, .inl ⟨rfl, rfl⟩⟩, trivial⟩) rfl (by exact ⟨⟨rfl, .inl ⟨rfl, rfl⟩, .inl ⟨rfl, rfl⟩, .inl ⟨rfl, rfl⟩, .inl ⟨rfl, rfl⟩, .inl ⟨rfl, rfl⟩, .inl ⟨rfl, rfl⟩, .inl ⟨rfl, rfl⟩, trivial⟩, trivial, FrzB.vec, ⟨rfl, rfl⟩, trivial, trivial, trivial, trivial⟩) ?_
              refine AWP.ret ?_
              refine inB_ret ?_
              refine thn_ret ?_
              have ej := Option.some.inj h
              subst ej
              refine thn_ret ⟨_, rfl, rfl, ?_⟩
              exact ⟨⟨[(6, .c (row 1 intI a88)), (7, .c (bool true))], [.one (.cells 7 [[int t.facts, row 1 intI t.init, row 1 intI t.goal, row 4 eTOperator t.operators, row 1 eLi64 plans, .own 2 0 a81.2.2.1.length, .map 3]]), .dead, .one (vec 1 intI a81.2.2.1), .one (mapB Value.string (Value.int .i64) a81.2.2.2)]⟩, Sub.cut ⟨rfl, rfl, trivial⟩ rfl ⟨.one rfl, .dead, .vec, .one rfl, trivial⟩ rfl, Done.ret rfl ⟨rfl, rfl⟩⟩
            · refine AWP.skip ?_
              refine inB_normal ?_
              refine thn_normal ⟨_, h, ?_⟩
              exact Sub.cut ⟨rfl, rfl, rfl, rfl, rfl, rfl, rfl, rfl, trivial⟩ rfl ⟨.one rfl, .dead, .vec, .one rfl, trivial⟩ rfl
    · intro e s hq
      rcases oo with ⟨c62, c63, done64⟩ | x
      · try dsimp only at h hq
        obtain ⟨rfl, hs⟩ := hq
        refine ⟨_, hs, ?_⟩
        refine inB_exit ?_
        refine thn_normal ?_
        refine AWP.seq ?_
        obtain ⟨t72, hx73, h⟩ := bind_some h
        refine AWP.seqJ (⟨[(0, .c (.ptr 0 0 0)), (8, .c (.imm (.val (.string a18)))), (98, .c (bool t72))], [.one (.cells 7 [[int t.facts, row 1 intI t.init, row 1 intI t.goal, row 4 eTOperator t.operators, row 1 eLi64 plans, .own 2 0 c62.length, .map 3]]), .dead, .one (vec 1 intI c62), .one (mapB Value.string (Value.int .i64) c63)]⟩) ?_ ?_
        · rcases Bool.eq_false_or_eq_true (done64) with hb74 | hb74
          · replace hx73 := iteBT hb74 hx73
            obtain ⟨a97, ha97, hx73⟩ := bind_some hx73
            refine AWP.region ?_
            refine AOps.move rfl rfl ?_
            refine AOps.move rfl rfl ?_
            refine AOps.guardT rfl rfl rfl hb74 ?_; refine AOps.move rfl rfl ?_
            refine AOps.guardT rfl rfl rfl hb74 ?_; refine AOps.move rfl rfl ?_
            refine AOps.guardT rfl rfl rfl hb74 ?_; refine AOps.nilCheck rfl rfl rfl ?_
            refine AOps.guardT rfl rfl rfl hb74 ?_; refine W.fieldAddr rfl rfl rfl rfl ?_
            refine AOps.guardT rfl rfl rfl hb74 ?_; refine AOps.load rfl rfl rfl rfl rfl rfl ?_
            refine AOps.guardT rfl rfl rfl hb74 ?_; refine AOps.callL rfl rfl (.cons (.c .imm) (.cons (.c (.own rfl rfl)) .nil)) rfl (strips_Contains_ok ha97) rfl ?_
            refine AOps.pickT rfl hb74 rfl rfl ?_
            refine AOps.nil ?_
            have ej := Option.some.inj hx73
            subst ej
            refine thn_normal ?_
            exact Sub.env ⟨rfl, rfl, rfl, trivial⟩
          · replace hx73 := iteBF hb74 hx73
            refine AWP.region ?_
            refine AOps.move rfl rfl ?_
            refine AOps.move rfl rfl ?_
            refine AOps.guardF rfl rfl rfl hb74 ?_
            refine AOps.guardF rfl rfl rfl hb74 ?_
            refine AOps.guardF rfl rfl rfl hb74 ?_
            refine AOps.guardF rfl rfl rfl hb74 ?_
            refine AOps.guardF rfl rfl rfl hb74 ?_
            refine AOps.guardF rfl rfl rfl hb74 ?_
            refine AOps.pickF rfl hb74 rfl rfl ?_
            refine AOps.nil ?_
            have ej := Option.some.inj hx73
            subst ej
            refine thn_normal ?_
            exact Sub.env ⟨rfl, rfl, rfl, trivial⟩
        · refine AWP.iteB rfl h (fun hc75 h => ?_) (fun hc75 h => ?_)
          · refine AWP.seq ?_
            refine AWP.region ?_
            refine AOps.assign rfl rfl ?_
            refine AOps.assign rfl rfl ?_
            refine AOps.nil ?_
            refine thn_normal ?_
            refine AWP.nilrow 1 6 rfl ?_
            refine AWP.ret ?_
            refine thn_ret ?_
            have ej := Option.some.inj h
            subst ej
            exact ⟨⟨[(6, .c (row 1 intI [])), (7, .c (bool true))], [.one (.cells 7 [[int t.facts, row 1 intI t.init, row 1 intI t.goal, row 4 eTOperator t.operators, row 1 eLi64 plans, .own 2 0 c62.length, .map 3]]), .dead, .one (vec 1 intI c62), .one (mapB Value.string (Value.int .i64) c63)]⟩, Sub.env ⟨rfl, rfl, trivial⟩, Done.ret rfl ⟨rfl, rfl⟩⟩
          · refine AWP.skip ?_
            refine thn_normal ?_
            refine AWP.seq ?_
            refine AWP.region ?_
            refine AOps.move rfl rfl ?_
            refine AOps.nilCheck rfl rfl rfl ?_
            refine W.fieldAddr rfl rfl rfl rfl ?_
            refine AOps.load rfl rfl rfl rfl rfl rfl ?_
            refine AOps.move rfl rfl ?_
            refine W.mapUpdate (fk := Value.string) (fv := (Value.int .i64)) (k := a18) (a := 1) keyStr rfl rfl rfl rfl rfl ?_
            refine AOps.nil ?_
            refine thn_normal ?_
            refine AWP.seq ?_
            refine AWP.region ?_
            refine AOps.assign rfl rfl ?_
            refine AOps.assign rfl rfl ?_
            refine AOps.nil ?_
            refine thn_normal ?_
            refine AWP.nilrow 1 6 rfl ?_
            refine AWP.ret ?_
            have ej := Option.some.inj h
            subst ej
            exact ⟨⟨[(6, .c (row 1 intI [])), (7, .c (bool false))], [.one (.cells 7 [[int t.facts, row 1 intI t.init, row 1 intI t.goal, row 4 eTOperator t.operators, row 1 eLi64 plans, .own 2 0 c62.length, .map 3]]), .dead, .one (vec 1 intI c62), .one (mapB Value.string (Value.int .i64) (mset c63 a18 1))]⟩, Sub.env ⟨rfl, rfl, trivial⟩, Done.ret rfl ⟨rfl, rfl⟩⟩
      · try dsimp only at h hq
        obtain ⟨rfl, hs⟩ := hq
        refine ⟨_, Sub.refl _ _, ?_⟩
        refine inB_ret ?_
        refine thn_ret ?_
        have ej := Option.some.inj h
        subst ej
        exact hs
theorem merging_Merge_ok {t : TTask} {goals : List (List Int)} {plans : List (List Int)} {r : (List Int) × Bool × TFault} (h : merging_Merge t goals plans = some r) : PureOk Tryd.prog 8 [.agg [int t.facts, row 1 intI t.init, row 1 intI t.goal, row 4 eTOperator t.operators], .c (row 1 eLi64 goals), .c (row 1 eLi64 plans)] (.tup [.c (row 1 intI r.1), .c (bool r.2.1), .agg [int r.2.2.code, int r.2.2.index]]) := by
  unfold PureOk
  refine FnOk.enter (rs := [.t 6, .t 7, .cell 8 28 2]) Tryd.func8 rfl Tryd.ntmps8 Tryd.results8 rfl ⟨trivial, trivial, rv _ rfl, trivial⟩ (by kernel_rfl) rfl ?_
  unfold merging_Merge at h
  refine AWP.seq ?_
  refine AWP.region ?_
  refine W.box rfl rfl rfl rfl rfl rfl ?_
  refine AOps.assign rfl rfl ?_
  refine AOps.assign rfl rfl ?_
  refine W.alloc rfl rfl rfl rfl ?_
  refine AOps.nil ?_
  refine thn_normal ?_
  refine AWP.seq ?_
  refine AWP.seq ?_
  obtain ⟨a16, ha16, h⟩ := bind_some h
  refine AWP.region ?_
  refine W.loadAgg rfl rfl rfl rfl rfl rfl rfl ?_
  refine AOps.move rfl rfl ?_
  refine AOps.move rfl rfl ?_
  refine AOps.callR rfl rfl rfl rfl (merging_check_ok ha16) rfl ?_
  refine W.alloc rfl rfl rfl rfl ?_
  refine W.storeAgg rfl rfl rfl rfl rfl rfl rfl ?_
  refine AOps.nil ?_
  refine thn_normal ?_
  refine AWP.seq ?_
  refine AWP.region ?_
  refine W.loadAgg rfl rfl rfl rfl rfl rfl rfl ?_
  refine W.build rfl rfl rfl rfl ?_
  refine AOps.neqP rfl rfl rfl rfl rfl rfl rfl ?_
  refine AOps.nil ?_
  refine thn_normal ?_
  refine AWP.iteB rfl h (fun hc4 h => ?_) (fun hc4 h => ?_)
  · refine AWP.seq ?_
    refine AWP.drawEI [3] mixed rfl rfl rfl ?_
    apply DrawSeqE.consN; exact rfl; exact rfl; intro E
    refine W.loadAgg rfl rfl rfl rfl rfl rfl rfl ?_
    exact AOps.nil ⟨rfl, rfl⟩
    exact rfl
    apply DrawSeqE.consN; exact rfl; exact rfl; intro E
    refine AOps.assign rfl rfl ?_
    exact AOps.nil ⟨rfl, rfl⟩
    exact rfl
    apply DrawSeqE.consN; exact rfl; exact rfl; intro E
    refine AOps.assign rfl rfl ?_
    exact AOps.nil ⟨rfl, rfl⟩
    exact rfl
    apply DrawSeqE.consE (v := .undef); exact rfl; exact rfl; intro E
    refine W.storeAgg rfl rfl rfl rfl rfl rfl rfl ?_
    exact AOps.nil ⟨rfl, rfl⟩
    exact rfl
    exact rfl
    refine DrawSeqE.done rfl ?_ ?_
    · apply RestI.cons; exact rfl; exact rfl
      first | refine RestK.skip rfl ?_ | (apply RestK.go; exact rfl; exact rfl; intro E; (refine W.loadAgg rfl rfl rfl rfl rfl rfl rfl ?_); exact AOps.nil ⟨rfl, rfl⟩)
      first | refine RestK.skip rfl ?_ | (apply RestK.go; exact rfl; exact rfl; intro E; (refine W.loadAgg rfl rfl rfl rfl rfl rfl rfl ?_); exact AOps.nil ⟨rfl, rfl⟩)
      exact RestK.nil
      apply RestI.cons; exact rfl; exact rfl
      first | refine RestK.skip rfl ?_ | (apply RestK.go; exact rfl; exact rfl; intro E; (refine AOps.assign rfl rfl ?_); exact AOps.nil ⟨rfl, rfl⟩)
      first | refine RestK.skip rfl ?_ | (apply RestK.go; exact rfl; exact rfl; intro E; (refine AOps.assign rfl rfl ?_); exact AOps.nil ⟨rfl, rfl⟩)
      exact RestK.nil
      apply RestI.cons; exact rfl; exact rfl
      first | refine RestK.skip rfl ?_ | (apply RestK.go; exact rfl; exact rfl; intro E; (refine AOps.assign rfl rfl ?_); exact AOps.nil ⟨rfl, rfl⟩)
      first | refine RestK.skip rfl ?_ | (apply RestK.go; exact rfl; exact rfl; intro E; (refine AOps.assign rfl rfl ?_); exact AOps.nil ⟨rfl, rfl⟩)
      exact RestK.nil
      refine RestI.skip rfl ?_
      exact RestI.nil
    dsimp only [envEnd]
    refine thn_normal ?_
    refine AWP.nilrow 1 6 rfl ?_
    refine AWP.ret ?_
    refine thn_ret ?_
    have ej := Option.some.inj h
    subst ej
    exact Done.ret rfl rfl
  · refine AWP.skip ?_
    refine thn_normal ?_
    refine AWP.seq ?_
    obtain ⟨a24, ha24, h⟩ := bind_some h
    refine AWP.sub (s' := ⟨[(0, .agg [int t.facts, row 1 intI t.init, row 1 intI t.goal, row 4 eTOperator t.operators]), (1, .c (row 1 eLi64 goals)), (2, .c (row 1 eLi64 plans)), (3, .c (.ptr 0 0 0)), (6, .c (.imm (.val (.slice none 0 0)))), (7, .c (bool false)), (8, .c (.ptr 1 0 0)), (9, .c (.ptr 2 0 0)), (13, .agg [int t.facts, row 1 intI t.init, row 1 intI t.goal, row 4 eTOperator t.operators]), (14, .c (row 1 eLi64 goals)), (15, .c (row 1 eLi64 plans)), (16, .agg [int a16.code, int a16.index]), (17, .agg [int a16.code, int a16.index]), (18, .agg [int 0, int 0]), (19, .c (bool (!((decide (a16.code = 0)) && (decide (a16.index = 0))))))], [.one (.cells 4 [[int t.facts, row 1 intI t.init, row 1 intI t.goal, row 4 eTOperator t.operators]]), .one (.cells 2 [[int 0, int 0]]), .one (.cells 2 [[int a16.code, int a16.index]]), .dead, .dead, .dead]⟩) (Sub.cut ⟨rfl, rfl, rfl, rfl, rfl, rfl, rfl, rfl, rfl, rfl, rfl, rfl, rfl, rfl, rfl, trivial⟩ rfl ⟨.one rfl, .one rfl, .one rfl, .dead, .dead, .dead, trivial⟩ rfl) ?_
    refine AWP.drawTI [.agg [int t.facts, row 1 intI t.init, row 1 intI t.goal, row 4 eTOperator t.operators], .c (row 1 eLi64 plans), .c (row 1 eLi64 goals), .c (.own 3 0 a24.length), .c (.map 4), .agg [int t.facts, row 1 intI t.init, row 1 intI t.goal, row 4 eTOperator t.operators, row 1 eLi64 plans, .own 3 0 a24.length, .map 4], .c (.ptr 5 0 0), .c (.ptr 5 0 0)] [3, 4, 6] [([], [.one (.cells 4 [[int t.facts, row 1 intI t.init, row 1 intI t.goal, row 4 eTOperator t.operators]]), .one (.cells 2 [[int 0, int 0]]), .one (.cells 2 [[int a16.code, int a16.index]]), .dead, .dead, .dead]), ([3], [.one (.cells 4 [[int t.facts, row 1 intI t.init, row 1 intI t.goal, row 4 eTOperator t.operators]]), .one (.cells 2 [[int 0, int 0]]), .one (.cells 2 [[int a16.code, int a16.index]]), .one (vec 1 intI a24), .dead, .dead]), ([4], [.one (.cells 4 [[int t.facts, row 1 intI t.init, row 1 intI t.goal, row 4 eTOperator t.operators]]), .one (.cells 2 [[int 0, int 0]]), .one (.cells 2 [[int a16.code, int a16.index]]), .dead, .one (mapB Value.string (Value.int .i64) ([] : List (ByteArray × Int))), .dead]), ([3, 4], [.one (.cells 4 [[int t.facts, row 1 intI t.init, row 1 intI t.goal, row 4 eTOperator t.operators]]), .one (.cells 2 [[int 0, int 0]]), .one (.cells 2 [[int a16.code, int a16.index]]), .one (vec 1 intI a24), .one (mapB Value.string (Value.int .i64) ([] : List (ByteArray × Int))), .dead]), ([3, 4, 6], [.one (.cells 4 [[int t.facts, row 1 intI t.init, row 1 intI t.goal, row 4 eTOperator t.operators]]), .one (.cells 2 [[int 0, int 0]]), .one (.cells 2 [[int a16.code, int a16.index]]), .one (vec 1 intI a24), .one (mapB Value.string (Value.int .i64) ([] : List (ByteArray × Int))), .one (.cells 7 [[int t.facts, row 1 intI t.init, row 1 intI t.goal, row 4 eTOperator t.operators, row 1 eLi64 plans, .own 3 0 a24.length, .map 4]])])] [.one (.cells 4 [[int t.facts, row 1 intI t.init, row 1 intI t.goal, row 4 eTOperator t.operators]]), .one (.cells 2 [[int 0, int 0]]), .one (.cells 2 [[int a16.code, int a16.index]]), .one (vec 1 intI a24), .one (mapB Value.string (Value.int .i64) ([] : List (ByteArray × Int))), .one (.cells 7 [[int t.facts, row 1 intI t.init, row 1 intI t.goal, row 4 eTOperator t.operators, row 1 eLi64 plans, .own 3 0 a24.length, .map 4]])] mixed rfl rfl rfl rfl rfl ?_ ?_
    · refine TabOk.cons ?_ ?_
      · apply EntOps.go; exact rfl; exact rfl; exact rfl; intro E hE; (refine W.loadAgg rfl rfl rfl rfl rfl rfl rfl ?_); exact AOps.nil ⟨rfl, rfl⟩
        apply EntOps.go; exact rfl; exact rfl; exact rfl; intro E hE; (refine AOps.move rfl rfl ?_); exact AOps.nil ⟨rfl, rfl⟩
        apply EntOps.go; exact rfl; exact rfl; exact rfl; intro E hE; (refine AOps.move rfl rfl ?_); exact AOps.nil ⟨rfl, rfl⟩
        apply EntOps.eff; exact rfl; exact rfl; exact rfl; exact rfl; intro E hE; (refine AOps.newAt 3 (.c (.own 3 0 a24.length)) (vec 1 intI a24) (.inl rfl) rfl hE rfl rfl rfl rfl (.vec) (.vec) rfl rfl rfl ⟨.one rfl, .one rfl, .one rfl, .dead, .dead, .dead, trivial⟩ (fun hh => by (refine S.fresh rfl rfl rfl rfl (merging_union_ok ha24) rfl rfl ?_; exact hh)) ?_); exact AOps.nil ⟨rfl, rfl⟩
        apply EntOps.eff; exact rfl; exact rfl; exact rfl; exact rfl; intro E hE; (refine AOps.newAt 4 (.c (.map 4)) (mapB Value.string (Value.int .i64) ([] : List (ByteArray × Int))) (.inl rfl) rfl hE rfl rfl rfl rfl (.one rfl) (.one rfl) rfl rfl rfl ⟨.one rfl, .one rfl, .one rfl, .dead, .dead, .dead, trivial⟩ (fun hh => by (refine W.makeMap Value.string (Value.int .i64) rfl rfl rfl ?_; exact hh)) ?_); exact AOps.nil ⟨rfl, rfl⟩
        refine EntOps.no rfl ?_
        refine EntOps.no rfl ?_
        refine EntOps.no rfl ?_
        exact EntOps.nil
      refine TabOk.cons ?_ ?_
      · apply EntOps.go; exact rfl; exact rfl; exact rfl; intro E hE; (refine W.loadAgg rfl rfl rfl rfl rfl rfl rfl ?_); exact AOps.nil ⟨rfl, rfl⟩
        apply EntOps.go; exact rfl; exact rfl; exact rfl; intro E hE; (refine AOps.move rfl rfl ?_); exact AOps.nil ⟨rfl, rfl⟩
        refine EntOps.no rfl ?_
        refine EntOps.no rfl ?_
        apply EntOps.eff; exact rfl; exact rfl; exact rfl; exact rfl; intro E hE; (refine AOps.newAt 4 (.c (.map 4)) (mapB Value.string (Value.int .i64) ([] : List (ByteArray × Int))) (.inl rfl) rfl hE rfl rfl rfl rfl (.one rfl) (.one rfl) rfl rfl rfl ⟨.one rfl, .one rfl, .one rfl, .vec, .dead, .dead, trivial⟩ (fun hh => by (refine W.makeMap Value.string (Value.int .i64) rfl rfl rfl ?_; exact hh)) ?_); exact AOps.nil ⟨rfl, rfl⟩
        refine EntOps.no rfl ?_
        refine EntOps.no rfl ?_
        refine EntOps.no rfl ?_
        exact EntOps.nil
      refine TabOk.cons ?_ ?_
      · apply EntOps.go; exact rfl; exact rfl; exact rfl; intro E hE; (refine W.loadAgg rfl rfl rfl rfl rfl rfl rfl ?_); exact AOps.nil ⟨rfl, rfl⟩
        apply EntOps.go; exact rfl; exact rfl; exact rfl; intro E hE; (refine AOps.move rfl rfl ?_); exact AOps.nil ⟨rfl, rfl⟩
        apply EntOps.go; exact rfl; exact rfl; exact rfl; intro E hE; (refine AOps.move rfl rfl ?_); exact AOps.nil ⟨rfl, rfl⟩
        apply EntOps.eff; exact rfl; exact rfl; exact rfl; exact rfl; intro E hE; (refine AOps.newAt 3 (.c (.own 3 0 a24.length)) (vec 1 intI a24) (.inl rfl) rfl hE rfl rfl rfl rfl (.vec) (.vec) rfl rfl rfl ⟨.one rfl, .one rfl, .one rfl, .dead, .one rfl, .dead, trivial⟩ (fun hh => by (refine S.fresh rfl rfl rfl rfl (merging_union_ok ha24) rfl rfl ?_; exact hh)) ?_); exact AOps.nil ⟨rfl, rfl⟩
        refine EntOps.no rfl ?_
        refine EntOps.no rfl ?_
        refine EntOps.no rfl ?_
        refine EntOps.no rfl ?_
        exact EntOps.nil
      refine TabOk.cons ?_ ?_
      · apply EntOps.go; exact rfl; exact rfl; exact rfl; intro E hE; (refine W.loadAgg rfl rfl rfl rfl rfl rfl rfl ?_); exact AOps.nil ⟨rfl, rfl⟩
        apply EntOps.go; exact rfl; exact rfl; exact rfl; intro E hE; (refine AOps.move rfl rfl ?_); exact AOps.nil ⟨rfl, rfl⟩
        refine EntOps.no rfl ?_
        refine EntOps.no rfl ?_
        refine EntOps.no rfl ?_
        apply EntOps.go; exact rfl; exact rfl; exact rfl; intro E hE; (refine W.buildP rfl rfl rfl rfl ?_); exact AOps.nil ⟨rfl, rfl⟩
        apply EntOps.eff; exact rfl; exact rfl; exact rfl; exact rfl; intro E hE; (refine AOps.newAt 5 (.c (.ptr 5 0 0)) (.cells 7 [[int t.facts, row 1 intI t.init, row 1 intI t.goal, row 4 eTOperator t.operators, row 1 eLi64 plans, .own 3 0 a24.length, .map 4]]) (.inl rfl) rfl hE rfl rfl rfl rfl (.one rfl) (.one rfl) rfl rfl rfl ⟨.one rfl, .one rfl, .one rfl, .vec, .one rfl, .dead, trivial⟩ (fun hh => by (refine W.box rfl rfl rfl rfl rfl rfl ?_; exact hh)) ?_); exact AOps.nil ⟨rfl, rfl⟩
        refine EntOps.no rfl ?_
        exact EntOps.nil
      refine TabOk.cons ?_ ?_
      · refine EntOps.no rfl ?_
        refine EntOps.no rfl ?_
        refine EntOps.no rfl ?_
        refine EntOps.no rfl ?_
        refine EntOps.no rfl ?_
        refine EntOps.no rfl ?_
        refine EntOps.no rfl ?_
        apply EntOps.go; exact rfl; exact rfl; exact rfl; intro E hE; (refine AOps.assign rfl rfl ?_); exact AOps.nil ⟨rfl, rfl⟩
        exact EntOps.nil
      exact TabOk.nil
    dsimp only [envEnd]
    refine thn_normal ?_
    refine AWP.seq ?_
    obtain ⟨a34, ha34, h⟩ := bind_some h
    obtain ⟨a35, ha35, h⟩ := bind_some h
    refine AWP.drawEI [5, 6] mixed rfl rfl rfl ?_
    apply DrawSeqE.consN; exact rfl; exact rfl; intro E
    refine AOps.move rfl rfl ?_
    exact AOps.nil ⟨rfl, rfl⟩
    exact rfl
    apply DrawSeqE.consN; exact rfl; exact rfl; intro E
    refine W.fieldAddr rfl rfl rfl rfl ?_
    exact AOps.nil ⟨rfl, rfl⟩
    exact rfl
    apply DrawSeqE.consN; exact rfl; exact rfl; intro E
    refine AOps.load rfl rfl rfl rfl rfl rfl ?_
    exact AOps.nil ⟨rfl, rfl⟩
    exact rfl
    apply DrawSeqE.consN; exact rfl; exact rfl; intro E
    refine AOps.move rfl rfl ?_
    exact AOps.nil ⟨rfl, rfl⟩
    exact rfl
    apply DrawSeqE.consN; exact rfl; exact rfl; intro E
    refine S.len rfl rfl (fun hl33 => ?_)
    exact AOps.nil ⟨rfl, rfl⟩
    exact rfl
    apply DrawSeqE.consE; exact rfl; exact rfl; intro E
    refine S.make (f := intI) ha34 (.val .nil) rfl rfl rfl rfl rfl rfl ?_
    exact AOps.nil ⟨rfl, rfl⟩
    exact rfl
    exact rfl
    apply DrawSeqE.consE; exact rfl; exact rfl; intro E
    refine AOps.callF (r2 := .tup [.c (row 1 intI a35.2.2.1), .c (bool a35.2.2.2)]) (σ'' := [.one (.cells 4 [[int t.facts, row 1 intI t.init, row 1 intI t.goal, row 4 eTOperator t.operators]]), .one (.cells 2 [[int 0, int 0]]), .one (.cells 2 [[int a16.code, int a16.index]]), .one (vec 1 intI a35.1), .one (mapB Value.string (Value.int .i64) a35.2.1), .one (.cells 7 [[int t.facts, row 1 intI t.init, row 1 intI t.goal, row 4 eTOperator t.operators, row 1 eLi64 plans, .own 3 0 a35.1.length, .map 4]]), .dead]) rfl rfl rfl (FnOk.lend [5, 6, 3, 4] (merging_merger_turns_w_ok ha35) rfl rfl rfl rfl rfl rfl (by exact ⟨(.one rfl), .vec, .vec, (.one rfl), trivial⟩) rfl (by exact ⟨(.live rfl (.one rfl)), (.live rfl .vec), (.live rfl .vec), (.live rfl (.one rfl)), trivial⟩) rfl rfl (by exact ⟨(.old rfl rfl rfl), (.old rfl rfl rfl), (.old rfl rfl rfl), (.new 2 rfl rfl .vec), (.new 3 rfl rfl (.one rfl)), (.new 0 rfl rfl (.one rfl)), .dead, trivial⟩)) ?_
    exact AOps.nil ⟨rfl, rfl⟩
    exact rfl
    exact rfl
    apply DrawSeqE.consN; exact rfl; exact rfl; intro E
    refine AOps.move rfl rfl ?_
    exact AOps.nil ⟨rfl, rfl⟩
    exact rfl
    apply DrawSeqE.consN; exact rfl; exact rfl; intro E
    refine AOps.extract rfl rfl rfl ?_
    exact AOps.nil ⟨rfl, rfl⟩
    exact rfl
    apply DrawSeqE.consN; exact rfl; exact rfl; intro E
    refine AOps.extract rfl rfl rfl ?_
    exact AOps.nil ⟨rfl, rfl⟩
    exact rfl
    apply DrawSeqE.consN; exact rfl; exact rfl; intro E
    refine AOps.assign rfl rfl ?_
    exact AOps.nil ⟨rfl, rfl⟩
    exact rfl
    apply DrawSeqE.consN; exact rfl; exact rfl; intro E
    refine AOps.assign rfl rfl ?_
    exact AOps.nil ⟨rfl, rfl⟩
    exact rfl
    refine DrawSeqE.done rfl ?_ ?_
    · apply RestI.cons; exact rfl; exact rfl
      first | refine RestK.skip rfl ?_ | (apply RestK.go; exact rfl; exact rfl; intro E; (refine AOps.move rfl rfl ?_); exact AOps.nil ⟨rfl, rfl⟩)
      first | refine RestK.skip rfl ?_ | (apply RestK.go; exact rfl; exact rfl; intro E; (refine AOps.move rfl rfl ?_); exact AOps.nil ⟨rfl, rfl⟩)
      first | refine RestK.skip rfl ?_ | (apply RestK.go; exact rfl; exact rfl; intro E; (refine AOps.move rfl rfl ?_); exact AOps.nil ⟨rfl, rfl⟩)
      exact RestK.nil
      apply RestI.cons; exact rfl; exact rfl
      first | refine RestK.skip rfl ?_ | (apply RestK.go; exact rfl; exact rfl; intro E; (refine W.fieldAddr rfl rfl rfl rfl ?_); exact AOps.nil ⟨rfl, rfl⟩)
      first | refine RestK.skip rfl ?_ | (apply RestK.go; exact rfl; exact rfl; intro E; (refine W.fieldAddr rfl rfl rfl rfl ?_); exact AOps.nil ⟨rfl, rfl⟩)
      first | refine RestK.skip rfl ?_ | (apply RestK.go; exact rfl; exact rfl; intro E; (refine W.fieldAddr rfl rfl rfl rfl ?_); exact AOps.nil ⟨rfl, rfl⟩)
      exact RestK.nil
      apply RestI.cons; exact rfl; exact rfl
      first | refine RestK.skip rfl ?_ | (apply RestK.go; exact rfl; exact rfl; intro E; (refine AOps.load rfl rfl rfl rfl rfl rfl ?_); exact AOps.nil ⟨rfl, rfl⟩)
      first | refine RestK.skip rfl ?_ | (apply RestK.go; exact rfl; exact rfl; intro E; (refine AOps.load rfl rfl rfl rfl rfl rfl ?_); exact AOps.nil ⟨rfl, rfl⟩)
      first | refine RestK.skip rfl ?_ | (apply RestK.go; exact rfl; exact rfl; intro E; (refine AOps.load rfl rfl rfl rfl rfl rfl ?_); exact AOps.nil ⟨rfl, rfl⟩)
      exact RestK.nil
      apply RestI.cons; exact rfl; exact rfl
      first | refine RestK.skip rfl ?_ | (apply RestK.go; exact rfl; exact rfl; intro E; (refine AOps.move rfl rfl ?_); exact AOps.nil ⟨rfl, rfl⟩)
      first | refine RestK.skip rfl ?_ | (apply RestK.go; exact rfl; exact rfl; intro E; (refine AOps.move rfl rfl ?_); exact AOps.nil ⟨rfl, rfl⟩)
      first | refine RestK.skip rfl ?_ | (apply RestK.go; exact rfl; exact rfl; intro E; (refine AOps.move rfl rfl ?_); exact AOps.nil ⟨rfl, rfl⟩)
      exact RestK.nil
      apply RestI.cons; exact rfl; exact rfl
      first | refine RestK.skip rfl ?_ | (apply RestK.go; exact rfl; exact rfl; intro E; (refine S.len rfl rfl (fun hl33 => ?_)); exact AOps.nil ⟨rfl, rfl⟩)
      first | refine RestK.skip rfl ?_ | (apply RestK.go; exact rfl; exact rfl; intro E; (refine S.len rfl rfl (fun hl33 => ?_)); exact AOps.nil ⟨rfl, rfl⟩)
      first | refine RestK.skip rfl ?_ | (apply RestK.go; exact rfl; exact rfl; intro E; (refine S.len rfl rfl (fun hl33 => ?_)); exact AOps.nil ⟨rfl, rfl⟩)
      exact RestK.nil
      refine RestI.skip rfl ?_
      refine RestI.skip rfl ?_
      apply RestI.cons; exact rfl; exact rfl
      first | refine RestK.skip rfl ?_ | (apply RestK.go; exact rfl; exact rfl; intro E; (refine AOps.move rfl rfl ?_); exact AOps.nil ⟨rfl, rfl⟩)
      first | refine RestK.skip rfl ?_ | (apply RestK.go; exact rfl; exact rfl; intro E; (refine AOps.move rfl rfl ?_); exact AOps.nil ⟨rfl, rfl⟩)
      first | refine RestK.skip rfl ?_ | (apply RestK.go; exact rfl; exact rfl; intro E; (refine AOps.move rfl rfl ?_); exact AOps.nil ⟨rfl, rfl⟩)
      exact RestK.nil
      apply RestI.cons; exact rfl; exact rfl
      first | refine RestK.skip rfl ?_ | (apply RestK.go; exact rfl; exact rfl; intro E; (refine AOps.extract rfl rfl rfl ?_); exact AOps.nil ⟨rfl, rfl⟩)
      first | refine RestK.skip rfl ?_ | (apply RestK.go; exact rfl; exact rfl; intro E; (refine AOps.extract rfl rfl rfl ?_); exact AOps.nil ⟨rfl, rfl⟩)
      first | refine RestK.skip rfl ?_ | (apply RestK.go; exact rfl; exact rfl; intro E; (refine AOps.extract rfl rfl rfl ?_); exact AOps.nil ⟨rfl, rfl⟩)
      exact RestK.nil
      apply RestI.cons; exact rfl; exact rfl
      first | refine RestK.skip rfl ?_ | (apply RestK.go; exact rfl; exact rfl; intro E; (refine AOps.extract rfl rfl rfl ?_); exact AOps.nil ⟨rfl, rfl⟩)
      first | refine RestK.skip rfl ?_ | (apply RestK.go; exact rfl; exact rfl; intro E; (refine AOps.extract rfl rfl rfl ?_); exact AOps.nil ⟨rfl, rfl⟩)
      first | refine RestK.skip rfl ?_ | (apply RestK.go; exact rfl; exact rfl; intro E; (refine AOps.extract rfl rfl rfl ?_); exact AOps.nil ⟨rfl, rfl⟩)
      exact RestK.nil
      apply RestI.cons; exact rfl; exact rfl
      first | refine RestK.skip rfl ?_ | (apply RestK.go; exact rfl; exact rfl; intro E; (refine AOps.assign rfl rfl ?_); exact AOps.nil ⟨rfl, rfl⟩)
      first | refine RestK.skip rfl ?_ | (apply RestK.go; exact rfl; exact rfl; intro E; (refine AOps.assign rfl rfl ?_); exact AOps.nil ⟨rfl, rfl⟩)
      first | refine RestK.skip rfl ?_ | (apply RestK.go; exact rfl; exact rfl; intro E; (refine AOps.assign rfl rfl ?_); exact AOps.nil ⟨rfl, rfl⟩)
      exact RestK.nil
      apply RestI.cons; exact rfl; exact rfl
      first | refine RestK.skip rfl ?_ | (apply RestK.go; exact rfl; exact rfl; intro E; (refine AOps.assign rfl rfl ?_); exact AOps.nil ⟨rfl, rfl⟩)
      first | refine RestK.skip rfl ?_ | (apply RestK.go; exact rfl; exact rfl; intro E; (refine AOps.assign rfl rfl ?_); exact AOps.nil ⟨rfl, rfl⟩)
      first | refine RestK.skip rfl ?_ | (apply RestK.go; exact rfl; exact rfl; intro E; (refine AOps.assign rfl rfl ?_); exact AOps.nil ⟨rfl, rfl⟩)
      exact RestK.nil
      exact RestI.nil
    dsimp only [envEnd]
    refine thn_normal ?_
    refine AWP.seq ?_
    refine AWP.region ?_
    refine AOps.move rfl rfl ?_
    refine AOps.move rfl rfl ?_
    refine W.build rfl rfl rfl rfl ?_
    refine AOps.assign rfl rfl ?_
    refine AOps.assign rfl rfl ?_
    refine W.storeAgg rfl rfl rfl rfl rfl rfl rfl ?_
    refine AOps.nil ?_
    refine thn_normal ?_
    refine AWP.ret ?_
    have ej := Option.some.inj h
    subst ej
    exact Done.ret rfl rfl
theorem ref1_Has_ok {l : List Int} {nv : Int} {r : Bool} (h : ref1_Has l nv = some r) : PureOk Tryd.prog 38 [.c (row 1 intI l), .c (int nv)] (.c (bool r)) := by
  unfold PureOk
  refine FnOk.enter (rs := [.t 4]) Tryd.func38 rfl Tryd.ntmps38 Tryd.results38 rfl ⟨trivial, trivial⟩ (by kernel_rfl) rfl ?_
  unfold ref1_Has at h
  refine AWP.seq ?_
  refine AWP.region ?_
  refine AOps.assign rfl rfl ?_
  refine AOps.nil ?_
  refine thn_normal ?_
  refine AWP.seq ?_
  refine AWP.seq ?_
  refine AWP.region ?_
  refine AOps.assign rfl rfl ?_
  refine AOps.nil ?_
  refine thn_normal ?_
  refine AWP.block ?_
  obtain ⟨oo, ho1, h⟩ := bind_some h
  refine AWP.rngS ho1 (fun iv3 _ => ⟨[(0, .c (row 1 intI l)), (1, .c (int nv)), (5, .c (int iv3))], []⟩) (fun o e st => match o with | .inl _ => e = .exit 0 ∧ Sub [] st ⟨[], []⟩ | .inr x => e = .ret ∧ Done [.t 4] (fun t _ => t = .c (bool x)) .ret st) ?_ ?_ ?_ ?_
  · try dsimp only
    exact Sub.env ⟨rfl, rfl, rfl, trivial⟩
  · intro iv3 s hloiv3 hltiv3 _
    try dsimp only
    refine AWP.seq ?_
    refine AWP.seq ?_
    refine AWP.region ?_
    refine AOps.move rfl rfl ?_
    refine AOps.move rfl rfl ?_
    refine S.len rfl rfl (fun hl8 => ?_)
    refine AOps.lss rfl rfl rfl ?_
    refine AOps.nil ?_
    refine thn_normal ?_
    refine AWP.condNP rfl hltiv3 ?_
    refine AWP.exit ?_
    refine thn_exit ?_
    refine thn_exit ⟨rfl, ?_⟩
    exact Sub.env trivial
  · intro iv3 s o hloiv3 hltiv3 h
    unfold ref1_Has_l1 at h
    try dsimp only at h ⊢
    refine AWP.seq ?_
    refine AWP.seq ?_
    refine AWP.region ?_
    refine AOps.move rfl rfl ?_
    refine AOps.move rfl rfl ?_
    refine S.len rfl rfl (fun hl8 => ?_)
    refine AOps.lss rfl rfl rfl ?_
    refine AOps.nil ?_
    refine thn_normal ?_
    refine AWP.condP rfl hltiv3 ?_
    refine AWP.skip ?_
    refine thn_normal ?_
    refine AWP.seq ?_
    refine AWP.block ?_
    refine AWP.seq ?_
    obtain ⟨a14, ha14, h⟩ := bind_some h
    refine AWP.region ?_
    refine AOps.move rfl rfl ?_
    refine AOps.move rfl rfl ?_
    refine S.idx ha14 rfl rfl rfl rfl ?_
    refine AOps.loadI rfl rfl rfl rfl ?_
    refine AOps.move rfl rfl ?_
    refine AOps.eql rfl rfl rfl ?_
    refine AOps.nil ?_
    refine thn_normal ?_
    refine AWP.ite rfl h (fun hc4 h => ?_) (fun hc4 h => ?_)
    · refine AWP.seq ?_
      refine AWP.region ?_
      refine AOps.assign rfl rfl ?_
      refine AOps.nil ?_
      refine thn_normal ?_
      refine AWP.ret ?_
      refine inB_ret ?_
      refine thn_ret ?_
      have ej := Option.some.inj h
      subst ej
      refine thn_ret ⟨_, rfl, rfl, ?_⟩
      exact Done.ret rfl rfl
    · refine AWP.skip ?_
      refine inB_normal ?_
      refine thn_normal ?_
      refine AWP.region ?_
      refine AOps.move rfl rfl ?_
      refine AOps.add rfl rfl rfl (by omega) ?_
      refine AOps.assign rfl rfl ?_
      refine AOps.nil ?_
      have ej := Option.some.inj h
      subst ej
      refine thn_normal ⟨_, rfl, ?_⟩
      exact Sub.env ⟨rfl, rfl, rfl, trivial⟩
  · intro e s hq
    rcases oo with u | x
    · try dsimp only at h hq
      obtain ⟨rfl, hs⟩ := hq
      refine ⟨_, hs, ?_⟩
      refine inB_exit ?_
      refine thn_normal ?_
      refine AWP.seq ?_
      refine AWP.region ?_
      refine AOps.assign rfl rfl ?_
      refine AOps.nil ?_
      refine thn_normal ?_
      refine AWP.ret ?_
      have ej := Option.some.inj h
      subst ej
      exact Done.ret rfl rfl
    · try dsimp only at h hq
      obtain ⟨rfl, hs⟩ := hq
      refine ⟨_, Sub.refl _ _, ?_⟩
      refine inB_ret ?_
      refine thn_ret ?_
      have ej := Option.some.inj h
      subst ej
      exact hs
theorem ref1_Disjoint_ok {av : List Int} {bv : List Int} {r : Bool} (h : ref1_Disjoint av bv = some r) : PureOk Tryd.prog 22 [.c (row 1 intI av), .c (row 1 intI bv)] (.c (bool r)) := by
  unfold PureOk
  refine FnOk.enter (rs := [.t 4]) Tryd.func22 rfl Tryd.ntmps22 Tryd.results22 rfl ⟨trivial, trivial⟩ (by kernel_rfl) rfl ?_
  unfold ref1_Disjoint at h
  refine AWP.seq ?_
  refine AWP.region ?_
  refine AOps.assign rfl rfl ?_
  refine AOps.nil ?_
  refine thn_normal ?_
  refine AWP.seq ?_
  refine AWP.seq ?_
  refine AWP.region ?_
  refine AOps.assign rfl rfl ?_
  refine AOps.nil ?_
  refine thn_normal ?_
  refine AWP.block ?_
  obtain ⟨oo, ho1, h⟩ := bind_some h
  refine AWP.rngS ho1 (fun iv3 _ => ⟨[(0, .c (row 1 intI av)), (1, .c (row 1 intI bv)), (5, .c (int iv3))], []⟩) (fun o e st => match o with | .inl _ => e = .exit 0 ∧ Sub [] st ⟨[], []⟩ | .inr x => e = .ret ∧ Done [.t 4] (fun t _ => t = .c (bool x)) .ret st) ?_ ?_ ?_ ?_
  · try dsimp only
    exact Sub.env ⟨rfl, rfl, rfl, trivial⟩
  · intro iv3 s hloiv3 hltiv3 _
    try dsimp only
    refine AWP.seq ?_
    refine AWP.seq ?_
    refine AWP.region ?_
    refine AOps.move rfl rfl ?_
    refine AOps.move rfl rfl ?_
    refine S.len rfl rfl (fun hl8 => ?_)
    refine AOps.lss rfl rfl rfl ?_
    refine AOps.nil ?_
    refine thn_normal ?_
    refine AWP.condNP rfl hltiv3 ?_
    refine AWP.exit ?_
    refine thn_exit ?_
    refine thn_exit ⟨rfl, ?_⟩
    exact Sub.env trivial
  · intro iv3 s o hloiv3 hltiv3 h
    unfold ref1_Disjoint_l1 at h
    try dsimp only at h ⊢
    refine AWP.seq ?_
    refine AWP.seq ?_
    refine AWP.region ?_
    refine AOps.move rfl rfl ?_
    refine AOps.move rfl rfl ?_
    refine S.len rfl rfl (fun hl8 => ?_)
    refine AOps.lss rfl rfl rfl ?_
    refine AOps.nil ?_
    refine thn_normal ?_
    refine AWP.condP rfl hltiv3 ?_
    refine AWP.skip ?_
    refine thn_normal ?_
    refine AWP.seq ?_
    refine AWP.block ?_
    refine AWP.seq ?_
    obtain ⟨a15, ha15, h⟩ := bind_some h
    obtain ⟨a17, ha17, h⟩ := bind_some h
    refine AWP.region ?_
    refine AOps.move rfl rfl ?_
    refine AOps.move rfl rfl ?_
    refine AOps.move rfl rfl ?_
    refine S.idx ha15 rfl rfl rfl rfl ?_
    refine AOps.loadI rfl rfl rfl rfl ?_
    refine AOps.callR rfl rfl rfl rfl (ref1_Has_ok ha17) rfl ?_
    refine AOps.nil ?_
    refine thn_normal ?_
    refine AWP.iteB rfl h (fun hc4 h => ?_) (fun hc4 h => ?_)
    · refine AWP.seq ?_
      refine AWP.region ?_
      refine AOps.assign rfl rfl ?_
      refine AOps.nil ?_
      refine thn_normal ?_
      refine AWP.ret ?_
      refine inB_ret ?_
      refine thn_ret ?_
      have ej := Option.some.inj h
      subst ej
      refine thn_ret ⟨_, rfl, rfl, ?_⟩
      exact Done.ret rfl rfl
    · refine AWP.skip ?_
      refine inB_normal ?_
      refine thn_normal ?_
      refine AWP.region ?_
      refine AOps.move rfl rfl ?_
      refine AOps.add rfl rfl rfl (by omega) ?_
      refine AOps.assign rfl rfl ?_
      refine AOps.nil ?_
      have ej := Option.some.inj h
      subst ej
      refine thn_normal ⟨_, rfl, ?_⟩
      exact Sub.env ⟨rfl, rfl, rfl, trivial⟩
  · intro e s hq
    rcases oo with u | x
    · try dsimp only at h hq
      obtain ⟨rfl, hs⟩ := hq
      refine ⟨_, hs, ?_⟩
      refine inB_exit ?_
      refine thn_normal ?_
      refine AWP.seq ?_
      refine AWP.region ?_
      refine AOps.assign rfl rfl ?_
      refine AOps.nil ?_
      refine thn_normal ?_
      refine AWP.ret ?_
      have ej := Option.some.inj h
      subst ej
      exact Done.ret rfl rfl
    · try dsimp only at h hq
      obtain ⟨rfl, hs⟩ := hq
      refine ⟨_, Sub.refl _ _, ?_⟩
      refine inB_ret ?_
      refine thn_ret ?_
      have ej := Option.some.inj h
      subst ej
      exact hs
end Ab
end
