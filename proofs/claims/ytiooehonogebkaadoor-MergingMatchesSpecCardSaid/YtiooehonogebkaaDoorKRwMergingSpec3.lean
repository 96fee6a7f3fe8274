/-
  Texts that the proof stands on.
-/
import Derived.Test.YtiooehonogebkaaDoorKRwMergingSpec2
import Derived.Shelf.Sort.Plain
import Derived.Ground.Names2Prog
import Derived.Shelf.Slices.Clone
import Derived.Shelf.Slices.SearchI
import Derived.Shelf.Slices.Cells
import Derived.Shelf.Slices.In.SortNone
import Derived.Shelf.Slices.Empties
import Derived.Test.YtiooehonogebkaaDoorProg
set_option linter.all false
section
namespace Ab
open Go Go.Proofs
set_option linter.all false
abbrev eLi64 (l : List Int) : List I := [.sl 1 (l.map intI)]
structure TOperator where
  pre : List Int
  add : List Int
  del : List Int
  cost : Int
abbrev eTOperator (v : TOperator) : List I := [.sl 1 (List.map intI v.pre), .sl 1 (List.map intI v.add), .sl 1 (List.map intI v.del), .val (.int .i64 v.cost)]
structure TTask where
  facts : Int
  init : List Int
  goal : List Int
  operators : List TOperator
abbrev eTTask (v : TTask) : List I := [.val (.int .i64 v.facts), .sl 1 (List.map intI v.init), .sl 1 (List.map intI v.goal), .sl 4 (List.map eTOperator v.operators)]
structure TFault where
  code : Int
  index : Int
abbrev eLLi64 (l : List (List Int)) : List I := [.sl 1 (l.map eLi64)]
structure Tx_int64_y_int_signed_bool_code_abi_BoundsErrorCode where
  fx : Int
  fy : Int
  signed : Bool
  code : Int
structure Truntime_boundsError where
  fx : Int
  fy : Int
  signed : Bool
  code : Int
structure TFacts_int_Init_int_Goal_int_Operators_api_Operator where
  facts : Int
  init : List Int
  goal : List Int
  operators : List TOperator
structure TCode_int_Index_int where
  code : Int
  index : Int
abbrev eA4i64 (v : Int × Int × Int × Int) : List I := [.val (.int .i64 v.1), .val (.int .i64 v.2.1), .val (.int .i64 v.2.2.1), .val (.int .i64 v.2.2.2)]
structure TPre_int_Add_int_Del_int_Cost_int where
  pre : List Int
  add : List Int
  del : List Int
  cost : Int
def strips_IsSet_l1 (l : List Int) (nv : Int) : Int → Unit → Option (Unit ⊕ Bool) := fun t3 _ => Option.bind (ix l t3) fun a12 => Option.bind (if a12 < 0 then some true else if nv ≤ a12 then some true else if 0 < t3 then Option.bind (ix l (t3 - 1)) fun a29 => some (decide (a12 ≤ a29)) else some false) fun t4 => if t4 = true then some (.inr false) else some (.inl ())
def strips_IsSet (l : List Int) (nv : Int) : Option Bool := (Option.bind (rngX 0 (l.length : Int) (strips_IsSet_l1 l nv) ()) fun | .inl _ => some true | .inr x => some x)
def cmp_isNaN_int (xv : Int) : Option Bool := some (!(decide (xv = xv)))
def cmp_Less_int (xv : Int) (yv : Int) : Option Bool := Option.bind (Option.bind (cmp_isNaN_int xv) fun a6 => if a6 = true then Option.bind (cmp_isNaN_int yv) fun a9 => if (!a9) = true then some true else some (decide (xv < yv)) else some (decide (xv < yv))) fun t3 => some t3
def slices_isNaN_int (xv : Int) : Option Bool := some (!(decide (xv = xv)))
def slices_BinarySearch_int_int_l1 (xv : List Int) (target : Int) : (Int × Int) → Option ((Int × Int) ⊕ Int) := fun (iv3, j4) => if iv3 < j4 then Option.bind (ix xv (w64 (shrW .u64 ((IntKind.u64).wrap (w64 (iv3 + j4))) 1))) fun a24 => Option.bind (cmp_Less_int a24 target) fun a27 => if a27 = true then some (.inl (w64 ((w64 (shrW .u64 ((IntKind.u64).wrap (w64 (iv3 + j4))) 1)) + 1), j4)) else some (.inl (iv3, w64 (shrW .u64 ((IntKind.u64).wrap (w64 (iv3 + j4))) 1))) else some (.inr iv3)
noncomputable def slices_BinarySearch_int_int (xv : List Int) (target : Int) : Option (Int × Bool) := Option.bind (Loop (slices_BinarySearch_int_int_l1 xv target) (0, (xv.length : Int))) fun iv5 => Option.bind (if iv5 < (xv.length : Int) then Option.bind (ix xv iv5) fun a38 => if a38 = target then some true else Option.bind (ix xv iv5) fun a45 => Option.bind (slices_isNaN_int a45) fun a47 => if a47 = true then Option.bind (slices_isNaN_int target) fun a50 => some a50 else some false else some false) fun t8 => some (iv5, t8)
noncomputable def strips_Meets_1 (xv : Int) (c2 : List Int) : Option Bool := Option.bind (slices_BinarySearch_int_int c2 xv) fun a9 => some a9.2
def slices_IndexFunc_int_int_l1 (sv : List Int) (fv : Int → Option Bool) : Int → Unit → Option (Unit ⊕ Int) := fun t3 _ => Option.bind (ix sv t3) fun a14 => Option.bind (fv a14) fun a16 => if a16 = true then some (.inr t3) else some (.inl ())
def slices_IndexFunc_int_int (sv : List Int) (fv : Int → Option Bool) : Option Int := (Option.bind (rngX 0 (sv.length : Int) (slices_IndexFunc_int_int_l1 sv fv) ()) fun | .inl _ => some (-1) | .inr x => some x)
def slices_ContainsFunc_int_int (sv : List Int) (fv : Int → Option Bool) : Option Bool := Option.bind (slices_IndexFunc_int_int sv fv) fun a7 => some (decide (0 ≤ a7))
noncomputable def strips_Meets (av : List Int) (bv : List Int) : Option Bool := Option.bind (slices_ContainsFunc_int_int av (fun y1 => strips_Meets_1 y1 bv)) fun a7 => some a7
noncomputable def strips_operator (ov : TOperator) (facts : Int) : Option Int := Option.bind (Option.bind (strips_IsSet ov.pre facts) fun a9 => if (!a9) = true then some true else Option.bind (strips_IsSet ov.add facts) fun a15 => if (!a15) = true then some true else Option.bind (strips_IsSet ov.del facts) fun a22 => if (!a22) = true then some true else Option.bind (strips_Meets ov.add ov.del) fun a30 => some a30) fun t3 => if t3 = true then some 5 else if ((decide (ov.cost < 0)) || (decide (100 < ov.cost))) = true then some 3 else some 0
noncomputable def strips_Validate_l1 (t : TTask) : Int → Unit → Option (Unit ⊕ TFault) := fun t6 _ => Option.bind (ix t.operators t6) fun a44 => Option.bind (strips_operator a44 t.facts) fun a49 => if a49 = 0 then some (.inl ()) else some (.inr (⟨a49, t6⟩ : TFault))
noncomputable def strips_Validate (t : TTask) : Option TFault := if ((decide (t.facts < 0)) || (decide (24 < t.facts))) = true then some (⟨3, -1⟩ : TFault) else Option.bind (strips_IsSet t.init t.facts) fun a21 => if (!a21) = true then some (⟨5, -2⟩ : TFault) else Option.bind (strips_IsSet t.goal t.facts) fun a29 => if (!a29) = true then some (⟨5, -3⟩ : TFault) else if 40 < (t.operators.length : Int) then some (⟨2, -1⟩ : TFault) else (Option.bind (rngX 0 (t.operators.length : Int) (strips_Validate_l1 t) ()) fun | .inl _ => some (⟨0, 0⟩ : TFault) | .inr x => some x)
def merging_check_l1 (t : TTask) (goals : List (List Int)) : Int → Unit → Option (Unit ⊕ TFault) := fun t7 _ => Option.bind (ix goals t7) fun a42 => Option.bind (strips_IsSet a42 t.facts) fun a47 => if (!a47) = true then some (.inr (⟨5, w64 ((-10) - t7)⟩ : TFault)) else some (.inl ())
def merging_check_l3 (t : TTask) (t9 : Int) (a58 : List Int) : Int → Unit → Option (Unit ⊕ TFault) := fun t11 _ => Option.bind (ix a58 t11) fun a70 => if ((decide (a70 < 0)) || (decide ((t.operators.length : Int) ≤ a70))) = true then some (.inr (⟨3, w64 ((-20) - t9)⟩ : TFault)) else some (.inl ())
def merging_check_l2 (t : TTask) (plans : List (List Int)) : Int → Unit → Option (Unit ⊕ TFault) := fun t9 _ => Option.bind (ix plans t9) fun a58 => if 6 < (a58.length : Int) then some (.inr (⟨2, w64 ((-20) - t9)⟩ : TFault)) else (Option.bind (rngX 0 (a58.length : Int) (merging_check_l3 t t9 a58) ()) fun | .inl _ => some (.inl ()) | .inr x => some (.inr x))
noncomputable def merging_check (t : TTask) (goals : List (List Int)) (plans : List (List Int)) : Option TFault := Option.bind (strips_Validate t) fun a15 => if (!((decide (a15.code = 0)) && (decide (a15.index = 0)))) = true then some a15 else if ((decide ((plans.length : Int) = 0)) || (decide (4 < (plans.length : Int)))) = true then some (⟨9, -8⟩ : TFault) else if (goals.length : Int) = (plans.length : Int) then (Option.bind (rngX 0 (goals.length : Int) (merging_check_l1 t goals) ()) fun | .inl _ => (Option.bind (rngX 0 (plans.length : Int) (merging_check_l2 t plans) ()) fun | .inl _ => some (⟨0, 0⟩ : TFault) | .inr x => some x) | .inr x => some x) else some (⟨9, -9⟩ : TFault)
noncomputable def strips_Update_l1 (sv : List Int) (del : List Int) : Int → (List Int) → Option (List Int) := fun t5 c4 => Option.bind (Option.bind (ix sv t5) fun a16 => Option.bind (slices_BinarySearch_int_int del a16) fun a21 => if (!a21.2) = true then Option.bind (app 8 c4 [a16]) fun a29 => some a29 else some c4) fun c6 => some c6
noncomputable def strips_Update (sv : List Int) (add : List Int) (del : List Int) : Option (List Int) := (Option.bind (forR 0 (sv.length : Int) (strips_Update_l1 sv del) []) fun c4 => Option.bind (app 8 c4 add) fun a33 => Option.bind (sortL a33) fun a35 => some (compactL a35))
noncomputable def strips_Union (av : List Int) (bv : List Int) : Option (List Int) := Option.bind (strips_Update av bv []) fun a7 => some a7
noncomputable def merging_union_l1 (l : List (List Int)) : Int → (List Int) → Option (List Int) := fun t3 c2 => Option.bind (ix l t3) fun a10 => Option.bind (strips_Union c2 a10) fun a14 => some a14
noncomputable def merging_union (l : List (List Int)) : Option (List Int) := (Option.bind (forR 0 (l.length : Int) (merging_union_l1 l) []) fun c2 => some c2)
def internal_strconv_small (iv : Int) : Option ByteArray := if iv < 10 then Option.bind (subS (⟨#[48, 49, 50, 51, 52, 53, 54, 55, 56, 57, 97, 98, 99, 100, 101, 102, 103, 104, 105, 106, 107, 108, 109, 110, 111, 112, 113, 114, 115, 116, 117, 118, 119, 120, 121, 122]⟩ : ByteArray) iv (w64 (iv + 1))) fun a8 => some a8 else Option.bind (subS (⟨#[48, 48, 48, 49, 48, 50, 48, 51, 48, 52, 48, 53, 48, 54, 48, 55, 48, 56, 48, 57, 49, 48, 49, 49, 49, 50, 49, 51, 49, 52, 49, 53, 49, 54, 49, 55, 49, 56, 49, 57, 50, 48, 50, 49, 50, 50, 50, 51, 50, 52, 50, 53, 50, 54, 50, 55, 50, 56, 50, 57, 51, 48, 51, 49, 51, 50, 51, 51, 51, 52, 51, 53, 51, 54, 51, 55, 51, 56, 51, 57, 52, 48, 52, 49, 52, 50, 52, 51, 52, 52, 52, 53, 52, 54, 52, 55, 52, 56, 52, 57, 53, 48, 53, 49, 53, 50, 53, 51, 53, 52, 53, 53, 53, 54, 53, 55, 53, 56, 53, 57, 54, 48, 54, 49, 54, 50, 54, 51, 54, 52, 54, 53, 54, 54, 54, 55, 54, 56, 54, 57, 55, 48, 55, 49, 55, 50, 55, 51, 55, 52, 55, 53, 55, 54, 55, 55, 55, 56, 55, 57, 56, 48, 56, 49, 56, 50, 56, 51, 56, 52, 56, 53, 56, 54, 56, 55, 56, 56, 56, 57, 57, 48, 57, 49, 57, 50, 57, 51, 57, 52, 57, 53, 57, 54, 57, 55, 57, 56, 57, 57]⟩ : ByteArray) (w64 (iv * 2)) (w64 ((w64 (iv * 2)) + 2))) fun a14 => some a14
abbrev internal_strconv_AppendUint_w3_s0 (iv : Int) (base : Int) (l : List Int) : Store := [.one (vec 1 eU8 l)]
def internal_strconv_AppendUint_w3 (iv : Int) (base : Int) (l : List Int) : Option (List Int) := if base = 10 then if iv < 100 then Option.bind (internal_strconv_small (w64 iv)) fun a16 => Option.bind (app 1 l (strL a16)) fun a17 => some a17 else none else none
abbrev internal_strconv_AppendInt_w2_s0 (iv : Int) (base : Int) (l : List Int) : Store := [.one (vec 1 eU8 l)]
def internal_strconv_AppendInt_w2 (iv : Int) (base : Int) (l : List Int) : Option (List Int) := Option.bind (if iv < 0 then none else some ()) fun _ => Option.bind (internal_strconv_AppendUint_w3 ((IntKind.u64).wrap iv) base l) fun a20 => some a20
abbrev strconv_AppendInt_w1_s0 (iv : Int) (base : Int) (l : List Int) : Store := [.one (vec 1 eU8 l)]
def strconv_AppendInt_w1 (iv : Int) (base : Int) (l : List Int) : Option (List Int) := Option.bind (internal_strconv_AppendInt_w2 iv base l) fun a10 => some a10
def belief_Key_l2 (a12 : List Int) : Int → (List Int) → Option (List Int) := fun t5 c4 => Option.bind (ix a12 t5) fun a18 => Option.bind (strconv_AppendInt_w1 a18 10 c4) fun a22 => Option.bind (app 1 a22 [44]) fun a24 => some a24
def belief_Key_l1 (l : List (List Int)) : Int → (List Int) → Option (List Int) := fun t3 c2 => Option.bind (ix l t3) fun a12 => (Option.bind (forR 0 (a12.length : Int) (belief_Key_l2 a12) c2) fun c4 => Option.bind (app 1 c4 [59]) fun a28 => some a28)
def belief_Key (l : List (List Int)) : Option ByteArray := (Option.bind (forR 0 (l.length : Int) (belief_Key_l1 l) []) fun c2 => some (strB c2))
def strips_Contains_l2 (sv : List Int) (a12 : Int) : Int → Option (Int ⊕ Int) := fun iv5 => Option.bind (if iv5 < (sv.length : Int) then Option.bind (ix sv iv5) fun a21 => some (decide (a21 < a12)) else some false) fun t7 => if t7 = true then some (.inl (w64 (iv5 + 1))) else some (.inr iv5)
noncomputable def strips_Contains_l1 (sv : List Int) (part : List Int) : Int → Int → Option (Int ⊕ Bool) := fun t4 iv3 => Option.bind (ix part t4) fun a12 => Option.bind (Loop (strips_Contains_l2 sv a12) iv3) fun iv6 => Option.bind (if iv6 = (sv.length : Int) then some true else Option.bind (ix sv iv6) fun a35 => some (!(decide (a35 = a12)))) fun t11 => if t11 = true then some (.inr false) else some (.inl iv6)
noncomputable def strips_Contains (sv : List Int) (part : List Int) : Option Bool := (Option.bind (rngX 0 (part.length : Int) (strips_Contains_l1 sv part) 0) fun | .inl iv3 => some true | .inr x => some x)
noncomputable def strips_Can (t : TTask) (sv : List Int) (op : Int) : Option Bool := Option.bind (ix t.operators op) fun a11 => Option.bind (strips_Contains sv a11.pre) fun a14 => some a14
noncomputable def strips_Next (t : TTask) (sv : List Int) (op : Int) : Option (List Int) := Option.bind (ix t.operators op) fun a11 => Option.bind (strips_Update sv a11.add a11.del) fun a18 => some a18
abbrev merging_merger_turns_w1_s0 (sv : List Int) (atv : List Int) (t : TTask) (plans : List (List Int)) (l : List Int) (l6 : List (ByteArray × Int)) : Store := [.one (.cells 7 [[int t.facts, row 1 intI t.init, row 1 intI t.goal, row 4 eTOperator t.operators, row 1 eLi64 plans, .own 1 0 l.length, .map 2]]), .one (vec 1 intI l), .one (mapB Value.string (Value.int .i64) l6)]
def merging_merger_turns_w1_j2 : ((List Int) × (List (ByteArray × Int)) × Bool) → Option (((List Int) × (List (ByteArray × Int)) × Bool) ⊕ ((List Int) × Bool × (List Int) × (List (ByteArray × Int)))) := fun (c16, c17, done18) => some (.inl (c16, c17, done18))
noncomputable def merging_merger_turns_w1_l1 (sv : List Int) (atv : List Int) (t : TTask) (plans : List (List Int)) (slf : ((List Int) × (List Int) × (List Int) × (List (ByteArray × Int))) → Option ((List Int) × Bool × (List Int) × (List (ByteArray × Int)))) : Int → ((List Int) × (List (ByteArray × Int)) × Bool) → Option (((List Int) × (List (ByteArray × Int)) × Bool) ⊕ ((List Int) × Bool × (List Int) × (List (ByteArray × Int)))) := fun t15 (c12, c13, done14) => Option.bind (ix plans t15) fun a34 => Option.bind (ix atv t15) fun a38 => if a38 = (a34.length : Int) then merging_merger_turns_w1_j2 (c12, c13, done14) else Option.bind (ix atv t15) fun a51 => Option.bind (ix a34 a51) fun a53 => Option.bind (strips_Can t sv a53) fun a55 => if (!a55) = true then merging_merger_turns_w1_j2 (c12, c13, false) else Option.bind (slices_Clone_int_int atv) fun a58 => Option.bind (ix a58 t15) fun a61 => Option.bind (ix a58 t15) fun a64 => Option.bind (ix atv t15) fun a75 => Option.bind (ix a34 a75) fun a77 => Option.bind (strips_Next t sv a77) fun a79 => Option.bind (slf (a79, a58.set t15.toNat (w64 (a61 + 1)), c12, c13)) fun a81 => if a81.2.1 = true then Option.bind (app 8 [t15] a81.1) fun a88 => some (.inr (a88, true, a81.2.2.1, a81.2.2.2)) else merging_merger_turns_w1_j2 (a81.2.2.1, a81.2.2.2, false)
noncomputable def merging_merger_turns_w1_b (t : TTask) (plans : List (List Int)) (slf : ((List Int) × (List Int) × (List Int) × (List (ByteArray × Int))) → Option ((List Int) × Bool × (List Int) × (List (ByteArray × Int)))) : ((List Int) × (List Int) × (List Int) × (List (ByteArray × Int))) → Option ((List Int) × Bool × (List Int) × (List (ByteArray × Int))) := fun (sv, atv, l, l6) => Option.bind (belief_Key [sv, atv]) fun a18 => if 0 < Option.getD (mget l6 a18) 0 then some ([], false, l, l6) else (Option.bind (rngX 0 (plans.length : Int) (merging_merger_turns_w1_l1 sv atv t plans slf) (l, l6, true)) fun | .inl (c12, c13, done14) => Option.bind (if done14 = true then Option.bind (strips_Contains sv c12) fun a97 => some a97 else some false) fun t22 => if t22 = true then some ([], true, c12, c13) else some ([], false, c12, mset c13 a18 1) | .inr x => some x)
noncomputable def merging_merger_turns_w1 (sv : List Int) (atv : List Int) (t : TTask) (plans : List (List Int)) (l : List Int) (l6 : List (ByteArray × Int)) : Option ((List Int) × Bool × (List Int) × (List (ByteArray × Int))) := Rec (merging_merger_turns_w1_b t plans) (sv, atv, l, l6)
abbrev merging_merger_turns_w_s0 (sv : List Int) (t : TTask) (plans : List (List Int)) (l : List Int) (l5 : List Int) (l6 : List (ByteArray × Int)) : Store := [.one (.cells 7 [[int t.facts, row 1 intI t.init, row 1 intI t.goal, row 4 eTOperator t.operators, row 1 eLi64 plans, .own 2 0 l5.length, .map 3]]), .one (vec 1 intI l), .one (vec 1 intI l5), .one (mapB Value.string (Value.int .i64) l6)]
def merging_merger_turns_w_j2 : ((List Int) × (List (ByteArray × Int)) × Bool) → Option (((List Int) × (List (ByteArray × Int)) × Bool) ⊕ ((List Int) × (List (ByteArray × Int)) × (List Int) × Bool)) := fun (c66, c67, done68) => some (.inl (c66, c67, done68))
noncomputable def merging_merger_turns_w_l1 (sv : List Int) (t : TTask) (plans : List (List Int)) (l : List Int) : Int → ((List Int) × (List (ByteArray × Int)) × Bool) → Option (((List Int) × (List (ByteArray × Int)) × Bool) ⊕ ((List Int) × (List (ByteArray × Int)) × (List Int) × Bool)) := fun t65 (c62, c63, done64) => Option.bind (ix plans t65) fun a34 => Option.bind (ix l t65) fun a38 => if a38 = (a34.length : Int) then merging_merger_turns_w_j2 (c62, c63, done64) else Option.bind (ix l t65) fun a51 => Option.bind (ix a34 a51) fun a53 => Option.bind (strips_Can t sv a53) fun a55 => if (!a55) = true then merging_merger_turns_w_j2 (c62, c63, false) else Option.bind (slices_Clone_int_int l) fun a58 => Option.bind (ix a58 t65) fun a61 => Option.bind (ix a58 t65) fun a64 => Option.bind (ix l t65) fun a75 => Option.bind (ix a34 a75) fun a77 => Option.bind (strips_Next t sv a77) fun a79 => Option.bind (merging_merger_turns_w1 a79 (a58.set t65.toNat (w64 (a61 + 1))) t plans c62 c63) fun a81 => if a81.2.1 = true then Option.bind (app 8 [t65] a81.1) fun a88 => some (.inr (a81.2.2.1, a81.2.2.2, a88, true)) else merging_merger_turns_w_j2 (a81.2.2.1, a81.2.2.2, false)
noncomputable def merging_merger_turns_w (sv : List Int) (t : TTask) (plans : List (List Int)) (l : List Int) (l5 : List Int) (l6 : List (ByteArray × Int)) : Option ((List Int) × (List (ByteArray × Int)) × (List Int) × Bool) := Option.bind (belief_Key [sv, l]) fun a18 => if 0 < Option.getD (mget l6 a18) 0 then some (l5, l6, [], false) else (Option.bind (rngX 0 (plans.length : Int) (merging_merger_turns_w_l1 sv t plans l) (l5, l6, true)) fun | .inl (c62, c63, done64) => Option.bind (if done64 = true then Option.bind (strips_Contains sv c62) fun a97 => some a97 else some false) fun t72 => if t72 = true then some (c62, c63, [], true) else some (c62, mset c63 a18 1, [], false) | .inr x => some x)
noncomputable def merging_Merge (t : TTask) (goals : List (List Int)) (plans : List (List Int)) : Option ((List Int) × Bool × TFault) := Option.bind (merging_check t goals plans) fun a16 => if (!((decide (a16.code = 0)) && (decide (a16.index = 0)))) = true then some ([], false, a16) else Option.bind (merging_union goals) fun a24 => Option.bind (mkL 8 (plans.length : Int) 0) fun a34 => Option.bind (merging_merger_turns_w t.init t plans a34 a24 ([] : List (ByteArray × Int))) fun a35 => some (a35.2.2.1, a35.2.2.2, (⟨0, 0⟩ : TFault))
def ref1_In (nv : Int) (low : Int) (high : Int) : Option Bool := some ((decide (low ≤ nv)) && (decide (nv ≤ high)))
def ref1_At (code : Int) (index : Int) : Option TFault := some (⟨code, index⟩ : TFault)
def ref1_IsSet_l1 (l : List Int) (nv : Int) : Int → Unit → Option (Unit ⊕ Bool) := fun iv3 _ => Option.bind (Option.bind (ix l iv3) fun a14 => Option.bind (ref1_In a14 0 (w64 (nv - 1))) fun a18 => if (!a18) = true then some true else if 0 < iv3 then Option.bind (ix l iv3) fun a26 => Option.bind (ix l (iv3 - 1)) fun a31 => some (decide (a26 ≤ a31)) else some false) fun t4 => if t4 = true then some (.inr false) else some (.inl ())
def ref1_IsSet (l : List Int) (nv : Int) : Option Bool := (Option.bind (rngX 0 (l.length : Int) (ref1_IsSet_l1 l nv) ()) fun | .inl _ => some true | .inr x => some x)
def ref1_Has_l1 (l : List Int) (nv : Int) : Int → Unit → Option (Unit ⊕ Bool) := fun iv3 _ => Option.bind (ix l iv3) fun a14 => if a14 = nv then some (.inr true) else some (.inl ())
def ref1_Has (l : List Int) (nv : Int) : Option Bool := (Option.bind (rngX 0 (l.length : Int) (ref1_Has_l1 l nv) ()) fun | .inl _ => some false | .inr x => some x)
def ref1_Disjoint_l1 (av : List Int) (bv : List Int) : Int → Unit → Option (Unit ⊕ Bool) := fun iv3 _ => Option.bind (ix av iv3) fun a15 => Option.bind (ref1_Has bv a15) fun a17 => if a17 = true then some (.inr false) else some (.inl ())
def ref1_Disjoint (av : List Int) (bv : List Int) : Option Bool := (Option.bind (rngX 0 (av.length : Int) (ref1_Disjoint_l1 av bv) ()) fun | .inl _ => some true | .inr x => some x)
def ref1_TaskFault_l1 (t : TTask) : Int → Unit → Option (Unit ⊕ TFault) := fun iv6 _ => Option.bind (ix t.operators iv6) fun a39 => Option.bind (Option.bind (ref1_IsSet a39.pre t.facts) fun a45 => if (!a45) = true then some true else Option.bind (ref1_IsSet a39.add t.facts) fun a52 => if (!a52) = true then some true else Option.bind (ref1_IsSet a39.del t.facts) fun a60 => if (!a60) = true then some true else Option.bind (ref1_Disjoint a39.add a39.del) fun a68 => some (!a68)) fun t7 => if t7 = true then Option.bind (ref1_At 5 iv6) fun a72 => some (.inr a72) else Option.bind (ref1_In a39.cost 0 100) fun a75 => if (!a75) = true then Option.bind (ref1_At 3 iv6) fun a78 => some (.inr a78) else some (.inl ())
def ref1_TaskFault (t : TTask) : Option TFault := Option.bind (ref1_In t.facts 0 24) fun a7 => if (!a7) = true then Option.bind (ref1_At 3 (-1)) fun a9 => some a9 else Option.bind (ref1_IsSet t.init t.facts) fun a14 => if (!a14) = true then Option.bind (ref1_At 5 (-2)) fun a16 => some a16 else Option.bind (ref1_IsSet t.goal t.facts) fun a21 => if (!a21) = true then Option.bind (ref1_At 5 (-3)) fun a23 => some a23 else if 40 < (t.operators.length : Int) then Option.bind (ref1_At 2 (-1)) fun a28 => some a28 else (Option.bind (rngX 0 (t.operators.length : Int) (ref1_TaskFault_l1 t) ()) fun | .inl _ => some (⟨0, 0⟩ : TFault) | .inr x => some x)
def ref1_StepsFault_l1 (operators : Int) (plan : List Int) : Int → Unit → Option (Unit ⊕ TFault) := fun iv4 _ => Option.bind (ix plan iv4) fun a18 => Option.bind (ref1_In a18 0 (w64 (operators - 1))) fun a22 => if (!a22) = true then Option.bind (ref1_At 3 (-6)) fun a24 => some (.inr a24) else some (.inl ())
def ref1_StepsFault (operators : Int) (plan : List Int) : Option TFault := if 60 < (plan.length : Int) then Option.bind (ref1_At 2 (-5)) fun a9 => some a9 else (Option.bind (rngX 0 (plan.length : Int) (ref1_StepsFault_l1 operators plan) ()) fun | .inl _ => some (⟨0, 0⟩ : TFault) | .inr x => some x)
def ref8_PartiesFault_l1 (t : TTask) (goals : List (List Int)) : Int → Unit → Option (Unit ⊕ TFault) := fun p7 _ => Option.bind (ix goals p7) fun a35 => Option.bind (ref1_IsSet a35 t.facts) fun a39 => if (!a39) = true then Option.bind (ref1_At 5 (w64 ((-10) - p7))) fun a43 => some (.inr a43) else some (.inl ())
def ref8_PartiesFault_l2 (t : TTask) (plans : List (List Int)) : Int → Unit → Option (Unit ⊕ TFault) := fun p9 _ => Option.bind (ix plans p9) fun a52 => if 6 < (a52.length : Int) then Option.bind (ref1_At 2 (w64 ((-20) - p9))) fun a58 => some (.inr a58) else Option.bind (ix plans p9) fun a64 => Option.bind (ref1_StepsFault (t.operators.length : Int) a64) fun a66 => if a66.code = 0 then some (.inl ()) else Option.bind (ref1_At 3 (w64 ((-20) - p9))) fun a71 => some (.inr a71)
def ref8_PartiesFault (t : TTask) (goals : List (List Int)) (plans : List (List Int)) : Option TFault := Option.bind (ref1_TaskFault t) fun a11 => if a11.code = 0 then Option.bind (ref1_In (plans.length : Int) 1 4) fun a18 => if (!a18) = true then Option.bind (ref1_At 9 (-8)) fun a20 => some a20 else if (goals.length : Int) = (plans.length : Int) then (Option.bind (rngX 0 (goals.length : Int) (ref8_PartiesFault_l1 t goals) ()) fun | .inl _ => (Option.bind (rngX 0 (plans.length : Int) (ref8_PartiesFault_l2 t plans) ()) fun | .inl _ => some (⟨0, 0⟩ : TFault) | .inr x => some x) | .inr x => some x) else Option.bind (ref1_At 9 (-9)) fun a26 => some a26 else some a11
def law8_step : Option TTask := some (⟨2, [0], [1], [(⟨[0], [1], [0], 1⟩ : TOperator), (⟨[], [1], [], 3⟩ : TOperator)]⟩ : TTask)
def merging_Check_l1 (plans : List (List Int)) (turns : List Int) : Int → Unit → Option (Unit ⊕ (Bool × TFault)) := fun t7 _ => Option.bind (ix turns t7) fun a34 => if ((decide (a34 < 0)) || (decide ((plans.length : Int) ≤ a34))) = true then some (.inr (false, (⟨3, -6⟩ : TFault))) else some (.inl ())
noncomputable def merging_Check_l2 (t : TTask) (plans : List (List Int)) (turns : List Int) : Int → ((List Int) × (List Int)) → Option (((List Int) × (List Int)) ⊕ (Bool × TFault)) := fun t11 (c9, sv10) => Option.bind (ix turns t11) fun a55 => Option.bind (Option.bind (ix c9 a55) fun a59 => Option.bind (ix plans a55) fun a63 => if a59 = (a63.length : Int) then some true else Option.bind (ix plans a55) fun a72 => Option.bind (ix c9 a55) fun a76 => Option.bind (ix a72 a76) fun a78 => Option.bind (strips_Can t sv10 a78) fun a80 => some (!a80)) fun t12 => if t12 = true then some (.inr (false, (⟨0, 0⟩ : TFault))) else Option.bind (ix plans a55) fun a88 => Option.bind (ix c9 a55) fun a92 => Option.bind (ix a88 a92) fun a94 => Option.bind (strips_Next t sv10 a94) fun a96 => Option.bind (ix c9 a55) fun a99 => Option.bind (ix c9 a55) fun a102 => some (.inl (c9.set a55.toNat (w64 (a99 + 1)), a96))
def merging_Check_l3 (plans : List (List Int)) (c9 : List Int) : Int → Unit → Option (Unit ⊕ (Bool × TFault)) := fun t16 _ => Option.bind (ix c9 t16) fun a111 => Option.bind (ix plans t16) fun a115 => if a111 < (a115.length : Int) then some (.inr (false, (⟨0, 0⟩ : TFault))) else some (.inl ())
noncomputable def merging_Check (t : TTask) (goals : List (List Int)) (plans : List (List Int)) (turns : List Int) : Option (Bool × TFault) := Option.bind (merging_check t goals plans) fun a21 => if (!((decide (a21.code = 0)) && (decide (a21.index = 0)))) = true then some (false, a21) else if 60 < (turns.length : Int) then some (false, (⟨2, -5⟩ : TFault)) else (Option.bind (rngX 0 (turns.length : Int) (merging_Check_l1 plans turns) ()) fun | .inl _ => Option.bind (mkL 8 (plans.length : Int) 0) fun a48 => (Option.bind (rngX 0 (turns.length : Int) (merging_Check_l2 t plans turns) (a48, t.init)) fun | .inl (c9, sv10) => (Option.bind (rngX 0 (plans.length : Int) (merging_Check_l3 plans c9) ()) fun | .inl _ => Option.bind (merging_union goals) fun a123 => Option.bind (strips_Contains sv10 a123) fun a124 => some (a124, (⟨0, 0⟩ : TFault)) | .inr x => some x) | .inr x => some x) | .inr x => some x)
def equal_Numbers_l1 (av : List Int) (bv : List Int) : Int → Unit → Option (Unit ⊕ Bool) := fun iv4 _ => Option.bind (ix av iv4) fun a19 => Option.bind (ix bv iv4) fun a23 => if a19 = a23 then some (.inl ()) else some (.inr false)
def equal_Numbers (av : List Int) (bv : List Int) : Option Bool := if (av.length : Int) = (bv.length : Int) then (Option.bind (rngX 0 (av.length : Int) (equal_Numbers_l1 av bv) ()) fun | .inl _ => some true | .inr x => some x) else some false
noncomputable def law8_merged : Option Bool := Option.bind (law8_step) fun a7 => Option.bind (merging_Merge a7 ([[1]]) ([[1, 0]])) fun a12 => Option.bind (law8_step) fun a17 => Option.bind (merging_Check a17 ([[1]]) ([[1, 0]]) a12.1) fun a23 => Option.bind (if a12.2.2.code = 0 then if a23.2.code = 0 then if a12.2.1 = true then if a23.1 = true then Option.bind (equal_Numbers a12.1 [0, 0]) fun a43 => some a43 else some false else some false else some false else some false) fun t1 => some t1
def ref1_Subset_l1 (part : List Int) (l : List Int) : Int → Unit → Option (Unit ⊕ Bool) := fun iv3 _ => Option.bind (ix part iv3) fun a15 => Option.bind (ref1_Has l a15) fun a17 => if (!a17) = true then some (.inr false) else some (.inl ())
def ref1_Subset (part : List Int) (l : List Int) : Option Bool := (Option.bind (rngX 0 (part.length : Int) (ref1_Subset_l1 part l) ()) fun | .inl _ => some true | .inr x => some x)
def ref1_Applies (t : TTask) (sv : List Int) (op : Int) : Option Bool := Option.bind (ix t.operators op) fun a10 => Option.bind (ref1_Subset a10.pre sv) fun a14 => some a14
def ref1_After_l1 (t : TTask) (sv : List Int) (op : Int) : Int → (List Int) → Option (List Int) := fun p5 c4 => Option.bind (Option.bind (Option.bind (ix t.operators op) fun a18 => Option.bind (ref1_Has a18.add p5) fun a22 => if a22 = true then some true else Option.bind (ref1_Has sv p5) fun a26 => if a26 = true then Option.bind (ix t.operators op) fun a31 => Option.bind (ref1_Has a31.del p5) fun a35 => some (!a35) else some false) fun t8 => if t8 = true then Option.bind (app 8 c4 [p5]) fun a42 => some a42 else some c4) fun c6 => some c6
def ref1_After (t : TTask) (sv : List Int) (op : Int) : Option (List Int) := if t.facts ≤ 9223372036854775807 then (Option.bind (forR 0 t.facts (ref1_After_l1 t sv op) []) fun c4 => some c4) else none
def ref1_Ends_l1 (t : TTask) (plan : List Int) : Int → (List Int) → Option ((List Int) ⊕ ((List Int) × Bool)) := fun iv5 sv4 => Option.bind (ix plan iv5) fun a19 => Option.bind (ref1_Applies t sv4 a19) fun a21 => if (!a21) = true then some (.inr ([], false)) else Option.bind (ix plan iv5) fun a27 => Option.bind (ref1_After t sv4 a27) fun a29 => some (.inl a29)
def ref1_Ends (t : TTask) (sv : List Int) (plan : List Int) : Option ((List Int) × Bool) := (Option.bind (rngX 0 (plan.length : Int) (ref1_Ends_l1 t plan) sv) fun | .inl sv4 => some (sv4, true) | .inr x => some x)
def ref8_TurnsWork_l1 (plans : List (List Int)) (turns : List Int) : Int → ((List Int) × (List Int)) → Option (((List Int) × (List Int)) ⊕ Bool) := fun iv7 (c5, c6) => Option.bind (ix turns iv7) fun a28 => Option.bind (ix c5 a28) fun a32 => Option.bind (ix plans a28) fun a36 => if (a36.length : Int) ≤ a32 then some (.inr false) else Option.bind (ix plans a28) fun a43 => Option.bind (ix c5 a28) fun a47 => Option.bind (ix a43 a47) fun a49 => Option.bind (app 8 c6 [a49]) fun a52 => Option.bind (ix c5 a28) fun a55 => Option.bind (ix c5 a28) fun a58 => some (.inl (c5.set a28.toNat (w64 (a55 + 1)), a52))
def ref8_TurnsWork_l2 (plans : List (List Int)) (c5 : List Int) : Int → Unit → Option (Unit ⊕ Bool) := fun p9 _ => Option.bind (ix c5 p9) fun a67 => Option.bind (ix plans p9) fun a71 => if a67 < (a71.length : Int) then some (.inr false) else some (.inl ())
def ref8_TurnsWork_l3 (goals : List (List Int)) (a80 : (List Int) × Bool) : Int → Bool → Option Bool := fun p12 ok11 => Option.bind (if ok11 = true then Option.bind (ix goals p12) fun a93 => Option.bind (ref1_Subset a93 a80.1) fun a96 => some a96 else some false) fun ok13 => some ok13
def ref8_TurnsWork (t : TTask) (goals : List (List Int)) (plans : List (List Int)) (turns : List Int) : Option Bool := Option.bind (mkL 8 (plans.length : Int) 0) fun a19 => (Option.bind (rngX 0 (turns.length : Int) (ref8_TurnsWork_l1 plans turns) (a19, [])) fun | .inl (c5, c6) => (Option.bind (rngX 0 (plans.length : Int) (ref8_TurnsWork_l2 plans c5) ()) fun | .inl _ => Option.bind (ref1_Ends t t.init c6) fun a80 => (Option.bind (forR 0 (goals.length : Int) (ref8_TurnsWork_l3 goals a80) a80.2) fun ok11 => some ok11) | .inr x => some x) | .inr x => some x)
noncomputable def partialorder_Interfere (t : TTask) (av : Int) (bv : Int) : Option Bool := Option.bind (ix t.operators av) fun a12 => Option.bind (ix t.operators bv) fun a17 => Option.bind (Option.bind (strips_Meets a12.add a17.pre) fun a23 => if a23 = true then some true else Option.bind (strips_Meets a12.del a17.pre) fun a29 => if a29 = true then some true else Option.bind (strips_Meets a17.add a12.pre) fun a36 => if a36 = true then some true else Option.bind (strips_Meets a17.del a12.pre) fun a43 => if a43 = true then some true else Option.bind (strips_Meets a12.add a17.del) fun a50 => if a50 = true then some true else Option.bind (strips_Meets a12.del a17.add) fun a57 => some a57) fun t4 => some t4
noncomputable def merging_Conflicts_l4 (t : TTask) (t5 : Int) (bv7 : Int) (t9 : Int) (a45 : Int) (a49 : List Int) : Int → (List (Int × Int × Int × Int)) → Option (List (Int × Int × Int × Int)) := fun t11 c10 => Option.bind (Option.bind (ix a49 t11) fun a55 => Option.bind (partialorder_Interfere t a45 a55) fun a60 => if a60 = true then Option.bind (app 32 c10 [(t5, t9, bv7, t11)]) fun a68 => some a68 else some c10) fun c12 => some c12
noncomputable def merging_Conflicts_l3 (t : TTask) (plans : List (List Int)) (t5 : Int) (bv7 : Int) (a39 : List Int) : Int → (List (Int × Int × Int × Int)) → Option (List (Int × Int × Int × Int)) := fun t9 c8 => Option.bind (ix a39 t9) fun a45 => Option.bind (ix plans bv7) fun a49 => (Option.bind (forR 0 (a49.length : Int) (merging_Conflicts_l4 t t5 bv7 t9 a45 a49) c8) fun c10 => some c10)
noncomputable def merging_Conflicts_l2 (t : TTask) (plans : List (List Int)) (t5 : Int) : Int → (List (Int × Int × Int × Int)) → Option (List (Int × Int × Int × Int)) := fun bv7 c6 => Option.bind (ix plans t5) fun a39 => (Option.bind (forR 0 (a39.length : Int) (merging_Conflicts_l3 t plans t5 bv7 a39) c6) fun c8 => some c8)
noncomputable def merging_Conflicts_l1 (t : TTask) (plans : List (List Int)) : Int → (List (Int × Int × Int × Int)) → Option (List (Int × Int × Int × Int)) := fun t5 c4 => (Option.bind (forR (t5 + 1) (plans.length : Int) (merging_Conflicts_l2 t plans t5) c4) fun c6 => some c6)
noncomputable def merging_Conflicts (t : TTask) (plans : List (List Int)) : Option ((List (Int × Int × Int × Int)) × TFault) := Option.bind (mkL 24 (plans.length : Int) []) fun a17 => Option.bind (merging_check t a17 plans) fun a19 => if (!((decide (a19.code = 0)) && (decide (a19.index = 0)))) = true then some ([], a19) else (Option.bind (forR 0 (plans.length : Int) (merging_Conflicts_l1 t plans) []) fun c4 => some (c4, (⟨0, 0⟩ : TFault)))
def ref7_Interfering (t : TTask) (av : Int) (bv : Int) : Option Bool := Option.bind (ix t.operators av) fun a12 => Option.bind (ix t.operators bv) fun a17 => Option.bind (Option.bind (ref1_Disjoint a12.add a17.pre) fun a23 => if (!a23) = true then some true else Option.bind (ref1_Disjoint a12.del a17.pre) fun a30 => if (!a30) = true then some true else Option.bind (ref1_Disjoint a17.add a12.pre) fun a38 => if (!a38) = true then some true else Option.bind (ref1_Disjoint a17.del a12.pre) fun a46 => if (!a46) = true then some true else Option.bind (ref1_Disjoint a12.add a17.del) fun a54 => if (!a54) = true then some true else Option.bind (ref1_Disjoint a12.del a17.add) fun a62 => some (!a62)) fun t4 => some t4
def ref8_Collisions_l4 (t : TTask) (plans : List (List Int)) (p4 : Int) (q6 : Int) (iv8 : Int) : ((List (Int × Int × Int × Int)) × Int) → Option (((List (Int × Int × Int × Int)) × Int) ⊕ (List (Int × Int × Int × Int))) := fun (c11, j12) => Option.bind (ix plans q6) fun a36 => if j12 < (a36.length : Int) then Option.bind (Option.bind (ix plans p4) fun a45 => Option.bind (ix a45 iv8) fun a48 => Option.bind (ix plans q6) fun a52 => Option.bind (ix a52 j12) fun a55 => Option.bind (ref7_Interfering t a48 a55) fun a57 => if a57 = true then Option.bind (app 32 c11 [(p4, iv8, q6, j12)]) fun a65 => some a65 else some c11) fun c15 => some (.inl (c15, w64 (j12 + 1))) else some (.inr c11)
noncomputable def ref8_Collisions_l3 (t : TTask) (plans : List (List Int)) (p4 : Int) (q6 : Int) : ((List (Int × Int × Int × Int)) × Int) → Option (((List (Int × Int × Int × Int)) × Int) ⊕ (List (Int × Int × Int × Int))) := fun (c7, iv8) => Option.bind (ix plans p4) fun a27 => if iv8 < (a27.length : Int) then Option.bind (Loop (ref8_Collisions_l4 t plans p4 q6 iv8) (c7, 0)) fun c13 => some (.inl (c13, w64 (iv8 + 1))) else some (.inr c7)
noncomputable def ref8_Collisions_l2 (t : TTask) (plans : List (List Int)) (p4 : Int) : Int → (List (Int × Int × Int × Int)) → Option (List (Int × Int × Int × Int)) := fun q6 c5 => Option.bind (Loop (ref8_Collisions_l3 t plans p4 q6) (c5, 0)) fun c9 => some c9
noncomputable def ref8_Collisions_l1 (t : TTask) (plans : List (List Int)) : Int → (List (Int × Int × Int × Int)) → Option (List (Int × Int × Int × Int)) := fun p4 c3 => (Option.bind (forR (p4 + 1) (plans.length : Int) (ref8_Collisions_l2 t plans p4) c3) fun c5 => some c5)
noncomputable def ref8_Collisions (t : TTask) (plans : List (List Int)) : Option (List (Int × Int × Int × Int)) := (Option.bind (forR 0 (plans.length : Int) (ref8_Collisions_l1 t plans) []) fun c3 => some c3)
def equal_FourInts_l1 (av : List (Int × Int × Int × Int)) (bv : List (Int × Int × Int × Int)) : Int → Unit → Option (Unit ⊕ Bool) := fun iv4 _ => Option.bind (ix av iv4) fun a19 => Option.bind (ix bv iv4) fun a23 => if (!((decide (a19.1 = a23.1)) && ((decide (a19.2.1 = a23.2.1)) && ((decide (a19.2.2.1 = a23.2.2.1)) && (decide (a19.2.2.2 = a23.2.2.2)))))) = true then some (.inr false) else some (.inl ())
def equal_FourInts (av : List (Int × Int × Int × Int)) (bv : List (Int × Int × Int × Int)) : Option Bool := if (av.length : Int) = (bv.length : Int) then (Option.bind (rngX 0 (av.length : Int) (equal_FourInts_l1 av bv) ()) fun | .inl _ => some true | .inr x => some x) else some false
def law8_MergingMatchesSpec_l1 (plans : List (List Int)) (turns : List Int) : (Int × Int × Int) → Option ((Int × Int × Int) ⊕ (Int × Int)) := fun (c17, c18, iv19) => if ((decide (iv19 < (turns.length : Int))) && (decide (c17 = 0))) = true then Option.bind (Option.bind (ix turns iv19) fun a87 => Option.bind (ref1_In a87 0 ((plans.length : Int) - 1)) fun a92 => if (!a92) = true then Option.bind (ref1_At 3 (-6)) fun a94 => some (a94.code, a94.index) else some (c17, c18)) fun ⟨c23, c24⟩ => some (.inl (c23, c24, w64 (iv19 + 1))) else some (.inr (c17, c18))
noncomputable def law8_MergingMatchesSpec (t : TTask) (goals : List (List Int)) (plans : List (List Int)) (turns : List Int) : Option Bool := Option.bind (merging_Conflicts t plans) fun a18 => Option.bind (merging_Check t goals plans turns) fun a26 => Option.bind (mkL 24 (plans.length : Int) []) fun a32 => Option.bind (ref8_PartiesFault t a32 plans) fun a34 => Option.bind (if (!((decide (a18.2.code = a34.code)) && (decide (a18.2.index = a34.index)))) = true then some true else if (!(decide (a34.code = 0))) = true then if 0 < (a18.1.length : Int) then some true else if a34.code = 0 then Option.bind (ref8_Collisions t plans) fun a56 => Option.bind (equal_FourInts a18.1 a56) fun a57 => some (!a57) else some false else if a34.code = 0 then Option.bind (ref8_Collisions t plans) fun a56 => Option.bind (equal_FourInts a18.1 a56) fun a57 => some (!a57) else some false) fun t5 => if t5 = true then some false else Option.bind (ref8_PartiesFault t goals plans) fun a64 => Option.bind (if ((decide (a64.code = 0)) && (decide (60 < (turns.length : Int)))) = true then Option.bind (ref1_At 2 (-5)) fun a73 => some (a73.code, a73.index) else some (a64.code, a64.index)) fun ⟨c13, c14⟩ => Option.bind (Loop (law8_MergingMatchesSpec_l1 plans turns) (c13, c14, 0)) fun ⟨c20, c21⟩ => if c20 = 0 then Option.bind (if a26.2.code = 0 then Option.bind (ref8_TurnsWork t goals plans turns) fun a117 => if a26.1 = a117 then Option.bind (law8_merged) fun a121 => some a121 else some false else some false) fun t32 => some t32 else Option.bind (if ((decide (a26.2.code = c20)) && (decide (a26.2.index = c21))) = true then if (!a26.1) = true then Option.bind (law8_merged) fun a106 => some a106 else some false else some false) fun t28 => some t28
end Ab
end
section
namespace Go.Proofs
open Go.Shelf
def Tryd.lays189_ren : Go.Shelf.Ren := ⟨fun | 189 => 51 | 125 => 59 | 257 => 58 | 128 => 71 | 129 => 72 | 294 => 63 | 295 => 64 | 296 => 65 | 297 => 66 | 298 => 67 | 299 => 68 | 216 => 56 | 300 => 69 | 301 => 70 | 328 => 77 | 329 => 78 | 330 => 79 | 331 => 80 | 332 => 81 | 215 => 62 | 343 => 86 | n => n, fun | 28 => 22 | 3 => 3 | 46 => 79 | 0 => 0 | 51 => 94 | 53 => 84 | 4 => 4 | 183 => 88 | 182 => 87 | 131 => 74 | 5 => 5 | 9 => 9 | 218 => 101 | 222 => 105 | 228 => 111 | 229 => 112 | n => n, fun | n => n⟩
theorem Tryd.lays189 : Go.Proofs.Lays.n189 Tryd.prog Tryd.lays189_ren := {
  mixed := by kernel_rfl
  f125 := Tryd.func59.trans (congrArg some (by kernel_rfl))
  f128 := Tryd.func71.trans (congrArg some (by kernel_rfl))
  f129 := Tryd.func72.trans (congrArg some (by kernel_rfl))
  f189 := Tryd.func51.trans (congrArg some (by kernel_rfl))
  f215 := Tryd.func62.trans (congrArg some (by kernel_rfl))
  f216 := Tryd.func56.trans (congrArg some (by kernel_rfl))
  f257 := Tryd.func58.trans (congrArg some (by kernel_rfl))
  f294 := Tryd.func63.trans (congrArg some (by kernel_rfl))
  f295 := Tryd.func64.trans (congrArg some (by kernel_rfl))
  f296 := Tryd.func65.trans (congrArg some (by kernel_rfl))
  f297 := Tryd.func66.trans (congrArg some (by kernel_rfl))
  f298 := Tryd.func67.trans (congrArg some (by kernel_rfl))
  f299 := Tryd.func68.trans (congrArg some (by kernel_rfl))
  f300 := Tryd.func69.trans (congrArg some (by kernel_rfl))
  f301 := Tryd.func70.trans (congrArg some (by kernel_rfl))
  f328 := Tryd.func77.trans (congrArg some (by kernel_rfl))
  f329 := Tryd.func78.trans (congrArg some (by kernel_rfl))
  f330 := Tryd.func79.trans (congrArg some (by kernel_rfl))
  f331 := Tryd.func80.trans (congrArg some (by kernel_rfl))
  f332 := Tryd.func81.trans (congrArg some (by kernel_rfl))
  f343 := Tryd.func86.trans (congrArg some (by kernel_rfl))
  t0 := Tryd.underlying0
  a0 := Tryd.isAgg0
  z0 := Tryd.sizeOf0
  v0 := Tryd.zeroValue0
  t3 := Tryd.underlying3
  a3 := Tryd.isAgg3
  z3 := Tryd.sizeOf3
  v3 := Tryd.zeroValue3
  t4 := Tryd.underlying4
  a4 := Tryd.isAgg4
  z4 := Tryd.sizeOf4
  v4 := Tryd.zeroValue4
  t5 := Tryd.underlying5
  a5 := Tryd.isAgg5
  z5 := Tryd.sizeOf5
  v5 := Tryd.zeroValue5
  t9 := Tryd.underlying9
  a9 := Tryd.isAgg9
  z9 := Tryd.sizeOf9
  v9 := Tryd.zeroValue9
  t28 := Tryd.underlying22
  a28 := Tryd.isAgg22
  z28 := Tryd.sizeOf22
  v28 := Tryd.zeroValue22
  t46 := Tryd.underlying79
  a46 := Tryd.isAgg79
  z46 := Tryd.sizeOf79
  v46 := Tryd.zeroValue79
  t51 := Tryd.underlying94
  a51 := Tryd.isAgg94
  z51 := Tryd.sizeOf94
  v51 := Tryd.zeroValue94
  t53 := Tryd.underlying84
  a53 := Tryd.isAgg84
  z53 := Tryd.sizeOf84
  v53 := Tryd.zeroValue84
  t131 := Tryd.underlying74
  a131 := Tryd.isAgg74
  z131 := Tryd.sizeOf74
  v131 := Tryd.zeroValue74
  t182 := Tryd.underlying87
  a182 := Tryd.isAgg87
  z182 := Tryd.sizeOf87
  v182 := Tryd.zeroValue87
  t183 := Tryd.underlying88
  a183 := Tryd.isAgg88
  z183 := Tryd.sizeOf88
  v183 := Tryd.zeroValue88
  t218 := Tryd.underlying101
  a218 := Tryd.isAgg101
  z218 := Tryd.sizeOf101
  v218 := Tryd.zeroValue101
  t222 := Tryd.underlying105
  a222 := Tryd.isAgg105
  z222 := Tryd.sizeOf105
  v222 := Tryd.zeroValue105
  t228 := Tryd.underlying111
  a228 := Tryd.isAgg111
  z228 := Tryd.sizeOf111
  v228 := Tryd.zeroValue111
  t229 := Tryd.underlying112
  a229 := Tryd.isAgg112
  z229 := Tryd.sizeOf112
  v229 := Tryd.zeroValue112 }
open Go.Sort Go.RowKit in
theorem Tryd.slices_Sort_int (blk off cap : Nat) (zs : List Int) (w : World) (hH : Holds (Value.int .i64) w blk off zs.toArray) (hblk : blk < w.heap.size) (hsz : zs.length < 4611686018427387904) :
    Calls Tryd.prog 51 #[.slice (some ⟨blk, off, none⟩) zs.length cap] w fun e w' =>
      e = .returned (.tuple #[]) ∧ ∃ n os, w' = grow (putRow (Value.int .i64) (Sort.ahead w n) blk off (zs.mergeSort fun x y => decide (x ≤ y)).toArray) os := Any.slices_Sort_int Tryd.lays189 blk off cap zs w hH hblk hsz
def Tryd.laysNm220_ren : Go.Shelf.Ren := ⟨fun | 20 => 52 | n => n, fun | 22 => 22 | 3 => 3 | 4 => 4 | 0 => 0 | n => n, fun | n => n⟩
theorem Tryd.laysNm220 : Go.Proofs.Lays2.n20 Tryd.prog Tryd.laysNm220_ren := {
  mixed := by kernel_rfl
  f20 := Tryd.func52.trans (congrArg some (by kernel_rfl))
  t0 := Tryd.underlying0
  a0 := Tryd.isAgg0
  z0 := Tryd.sizeOf0
  v0 := Tryd.zeroValue0
  t3 := Tryd.underlying3
  a3 := Tryd.isAgg3
  z3 := Tryd.sizeOf3
  v3 := Tryd.zeroValue3
  t4 := Tryd.underlying4
  a4 := Tryd.isAgg4
  z4 := Tryd.sizeOf4
  v4 := Tryd.zeroValue4
  t22 := Tryd.underlying22
  a22 := Tryd.isAgg22
  z22 := Tryd.sizeOf22
  v22 := Tryd.zeroValue22
  i3 := by kernel_rfl }
open Go.RowKit Go.Lib Go.Sort in
/-- slices.Compact at []int: "Compact replaces consecutive runs of equal elements with a single copy. This is like the uniq command found on Unix. Compact modifies the contents of the slice s and returns the modified slice, which may have a smaller length. Compact zeroes the elements between the new length and the original length. The result preserves the nilness of s.": IT RETURNS THE SLICE CUT TO 'Lib.compact zs'; ITS CELLS HOLD 'Lib.compact zs', THEN ZERO VALUES up to the old length; all else is as' it was, but for the count of draws. IN THE WORDS OF slices.Sort's CONTRACT ('Holds', 'putRow'): so the everyday 'slices.Sort(xs); xs = slices.Compact(xs)' goes from the one contract to the other. It asks 'zs.length ≤ cap' (every slice's: the reslicing 's[:k]' looks at it). Length 0, nil: '.._empty'. (LAID: no walk: one application.) -/
theorem Tryd.slices_Compact_int (blk off cap : Nat) (zs : List Int) (w : World) (hH : Holds (Value.int .i64) w blk off zs.toArray) (hsz : zs.length ≤ 9223372036854775807) (hcap : zs.length ≤ cap) :
    Calls Tryd.prog 52 #[.slice (some ⟨blk, off, none⟩) zs.length cap] w fun e w' => e = .returned (.slice (some ⟨blk, off, none⟩) (Lib.compact zs).length cap) ∧ ∃ q, w' = putRow (Value.int .i64) (Sort.ahead w q) blk off (Lib.compact zs ++ List.replicate (zs.length - (Lib.compact zs).length) 0).toArray := Any.slices_Compact_int Tryd.laysNm220 blk off cap zs w hH hsz hcap
open Go.RowKit Go.Lib Go.Sort in
/-- The same at a slice of length 0, a nil one too: it comes back as' it is. (LAID: no walk: one application.) -/
theorem Tryd.slices_Compact_int_empty (a : Option Addr) (cap : Nat) (w : World) :
    Calls Tryd.prog 52 #[.slice a 0 cap] w fun e w' => e = .returned (.slice a 0 cap) ∧ w' = w := Any.slices_Compact_int_empty Tryd.laysNm220 a cap w
open Go.RowKit Go.Sort in
/-- .. and plain. (LAID: no walk: one application.) -/
theorem Tryd.slices_Sort_int_none (p : Option Addr) (cap : Nat) (w : World) :
    Calls Tryd.prog 51 #[.slice p 0 cap] w fun e w' => e = .returned (.tuple #[]) ∧ w' = w := Any.slices_Sort_int_none Tryd.lays189 p cap w
end Go.Proofs
end
section
namespace Ab
open Go Go.Proofs
theorem sort_facts : fnFacts Tryd.prog 51 := ⟨_, Tryd.func51, rfl, rfl⟩
theorem compact_facts : fnFacts Tryd.prog 52 := ⟨_, Tryd.func52, rfl, rfl⟩
theorem sortL_ok : SortOk Tryd.prog 51 := fun hσ hl => sort_fn sort_facts (fun blk off cap zs w hH hb hs => Tryd.slices_Sort_int blk off cap zs w hH hb hs) (fun p cap w => Tryd.slices_Sort_int_none p cap w) hσ hl
theorem compactL_ok : CompactOk Tryd.prog 52 := fun hσ => compact_fn compact_facts (fun blk off cap zs w hH hs hc => Tryd.slices_Compact_int blk off cap zs w hH hs hc) (fun a cap w => Tryd.slices_Compact_int_empty a cap w) hσ
end Ab
end
