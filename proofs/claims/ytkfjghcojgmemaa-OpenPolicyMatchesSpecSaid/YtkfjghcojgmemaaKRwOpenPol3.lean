/-
  Texts that the proof stands on.
-/
import Derived.Test.YtkfjghcojgmemaaKRwOpenPol2
import Derived.Shelf.Small.Bits
import Derived.Shelf.Strconv.Itoa0
import Derived.Shelf.Sort.Plain
import Derived.Shelf.Slices.Equal
import Derived.Ground.Names2Prog
import Derived.Shelf.Slices.Clone
import Derived.Shelf.Slices.SearchI
import Derived.Shelf.Slices.Cells
import Derived.Shelf.Slices.In.SortNone
import Derived.Shelf.Slices.Empties
import Derived.Ground.SlgnProg
import Derived.Shelf.SlicesE.Clone
import Derived.Ground.SlsfProg
import Derived.Shelf.SlSortCmp.Insertion
import Derived.Shelf.SlSortCmp.SiftDown1
import Derived.Shelf.SlSortCmp.HeapSort1
import Derived.Shelf.SlSortCmp.Insertion1
import Derived.Shelf.SlSortCmp.Median1
import Derived.Shelf.SlSortCmp.Pivot1
import Derived.Shelf.SlSortCmp.ReverseRange1
import Derived.Shelf.SlSortCmp.PartialInsertion1
import Derived.Shelf.SlSortCmp.PartitionEqual1
import Derived.Shelf.SlSortCmp.Partition1
import Derived.Shelf.SlSortCmp.Pdq1
import Derived.Shelf.SlSortCmp.NoneTotal
import Derived.Test.YtkfjghcojgmemaaProg
set_option linter.all false
section
namespace Ab
open Go Go.Proofs
set_option linter.all false
abbrev eLi64 (l : List Int) : List I := [.sl 1 (l.map intI)]
structure TOutcome where
  add : List Int
  del : List Int
  weight : Int
abbrev eTOutcome (v : TOutcome) : List I := [.sl 1 (List.map intI v.add), .sl 1 (List.map intI v.del), .val (.int .i64 v.weight)]
structure TOpenOperator where
  pre : List Int
  outcomes : List TOutcome
  cost : Int
abbrev eTOpenOperator (v : TOpenOperator) : List I := [.sl 1 (List.map intI v.pre), .sl 3 (List.map eTOutcome v.outcomes), .val (.int .i64 v.cost)]
structure TOpenTask where
  facts : Int
  init : List Int
  goal : List Int
  operators : List TOpenOperator
abbrev eTOpenTask (v : TOpenTask) : List I := [.val (.int .i64 v.facts), .sl 1 (List.map intI v.init), .sl 1 (List.map intI v.goal), .sl 3 (List.map eTOpenOperator v.operators)]
structure TFault where
  code : Int
  index : Int
structure TChoice where
  state : List Int
  operator : Int
abbrev eTChoice (v : TChoice) : List I := [.sl 1 (List.map intI v.state), .val (.int .i64 v.operator)]
abbrev eLTChoice (l : List TChoice) : List I := [.sl 2 (l.map eTChoice)]
structure Tx_int64_y_int_signed_bool_code_abi_BoundsErrorCode where
  fx : Int
  fy : Int
  signed : Bool
  code : Int
structure Truntime_boundsError where
  fx : Int
  fy : Int
  signed : Bool
  code : Int
structure TFacts_int_Init_int_Goal_int_Operators_api_OpenOperator where
  facts : Int
  init : List Int
  goal : List Int
  operators : List TOpenOperator
structure TCode_int_Index_int where
  code : Int
  index : Int
structure TOperator where
  pre : List Int
  add : List Int
  del : List Int
  cost : Int
structure TFacts_int_Init_int_Goal_int_Operators_api_Operator where
  facts : Int
  init : List Int
  goal : List Int
  operators : List TOperator
structure TTask where
  facts : Int
  init : List Int
  goal : List Int
  operators : List TOperator
structure TPre_int_Outcomes_api_Outcome_Cost_int where
  pre : List Int
  outcomes : List TOutcome
  cost : Int
structure TAdd_int_Del_int_Weight_int where
  add : List Int
  del : List Int
  weight : Int
structure TPre_int_Add_int_Del_int_Cost_int where
  pre : List Int
  add : List Int
  del : List Int
  cost : Int
def strips_IsSet_l1 (l : List Int) (nv : Int) : Int → Unit → Option (Unit ⊕ Bool) := fun t3 _ => Option.bind (ix l t3) fun a12 => Option.bind (if a12 < 0 then some true else if nv ≤ a12 then some true else if 0 < t3 then Option.bind (ix l (t3 - 1)) fun a29 => some (decide (a12 ≤ a29)) else some false) fun t4 => if t4 = true then some (.inr false) else some (.inl ())
def strips_IsSet (l : List Int) (nv : Int) : Option Bool := (Option.bind (rngX 0 (l.length : Int) (strips_IsSet_l1 l nv) ()) fun | .inl _ => some true | .inr x => some x)
def cmp_isNaN_int (xv : Int) : Option Bool := some (!(decide (xv = xv)))
def cmp_Less_int (xv : Int) (yv : Int) : Option Bool := Option.bind (Option.bind (cmp_isNaN_int xv) fun a6 => if a6 = true then Option.bind (cmp_isNaN_int yv) fun a9 => if (!a9) = true then some true else some (decide (xv < yv)) else some (decide (xv < yv))) fun t3 => some t3
def slices_isNaN_int (xv : Int) : Option Bool := some (!(decide (xv = xv)))
def slices_BinarySearch_int_int_l1 (xv : List Int) (target : Int) : (Int × Int) → Option ((Int × Int) ⊕ Int) := fun (iv3, j4) => if iv3 < j4 then Option.bind (ix xv (w64 (shrW .u64 ((IntKind.u64).wrap (w64 (iv3 + j4))) 1))) fun a24 => Option.bind (cmp_Less_int a24 target) fun a27 => if a27 = true then some (.inl (w64 ((w64 (shrW .u64 ((IntKind.u64).wrap (w64 (iv3 + j4))) 1)) + 1), j4)) else some (.inl (iv3, w64 (shrW .u64 ((IntKind.u64).wrap (w64 (iv3 + j4))) 1))) else some (.inr iv3)
noncomputable def slices_BinarySearch_int_int (xv : List Int) (target : Int) : Option (Int × Bool) := Option.bind (Loop (slices_BinarySearch_int_int_l1 xv target) (0, (xv.length : Int))) fun iv5 => Option.bind (if iv5 < (xv.length : Int) then Option.bind (ix xv iv5) fun a38 => if a38 = target then some true else Option.bind (ix xv iv5) fun a45 => Option.bind (slices_isNaN_int a45) fun a47 => if a47 = true then Option.bind (slices_isNaN_int target) fun a50 => some a50 else some false else some false) fun t8 => some (iv5, t8)
noncomputable def strips_Meets_1 (xv : Int) (c2 : List Int) : Option Bool := Option.bind (slices_BinarySearch_int_int c2 xv) fun a9 => some a9.2
def slices_IndexFunc_int_int_l1 (sv : List Int) (fv : Int → Option Bool) : Int → Unit → Option (Unit ⊕ Int) := fun t3 _ => Option.bind (ix sv t3) fun a14 => Option.bind (fv a14) fun a16 => if a16 = true then some (.inr t3) else some (.inl ())
def slices_IndexFunc_int_int (sv : List Int) (fv : Int → Option Bool) : Option Int := (Option.bind (rngX 0 (sv.length : Int) (slices_IndexFunc_int_int_l1 sv fv) ()) fun | .inl _ => some (-1) | .inr x => some x)
def slices_ContainsFunc_int_int (sv : List Int) (fv : Int → Option Bool) : Option Bool := Option.bind (slices_IndexFunc_int_int sv fv) fun a7 => some (decide (0 ≤ a7))
noncomputable def strips_Meets (av : List Int) (bv : List Int) : Option Bool := Option.bind (slices_ContainsFunc_int_int av (fun y1 => strips_Meets_1 y1 bv)) fun a7 => some a7
noncomputable def open_operatorCode_l1 (ov : TOpenOperator) (facts : Int) : Int → Unit → Option (Unit ⊕ Int) := fun t6 _ => Option.bind (ix ov.outcomes t6) fun a38 => Option.bind (Option.bind (strips_IsSet a38.add facts) fun a44 => if (!a44) = true then some true else Option.bind (strips_IsSet a38.del facts) fun a50 => if (!a50) = true then some true else Option.bind (strips_Meets a38.add a38.del) fun a58 => some a58) fun t7 => if t7 = true then some (.inr 5) else if ((decide (a38.weight < 1)) || (decide (6 < a38.weight))) = true then some (.inr 3) else some (.inl ())
noncomputable def open_operatorCode (ov : TOpenOperator) (facts : Int) : Option Int := Option.bind (strips_IsSet ov.pre facts) fun a11 => if (!a11) = true then some 5 else if ((decide (ov.cost < 0)) || (decide (100 < ov.cost))) = true then some 3 else if ((decide ((ov.outcomes.length : Int) = 0)) || (decide (4 < (ov.outcomes.length : Int)))) = true then some 9 else (Option.bind (rngX 0 (ov.outcomes.length : Int) (open_operatorCode_l1 ov facts) ()) fun | .inl _ => some 0 | .inr x => some x)
noncomputable def open_Validate_l1 (ov : TOpenTask) : Int → Unit → Option (Unit ⊕ TFault) := fun t6 _ => Option.bind (ix ov.operators t6) fun a44 => Option.bind (open_operatorCode a44 ov.facts) fun a49 => if a49 = 0 then some (.inl ()) else some (.inr (⟨a49, t6⟩ : TFault))
noncomputable def open_Validate (ov : TOpenTask) : Option TFault := if ((decide (ov.facts < 0)) || (decide (24 < ov.facts))) = true then some (⟨3, -1⟩ : TFault) else Option.bind (strips_IsSet ov.init ov.facts) fun a21 => if (!a21) = true then some (⟨5, -2⟩ : TFault) else Option.bind (strips_IsSet ov.goal ov.facts) fun a29 => if (!a29) = true then some (⟨5, -3⟩ : TFault) else if 40 < (ov.operators.length : Int) then some (⟨2, -1⟩ : TFault) else (Option.bind (rngX 0 (ov.operators.length : Int) (open_Validate_l1 ov) ()) fun | .inl _ => some (⟨0, 0⟩ : TFault) | .inr x => some x)
def cmp_Compare_int (xv : Int) (yv : Int) : Option Int := Option.bind (cmp_isNaN_int xv) fun a8 => Option.bind (cmp_isNaN_int yv) fun a10 => if a8 = true then if a10 = true then some 0 else some (-1) else if a10 = true then some 1 else if xv < yv then some (-1) else if yv < xv then some 1 else some 0
def slices_Compare_int_int_l1 (s11 : List Int) (s22 : List Int) : Int → Unit → Option (Unit ⊕ Int) := fun t3 _ => Option.bind (ix s11 t3) fun a14 => if (s22.length : Int) ≤ t3 then some (.inr 1) else Option.bind (ix s22 t3) fun a22 => Option.bind (cmp_Compare_int a14 a22) fun a26 => if a26 = 0 then some (.inl ()) else some (.inr a26)
def slices_Compare_int_int (s11 : List Int) (s22 : List Int) : Option Int := (Option.bind (rngX 0 (s11.length : Int) (slices_Compare_int_int_l1 s11 s22) ()) fun | .inl _ => if (s11.length : Int) < (s22.length : Int) then some (-1) else some 0 | .inr x => some x)
def strips_Contains_l2 (sv : List Int) (a12 : Int) : Int → Option (Int ⊕ Int) := fun iv5 => Option.bind (if iv5 < (sv.length : Int) then Option.bind (ix sv iv5) fun a21 => some (decide (a21 < a12)) else some false) fun t7 => if t7 = true then some (.inl (w64 (iv5 + 1))) else some (.inr iv5)
noncomputable def strips_Contains_l1 (sv : List Int) (part : List Int) : Int → Int → Option (Int ⊕ Bool) := fun t4 iv3 => Option.bind (ix part t4) fun a12 => Option.bind (Loop (strips_Contains_l2 sv a12) iv3) fun iv6 => Option.bind (if iv6 = (sv.length : Int) then some true else Option.bind (ix sv iv6) fun a35 => some (!(decide (a35 = a12)))) fun t11 => if t11 = true then some (.inr false) else some (.inl iv6)
noncomputable def strips_Contains (sv : List Int) (part : List Int) : Option Bool := (Option.bind (rngX 0 (part.length : Int) (strips_Contains_l1 sv part) 0) fun | .inl iv3 => some true | .inr x => some x)
noncomputable def open_Can (ov : TOpenTask) (sv : List Int) (op : Int) : Option Bool := Option.bind (ix ov.operators op) fun a11 => Option.bind (strips_Contains sv a11.pre) fun a14 => some a14
noncomputable def open_ValidatePolicy_l1 (ov : TOpenTask) (policy : List TChoice) : Int → Unit → Option (Unit ⊕ TFault) := fun t5 _ => Option.bind (ix policy t5) fun a24 => Option.bind (Option.bind (Option.bind (strips_IsSet a24.state ov.facts) fun a31 => if (!a31) = true then some true else if 0 < t5 then Option.bind (ix policy (t5 - 1)) fun a40 => Option.bind (slices_Compare_int_int a40.state a24.state) fun a45 => some (decide (0 ≤ a45)) else some false) fun t8 => if t8 = true then some 5 else if ((decide (a24.operator < 0)) || (decide ((ov.operators.length : Int) ≤ a24.operator))) = true then some 3 else Option.bind (open_Can ov a24.state a24.operator) fun a67 => if (!a67) = true then some 11 else some 0) fun ev6 => if ev6 = 0 then some (.inl ()) else some (.inr (⟨ev6, w64 ((-9) - t5)⟩ : TFault))
noncomputable def open_ValidatePolicy (ov : TOpenTask) (policy : List TChoice) : Option TFault := Option.bind (open_Validate ov) fun a10 => if (!((decide (a10.code = 0)) && (decide (a10.index = 0)))) = true then some a10 else if 200 < (policy.length : Int) then some (⟨2, -8⟩ : TFault) else (Option.bind (rngX 0 (policy.length : Int) (open_ValidatePolicy_l1 ov policy) ()) fun | .inl _ => some (⟨0, 0⟩ : TFault) | .inr x => some x)
def slices_BinarySearchFunc_api_Choice_api_Choice_int_l1 (xv : List TChoice) (target : List Int) (cmp : TChoice → (List Int) → Option Int) : (Int × Int) → Option ((Int × Int) ⊕ Int) := fun (iv4, j5) => if iv4 < j5 then Option.bind (ix xv (w64 (shrW .u64 ((IntKind.u64).wrap (w64 (iv4 + j5))) 1))) fun a27 => Option.bind (cmp a27 target) fun a30 => if a30 < 0 then some (.inl (w64 ((w64 (shrW .u64 ((IntKind.u64).wrap (w64 (iv4 + j5))) 1)) + 1), j5)) else some (.inl (iv4, w64 (shrW .u64 ((IntKind.u64).wrap (w64 (iv4 + j5))) 1))) else some (.inr iv4)
noncomputable def slices_BinarySearchFunc_api_Choice_api_Choice_int (xv : List TChoice) (target : List Int) (cmp : TChoice → (List Int) → Option Int) : Option (Int × Bool) := Option.bind (Loop (slices_BinarySearchFunc_api_Choice_api_Choice_int_l1 xv target cmp) (0, (xv.length : Int))) fun iv6 => Option.bind (if iv6 < (xv.length : Int) then Option.bind (ix xv iv6) fun a43 => Option.bind (cmp a43 target) fun a46 => some (decide (a46 = 0)) else some false) fun t9 => some (iv6, t9)
def open_Chosen_1 (c : TChoice) (sv : List Int) : Option Int := Option.bind (slices_Compare_int_int c.state sv) fun a8 => some a8
noncomputable def open_Chosen (policy : List TChoice) (sv : List Int) : Option Int := Option.bind (slices_BinarySearchFunc_api_Choice_api_Choice_int policy sv open_Chosen_1) fun a10 => if (!a10.2) = true then some (-1) else Option.bind (ix policy a10.1) fun a17 => some a17.operator
noncomputable def strips_Update_l1 (sv : List Int) (del : List Int) : Int → (List Int) → Option (List Int) := fun t5 c4 => Option.bind (Option.bind (ix sv t5) fun a16 => Option.bind (slices_BinarySearch_int_int del a16) fun a21 => if (!a21.2) = true then Option.bind (app 8 c4 [a16]) fun a29 => some a29 else some c4) fun c6 => some c6
noncomputable def strips_Update (sv : List Int) (add : List Int) (del : List Int) : Option (List Int) := (Option.bind (forR 0 (sv.length : Int) (strips_Update_l1 sv del) []) fun c4 => Option.bind (app 8 c4 add) fun a33 => Option.bind (sortL a33) fun a35 => some (compactL a35))
noncomputable def open_Follow_l1 (ov : TOpenTask) (policy : List TChoice) (outcomes : List Int) : ((List (List Int)) × (List Int) × Int) → Option (((List (List Int)) × (List Int) × Int) ⊕ ((List (List Int)) ⊕ ((List (List Int)) × TFault))) := fun (c6, sv7, t8) => if t8 < (outcomes.length : Int) then Option.bind (ix outcomes t8) fun a37 => Option.bind (open_Chosen policy sv7) fun a41 => Option.bind (if a41 < 0 then some true else Option.bind (strips_Contains sv7 ov.goal) fun a48 => some a48) fun t11 => if t11 = true then some (.inr (.inl c6)) else Option.bind (ix ov.operators a41) fun a53 => if ((decide (a37 < 0)) || (decide ((a53.outcomes.length : Int) ≤ a37))) = true then some (.inr (.inr ([], (⟨3, t8⟩ : TFault)))) else Option.bind (ix a53.outcomes a37) fun a69 => Option.bind (ix a53.outcomes a37) fun a74 => Option.bind (strips_Update sv7 a69.add a74.del) fun a77 => Option.bind (app 24 c6 [a77]) fun a81 => some (.inl (a81, a77, w64 (t8 + 1))) else some (.inr (.inl c6))
noncomputable def open_Follow (ov : TOpenTask) (policy : List TChoice) (outcomes : List Int) : Option ((List (List Int)) × TFault) := Option.bind (open_ValidatePolicy ov policy) fun a17 => if (!((decide (a17.code = 0)) && (decide (a17.index = 0)))) = true then some ([], a17) else if 60 < (outcomes.length : Int) then some ([], (⟨2, -5⟩ : TFault)) else Option.bind (slices_Clone_int_int ov.init) fun a28 => Option.bind (slices_Clone_int_int a28) fun a30 => Option.bind (Loop (open_Follow_l1 ov policy outcomes) ([a30], a28, 0)) fun | .inl c9 => some (c9, (⟨0, 0⟩ : TFault)) | .inr x => some x
def ref1_In (nv : Int) (low : Int) (high : Int) : Option Bool := some ((decide (low ≤ nv)) && (decide (nv ≤ high)))
def ref1_At (code : Int) (index : Int) : Option TFault := some (⟨code, index⟩ : TFault)
def ref1_IsSet_l1 (l : List Int) (nv : Int) : Int → Unit → Option (Unit ⊕ Bool) := fun iv3 _ => Option.bind (Option.bind (ix l iv3) fun a14 => Option.bind (ref1_In a14 0 (w64 (nv - 1))) fun a18 => if (!a18) = true then some true else if 0 < iv3 then Option.bind (ix l iv3) fun a26 => Option.bind (ix l (iv3 - 1)) fun a31 => some (decide (a26 ≤ a31)) else some false) fun t4 => if t4 = true then some (.inr false) else some (.inl ())
def ref1_IsSet (l : List Int) (nv : Int) : Option Bool := (Option.bind (rngX 0 (l.length : Int) (ref1_IsSet_l1 l nv) ()) fun | .inl _ => some true | .inr x => some x)
def ref1_Has_l1 (l : List Int) (nv : Int) : Int → Unit → Option (Unit ⊕ Bool) := fun iv3 _ => Option.bind (ix l iv3) fun a14 => if a14 = nv then some (.inr true) else some (.inl ())
def ref1_Has (l : List Int) (nv : Int) : Option Bool := (Option.bind (rngX 0 (l.length : Int) (ref1_Has_l1 l nv) ()) fun | .inl _ => some false | .inr x => some x)
def ref1_Disjoint_l1 (av : List Int) (bv : List Int) : Int → Unit → Option (Unit ⊕ Bool) := fun iv3 _ => Option.bind (ix av iv3) fun a15 => Option.bind (ref1_Has bv a15) fun a17 => if a17 = true then some (.inr false) else some (.inl ())
def ref1_Disjoint (av : List Int) (bv : List Int) : Option Bool := (Option.bind (rngX 0 (av.length : Int) (ref1_Disjoint_l1 av bv) ()) fun | .inl _ => some true | .inr x => some x)
def ref8_OpenFault_l2 (ov : TOpenTask) (a42 : TOpenOperator) : (Int × Int) → Option ((Int × Int) ⊕ Int) := fun (ev12, kv13) => if ((decide (kv13 < (a42.outcomes.length : Int))) && (decide (ev12 = 0))) = true then Option.bind (Option.bind (ix a42.outcomes kv13) fun a73 => Option.bind (Option.bind (ref1_IsSet a73.add ov.facts) fun a79 => if (!a79) = true then some true else Option.bind (ref1_IsSet a73.del ov.facts) fun a86 => if (!a86) = true then some true else Option.bind (ref1_Disjoint a73.add a73.del) fun a94 => some (!a94)) fun t18 => if t18 = true then some 5 else Option.bind (ref1_In a73.weight 1 6) fun a99 => if (!a99) = true then some 3 else some ev12) fun ev16 => some (.inl (ev16, w64 (kv13 + 1))) else some (.inr ev12)
noncomputable def ref8_OpenFault_l1 (ov : TOpenTask) : Int → Unit → Option (Unit ⊕ TFault) := fun iv6 _ => Option.bind (ix ov.operators iv6) fun a42 => Option.bind (Option.bind (ref1_IsSet a42.pre ov.facts) fun a48 => if (!a48) = true then some 5 else Option.bind (ref1_In a42.cost 0 100) fun a52 => if (!a52) = true then some 3 else Option.bind (ref1_In (a42.outcomes.length : Int) 1 4) fun a57 => if (!a57) = true then some 9 else some 0) fun ev7 => Option.bind (Loop (ref8_OpenFault_l2 ov a42) (ev7, 0)) fun ev14 => if ev14 = 0 then some (.inl ()) else Option.bind (ref1_At ev14 iv6) fun a105 => some (.inr a105)
noncomputable def ref8_OpenFault (ov : TOpenTask) : Option TFault := Option.bind (ref1_In ov.facts 0 24) fun a10 => if (!a10) = true then Option.bind (ref1_At 3 (-1)) fun a12 => some a12 else Option.bind (ref1_IsSet ov.init ov.facts) fun a17 => if (!a17) = true then Option.bind (ref1_At 5 (-2)) fun a19 => some a19 else Option.bind (ref1_IsSet ov.goal ov.facts) fun a24 => if (!a24) = true then Option.bind (ref1_At 5 (-3)) fun a26 => some a26 else if 40 < (ov.operators.length : Int) then Option.bind (ref1_At 2 (-1)) fun a31 => some a31 else (Option.bind (rngX 0 (ov.operators.length : Int) (ref8_OpenFault_l1 ov) ()) fun | .inl _ => some (⟨0, 0⟩ : TFault) | .inr x => some x)
def ref7_Before_l1 (av : List Int) (bv : List Int) : Int → Option (Int ⊕ (Unit ⊕ Bool)) := fun iv3 => if ((decide (iv3 < (av.length : Int))) && (decide (iv3 < (bv.length : Int)))) = true then Option.bind (ix av iv3) fun a20 => Option.bind (ix bv iv3) fun a24 => if a20 = a24 then some (.inl (w64 (iv3 + 1))) else Option.bind (ix av iv3) fun a29 => Option.bind (ix bv iv3) fun a33 => some (.inr (.inr (decide (a29 < a33)))) else some (.inr (.inl ()))
noncomputable def ref7_Before (av : List Int) (bv : List Int) : Option Bool := Option.bind (Loop (ref7_Before_l1 av bv) 0) fun | .inl _ => some (decide ((av.length : Int) < (bv.length : Int))) | .inr x => some x
def ref1_Subset_l1 (part : List Int) (l : List Int) : Int → Unit → Option (Unit ⊕ Bool) := fun iv3 _ => Option.bind (ix part iv3) fun a15 => Option.bind (ref1_Has l a15) fun a17 => if (!a17) = true then some (.inr false) else some (.inl ())
def ref1_Subset (part : List Int) (l : List Int) : Option Bool := (Option.bind (rngX 0 (part.length : Int) (ref1_Subset_l1 part l) ()) fun | .inl _ => some true | .inr x => some x)
def ref8_Applies (ov : TOpenTask) (sv : List Int) (op : Int) : Option Bool := Option.bind (ix ov.operators op) fun a10 => Option.bind (ref1_Subset a10.pre sv) fun a14 => some a14
noncomputable def ref8_PolicyFault_l1 (ov : TOpenTask) (p : List TChoice) : Int → Unit → Option (Unit ⊕ TFault) := fun iv5 _ => Option.bind (Option.bind (ix p iv5) fun a25 => Option.bind (ref1_IsSet a25.state ov.facts) fun a30 => if (!a30) = true then some true else if 0 < iv5 then Option.bind (ix p (iv5 - 1)) fun a39 => Option.bind (ix p iv5) fun a44 => Option.bind (ref7_Before a39.state a44.state) fun a47 => some (!a47) else some false) fun t6 => if t6 = true then Option.bind (ref1_At 5 (w64 ((-9) - iv5))) fun a53 => some (.inr a53) else Option.bind (ix p iv5) fun a56 => Option.bind (ref1_In a56.operator 0 (w64 ((ov.operators.length : Int) - 1))) fun a63 => if (!a63) = true then Option.bind (ref1_At 3 (w64 ((-9) - iv5))) fun a67 => some (.inr a67) else Option.bind (ix p iv5) fun a71 => Option.bind (ix p iv5) fun a76 => Option.bind (ref8_Applies ov a71.state a76.operator) fun a79 => if (!a79) = true then Option.bind (ref1_At 11 (w64 ((-9) - iv5))) fun a83 => some (.inr a83) else some (.inl ())
noncomputable def ref8_PolicyFault (ov : TOpenTask) (p : List TChoice) : Option TFault := Option.bind (ref8_OpenFault ov) fun a8 => if a8.code = 0 then if 200 < (p.length : Int) then Option.bind (ref1_At 2 (-8)) fun a16 => some a16 else (Option.bind (rngX 0 (p.length : Int) (ref8_PolicyFault_l1 ov p) ()) fun | .inl _ => some (⟨0, 0⟩ : TFault) | .inr x => some x) else some a8
def law8_coin : Option TOpenTask := some (⟨1, [], [0], [(⟨[], [(⟨[0], [], 1⟩ : TOutcome), (⟨[], [], 2⟩ : TOutcome)], 1⟩ : TOpenOperator)]⟩ : TOpenTask)
def slices_Equal_int_int_l1 (s11 : List Int) (s22 : List Int) : Int → Unit → Option (Unit ⊕ Bool) := fun t4 _ => Option.bind (ix s11 t4) fun a18 => Option.bind (ix s22 t4) fun a22 => if a18 = a22 then some (.inl ()) else some (.inr false)
def slices_Equal_int_int (s11 : List Int) (s22 : List Int) : Option Bool := if (s11.length : Int) = (s22.length : Int) then (Option.bind (rngX 0 (s11.length : Int) (slices_Equal_int_int_l1 s11 s22) ()) fun | .inl _ => some true | .inr x => some x) else some false
def slices_BinarySearchFunc_int_int_int_l1 (xv : List (List Int)) (target : List Int) (cmp : (List Int) → (List Int) → Option Int) : (Int × Int) → Option ((Int × Int) ⊕ Int) := fun (iv4, j5) => if iv4 < j5 then Option.bind (ix xv (w64 (shrW .u64 ((IntKind.u64).wrap (w64 (iv4 + j5))) 1))) fun a27 => Option.bind (cmp a27 target) fun a30 => if a30 < 0 then some (.inl (w64 ((w64 (shrW .u64 ((IntKind.u64).wrap (w64 (iv4 + j5))) 1)) + 1), j5)) else some (.inl (iv4, w64 (shrW .u64 ((IntKind.u64).wrap (w64 (iv4 + j5))) 1))) else some (.inr iv4)
noncomputable def slices_BinarySearchFunc_int_int_int (xv : List (List Int)) (target : List Int) (cmp : (List Int) → (List Int) → Option Int) : Option (Int × Bool) := Option.bind (Loop (slices_BinarySearchFunc_int_int_int_l1 xv target cmp) (0, (xv.length : Int))) fun iv6 => Option.bind (if iv6 < (xv.length : Int) then Option.bind (ix xv iv6) fun a43 => Option.bind (cmp a43 target) fun a46 => some (decide (a46 = 0)) else some false) fun t9 => some (iv6, t9)
abbrev slices_CompactFunc_int_int_w_s0 (l : List (List Int)) : Store := [.one (vec 1 eLi64 l)]
def slices_CompactFunc_int_int_w_l2 (l : List (List Int)) (kv54 : Int) : Int → ((List (List Int)) × Int) → Option ((List (List Int)) × Int) := fun k258 (c56, kv57) => Option.bind (Option.bind (ixV c56 (0 + kv54) ((l.length : Int) - kv54) k258) fun a41 => Option.bind (ixV c56 (0 + kv54) ((l.length : Int) - kv54) (k258 - 1)) fun a46 => Option.bind (slices_Equal_int_int a41 a46) fun a48 => if (!a48) = true then Option.bind (ixV c56 (0 + kv54) ((l.length : Int) - kv54) k258) fun a54 => Option.bind (ix c56 kv57) fun a56 => some (c56.set kv57.toNat a54, w64 (kv57 + 1)) else some (c56, kv57)) fun ⟨c59, kv60⟩ => some (c59, kv60)
def slices_CompactFunc_int_int_w_l1 (l : List (List Int)) : Int → Unit → Option (Unit ⊕ (List (List Int))) := fun kv54 _ => Option.bind (ix l kv54) fun a21 => Option.bind (ix l (kv54 - 1)) fun a26 => Option.bind (slices_Equal_int_int a21 a26) fun a28 => if a28 = true then Option.bind (cutV (l.length : Int) kv54 (l.length : Int)) fun u31 => (Option.bind (forR 1 ((l.length : Int) - kv54) (slices_CompactFunc_int_int_w_l2 l kv54) (l, kv54)) fun ⟨c56, kv57⟩ => Option.bind (cutV (c56.length : Int) kv57 (c56.length : Int)) fun u61 => Option.bind (cutV ((clrL c56 (0 + kv57) ((c56.length : Int) - kv57) []).length : Int) 0 kv57) fun u64 => some (.inr (viewL (clrL c56 (0 + kv57) ((c56.length : Int) - kv57) []) 0 kv57))) else some (.inl ())
def slices_CompactFunc_int_int_w (l : List (List Int)) : Option (List (List Int)) := if (l.length : Int) < 2 then some l else (Option.bind (rngX 1 (l.length : Int) (slices_CompactFunc_int_int_w_l1 l) ()) fun | .inl _ => some l | .inr x => some x)
abbrev belief_Normal_w_s0 (l : List (List Int)) : Store := [.one (vec 1 eLi64 l)]
noncomputable def belief_Normal_w (l : List (List Int)) : Option (List (List Int)) := Option.bind (sortFL slices_Compare_int_int l) fun a4 => Option.bind (slices_CompactFunc_int_int_w a4) fun a6 => some a6
noncomputable def open_Results_l1 (sv : List Int) (a20 : TOpenOperator) : Int → (List (List Int)) → Option (List (List Int)) := fun t5 c4 => Option.bind (ix a20.outcomes t5) fun a26 => Option.bind (strips_Update sv a26.add a26.del) fun a34 => Option.bind (app 24 c4 [a34]) fun a36 => some a36
noncomputable def open_Results_l2 (c4 : List (List Int)) (a40 : (List (List Int))) (a47 : TOpenOperator) : Int → (List Int) → Option (List Int) := fun t7 c6 => Option.bind (ix a47.outcomes t7) fun a54 => Option.bind (ix c4 t7) fun a60 => Option.bind (slices_BinarySearchFunc_int_int_int a40 a60 slices_Compare_int_int) fun a62 => Option.bind (ix c6 a62.1) fun a67 => Option.bind (ix c6 a62.1) fun a72 => some (c6.set a62.1.toNat (w64 (a67 + a54.weight)))
noncomputable def open_Results (ov : TOpenTask) (sv : List Int) (op : Int) : Option ((List (List Int)) × (List Int)) := Option.bind (ix ov.operators op) fun a20 => (Option.bind (forR 0 (a20.outcomes.length : Int) (open_Results_l1 sv a20) []) fun c4 => Option.bind (slices_Clone_Lint_int c4) fun a39 => Option.bind (belief_Normal_w a39) fun a40 => Option.bind (mkL 8 (a40.length : Int) 0) fun a43 => Option.bind (ix ov.operators op) fun a47 => (Option.bind (forR 0 (a47.outcomes.length : Int) (open_Results_l2 c4 a40 a47) a43) fun c6 => some (a40, c6)))
noncomputable def open_Outcomes (ov : TOpenTask) (sv : List Int) (op : Int) : Option ((List (List Int)) × (List Int) × TFault) := Option.bind (open_Validate ov) fun a13 => if (!((decide (a13.code = 0)) && (decide (a13.index = 0)))) = true then some ([], [], a13) else Option.bind (strips_IsSet sv ov.facts) fun a22 => if (!a22) = true then some ([], [], (⟨5, -4⟩ : TFault)) else if ((decide (op < 0)) || (decide ((ov.operators.length : Int) ≤ op))) = true then some ([], [], (⟨3, -6⟩ : TFault)) else Option.bind (open_Can ov sv op) fun a40 => if (!a40) = true then some ([], [], (⟨11, op⟩ : TFault)) else Option.bind (open_Results ov sv op) fun a48 => some (a48.1, a48.2, (⟨0, 0⟩ : TFault))
def equal_Numbers_l1 (av : List Int) (bv : List Int) : Int → Unit → Option (Unit ⊕ Bool) := fun iv4 _ => Option.bind (ix av iv4) fun a19 => Option.bind (ix bv iv4) fun a23 => if a19 = a23 then some (.inl ()) else some (.inr false)
def equal_Numbers (av : List Int) (bv : List Int) : Option Bool := if (av.length : Int) = (bv.length : Int) then (Option.bind (rngX 0 (av.length : Int) (equal_Numbers_l1 av bv) ()) fun | .inl _ => some true | .inr x => some x) else some false
def equal_Sets_l1 (av : List (List Int)) (bv : List (List Int)) : Int → Unit → Option (Unit ⊕ Bool) := fun iv4 _ => Option.bind (ix av iv4) fun a19 => Option.bind (ix bv iv4) fun a23 => Option.bind (equal_Numbers a19 a23) fun a25 => if (!a25) = true then some (.inr false) else some (.inl ())
def equal_Sets (av : List (List Int)) (bv : List (List Int)) : Option Bool := if (av.length : Int) = (bv.length : Int) then (Option.bind (rngX 0 (av.length : Int) (equal_Sets_l1 av bv) ()) fun | .inl _ => some true | .inr x => some x) else some false
noncomputable def law8_tossed : Option Bool := Option.bind (law8_coin) fun a5 => Option.bind (open_Outcomes a5 [] 0) fun a6 => Option.bind (if a6.2.2.code = 0 then Option.bind (equal_Sets a6.1 ([[], [0]])) fun a17 => if a17 = true then Option.bind (equal_Numbers a6.2.1 [2, 1]) fun a22 => some a22 else some false else some false) fun t1 => some t1
def ref1_Ints_l1 (av : List Int) (bv : List Int) : Int → Unit → Option (Unit ⊕ Bool) := fun iv4 _ => Option.bind (ix av iv4) fun a19 => Option.bind (ix bv iv4) fun a23 => if a19 = a23 then some (.inl ()) else some (.inr false)
def ref1_Ints (av : List Int) (bv : List Int) : Option Bool := if (av.length : Int) = (bv.length : Int) then (Option.bind (rngX 0 (av.length : Int) (ref1_Ints_l1 av bv) ()) fun | .inl _ => some true | .inr x => some x) else some false
def ref8_Chosen_l1 (p : List TChoice) (sv : List Int) : Int → Unit → Option (Unit ⊕ Int) := fun iv3 _ => Option.bind (ix p iv3) fun a14 => Option.bind (ref1_Ints a14.state sv) fun a18 => if a18 = true then Option.bind (ix p iv3) fun a21 => some (.inr a21.operator) else some (.inl ())
def ref8_Chosen (p : List TChoice) (sv : List Int) : Option Int := (Option.bind (rngX 0 (p.length : Int) (ref8_Chosen_l1 p sv) ()) fun | .inl _ => some (-1) | .inr x => some x)
def ref8_Goal (ov : TOpenTask) (sv : List Int) : Option Bool := Option.bind (ref1_Subset ov.goal sv) fun a8 => some a8
def ref8_Effect_l1 (sv : List Int) (xv : TOutcome) : Int → (List Int) → Option (List Int) := fun p5 c4 => Option.bind (Option.bind (Option.bind (ref1_Has xv.add p5) fun a18 => if a18 = true then some true else Option.bind (ref1_Has sv p5) fun a22 => if a22 = true then Option.bind (ref1_Has xv.del p5) fun a27 => some (!a27) else some false) fun t8 => if t8 = true then Option.bind (app 8 c4 [p5]) fun a34 => some a34 else some c4) fun c6 => some c6
def ref8_Effect (ov : TOpenTask) (sv : List Int) (xv : TOutcome) : Option (List Int) := if ov.facts ≤ 9223372036854775807 then (Option.bind (forR 0 ov.facts (ref8_Effect_l1 sv xv) []) fun c4 => some c4) else none
def ref8_Follow_l1 (ov : TOpenTask) (p : List TChoice) (outcomes : List Int) : Int → (List (List Int)) → Option ((List (List Int)) ⊕ ((List (List Int)) × TFault)) := fun iv6 c5 => Option.bind (ix c5 iv6) fun a27 => Option.bind (ref8_Chosen p a27) fun a31 => Option.bind (if a31 < 0 then some true else Option.bind (ref8_Goal ov a27) fun a37 => some a37) fun t7 => if t7 = true then some (.inr (c5, (⟨0, 0⟩ : TFault))) else Option.bind (ix outcomes iv6) fun a43 => Option.bind (ix ov.operators a31) fun a48 => Option.bind (ref1_In a43 0 (w64 ((a48.outcomes.length : Int) - 1))) fun a53 => if (!a53) = true then Option.bind (ref1_At 3 iv6) fun a56 => some (.inr ([], a56)) else Option.bind (ix ov.operators a31) fun a63 => Option.bind (ix outcomes iv6) fun a68 => Option.bind (ix a63.outcomes a68) fun a70 => Option.bind (ref8_Effect ov a27 a70) fun a72 => Option.bind (app 24 c5 [a72]) fun a74 => some (.inl a74)
def ref8_Follow (ov : TOpenTask) (p : List TChoice) (outcomes : List Int) : Option ((List (List Int)) × TFault) := if 60 < (outcomes.length : Int) then Option.bind (ref1_At 2 (-5)) fun a15 => some ([], a15) else (Option.bind (rngX 0 (outcomes.length : Int) (ref8_Follow_l1 ov p outcomes) [ov.init]) fun | .inl c5 => some (c5, (⟨0, 0⟩ : TFault)) | .inr x => some x)
noncomputable def law8_OpenPolicyMatchesSpec (ov : TOpenTask) (p : List TChoice) (outcomes : List Int) : Option Bool := Option.bind (open_Follow ov p outcomes) fun a16 => Option.bind (ref8_PolicyFault ov p) fun a21 => Option.bind (open_ValidatePolicy ov p) fun a24 => if (!((decide (a24.code = a21.code)) && (decide (a24.index = a21.index)))) = true then some false else if a21.code = 0 then Option.bind (ref8_Follow ov p outcomes) fun a45 => Option.bind (if ((decide (a16.2.code = a45.2.code)) && (decide (a16.2.index = a45.2.index))) = true then Option.bind (equal_Sets a16.1 a45.1) fun a54 => if a54 = true then Option.bind (law8_tossed) fun a57 => some a57 else some false else some false) fun t10 => some t10 else Option.bind (if ((decide (a16.2.code = a21.code)) && (decide (a16.2.index = a21.index))) = true then if (a16.1.length : Int) = 0 then Option.bind (law8_tossed) fun a39 => some a39 else some false else some false) fun t6 => some t6
end Ab
end
section
namespace Go.Proofs
open Go.Shelf
def Try.lays189_ren : Go.Shelf.Ren := ⟨fun | 189 => 44 | 125 => 58 | 257 => 57 | 128 => 73 | 129 => 74 | 294 => 65 | 295 => 66 | 296 => 67 | 297 => 68 | 298 => 69 | 299 => 70 | 216 => 55 | 300 => 71 | 301 => 72 | 328 => 78 | 329 => 79 | 330 => 80 | 331 => 81 | 332 => 82 | 215 => 60 | 343 => 92 | n => n, fun | 28 => 22 | 3 => 3 | 46 => 87 | 0 => 0 | 51 => 103 | 53 => 105 | 4 => 4 | 183 => 97 | 182 => 96 | 131 => 77 | 5 => 5 | 9 => 9 | 218 => 108 | 222 => 112 | 228 => 120 | 229 => 121 | n => n, fun | n => n⟩
theorem Try.lays189 : Go.Proofs.Lays.n189 Try.prog Try.lays189_ren := {
  mixed := by kernel_rfl
  f125 := Try.func58.trans (congrArg some (by kernel_rfl))
  f128 := Try.func73.trans (congrArg some (by kernel_rfl))
  f129 := Try.func74.trans (congrArg some (by kernel_rfl))
  f189 := Try.func44.trans (congrArg some (by kernel_rfl))
  f215 := Try.func60.trans (congrArg some (by kernel_rfl))
  f216 := Try.func55.trans (congrArg some (by kernel_rfl))
  f257 := Try.func57.trans (congrArg some (by kernel_rfl))
  f294 := Try.func65.trans (congrArg some (by kernel_rfl))
  f295 := Try.func66.trans (congrArg some (by kernel_rfl))
  f296 := Try.func67.trans (congrArg some (by kernel_rfl))
  f297 := Try.func68.trans (congrArg some (by kernel_rfl))
  f298 := Try.func69.trans (congrArg some (by kernel_rfl))
  f299 := Try.func70.trans (congrArg some (by kernel_rfl))
  f300 := Try.func71.trans (congrArg some (by kernel_rfl))
  f301 := Try.func72.trans (congrArg some (by kernel_rfl))
  f328 := Try.func78.trans (congrArg some (by kernel_rfl))
  f329 := Try.func79.trans (congrArg some (by kernel_rfl))
  f330 := Try.func80.trans (congrArg some (by kernel_rfl))
  f331 := Try.func81.trans (congrArg some (by kernel_rfl))
  f332 := Try.func82.trans (congrArg some (by kernel_rfl))
  f343 := Try.func92.trans (congrArg some (by kernel_rfl))
  t0 := Try.underlying0
  a0 := Try.isAgg0
  z0 := Try.sizeOf0
  v0 := Try.zeroValue0
  t3 := Try.underlying3
  a3 := Try.isAgg3
  z3 := Try.sizeOf3
  v3 := Try.zeroValue3
  t4 := Try.underlying4
  a4 := Try.isAgg4
  z4 := Try.sizeOf4
  v4 := Try.zeroValue4
  t5 := Try.underlying5
  a5 := Try.isAgg5
  z5 := Try.sizeOf5
  v5 := Try.zeroValue5
  t9 := Try.underlying9
  a9 := Try.isAgg9
  z9 := Try.sizeOf9
  v9 := Try.zeroValue9
  t28 := Try.underlying22
  a28 := Try.isAgg22
  z28 := Try.sizeOf22
  v28 := Try.zeroValue22
  t46 := Try.underlying87
  a46 := Try.isAgg87
  z46 := Try.sizeOf87
  v46 := Try.zeroValue87
  t51 := Try.underlying103
  a51 := Try.isAgg103
  z51 := Try.sizeOf103
  v51 := Try.zeroValue103
  t53 := Try.underlying105
  a53 := Try.isAgg105
  z53 := Try.sizeOf105
  v53 := Try.zeroValue105
  t131 := Try.underlying77
  a131 := Try.isAgg77
  z131 := Try.sizeOf77
  v131 := Try.zeroValue77
  t182 := Try.underlying96
  a182 := Try.isAgg96
  z182 := Try.sizeOf96
  v182 := Try.zeroValue96
  t183 := Try.underlying97
  a183 := Try.isAgg97
  z183 := Try.sizeOf97
  v183 := Try.zeroValue97
  t218 := Try.underlying108
  a218 := Try.isAgg108
  z218 := Try.sizeOf108
  v218 := Try.zeroValue108
  t222 := Try.underlying112
  a222 := Try.isAgg112
  z222 := Try.sizeOf112
  v222 := Try.zeroValue112
  t228 := Try.underlying120
  a228 := Try.isAgg120
  z228 := Try.sizeOf120
  v228 := Try.zeroValue120
  t229 := Try.underlying121
  a229 := Try.isAgg121
  z229 := Try.sizeOf121
  v229 := Try.zeroValue121 }
open Go.Sort Go.RowKit in
theorem Try.slices_Sort_int (blk off cap : Nat) (zs : List Int) (w : World) (hH : Holds (Value.int .i64) w blk off zs.toArray) (hblk : blk < w.heap.size) (hsz : zs.length < 4611686018427387904) :
    Calls Try.prog 44 #[.slice (some ⟨blk, off, none⟩) zs.length cap] w fun e w' =>
      e = .returned (.tuple #[]) ∧ ∃ n os, w' = grow (putRow (Value.int .i64) (Sort.ahead w n) blk off (zs.mergeSort fun x y => decide (x ≤ y)).toArray) os := Any.slices_Sort_int Try.lays189 blk off cap zs w hH hblk hsz
def Try.laysNm220_ren : Go.Shelf.Ren := ⟨fun | 20 => 45 | n => n, fun | 22 => 22 | 3 => 3 | 4 => 4 | 0 => 0 | n => n, fun | n => n⟩
theorem Try.laysNm220 : Go.Proofs.Lays2.n20 Try.prog Try.laysNm220_ren := {
  mixed := by kernel_rfl
  f20 := Try.func45.trans (congrArg some (by kernel_rfl))
  t0 := Try.underlying0
  a0 := Try.isAgg0
  z0 := Try.sizeOf0
  v0 := Try.zeroValue0
  t3 := Try.underlying3
  a3 := Try.isAgg3
  z3 := Try.sizeOf3
  v3 := Try.zeroValue3
  t4 := Try.underlying4
  a4 := Try.isAgg4
  z4 := Try.sizeOf4
  v4 := Try.zeroValue4
  t22 := Try.underlying22
  a22 := Try.isAgg22
  z22 := Try.sizeOf22
  v22 := Try.zeroValue22
  i3 := by kernel_rfl }
open Go.RowKit Go.Lib Go.Sort in
/-- slices.Compact at []int: "Compact replaces consecutive runs of equal elements with a single copy. This is like the uniq command found on Unix. Compact modifies the contents of the slice s and returns the modified slice, which may have a smaller length. Compact zeroes the elements between the new length and the original length. The result preserves the nilness of s.": IT RETURNS THE SLICE CUT TO 'Lib.compact zs'; ITS CELLS HOLD 'Lib.compact zs', THEN ZERO VALUES up to the old length; all else is as' it was, but for the count of draws. IN THE WORDS OF slices.Sort's CONTRACT ('Holds', 'putRow'): so the everyday 'slices.Sort(xs); xs = slices.Compact(xs)' goes from the one contract to the other. It asks 'zs.length ≤ cap' (every slice's: the reslicing 's[:k]' looks at it). Length 0, nil: '.._empty'. (LAID: no walk: one application.) -/
theorem Try.slices_Compact_int (blk off cap : Nat) (zs : List Int) (w : World) (hH : Holds (Value.int .i64) w blk off zs.toArray) (hsz : zs.length ≤ 9223372036854775807) (hcap : zs.length ≤ cap) :
    Calls Try.prog 45 #[.slice (some ⟨blk, off, none⟩) zs.length cap] w fun e w' => e = .returned (.slice (some ⟨blk, off, none⟩) (Lib.compact zs).length cap) ∧ ∃ q, w' = putRow (Value.int .i64) (Sort.ahead w q) blk off (Lib.compact zs ++ List.replicate (zs.length - (Lib.compact zs).length) 0).toArray := Any.slices_Compact_int Try.laysNm220 blk off cap zs w hH hsz hcap
open Go.RowKit Go.Lib Go.Sort in
/-- The same at a slice of length 0, a nil one too: it comes back as' it is. (LAID: no walk: one application.) -/
theorem Try.slices_Compact_int_empty (a : Option Addr) (cap : Nat) (w : World) :
    Calls Try.prog 45 #[.slice a 0 cap] w fun e w' => e = .returned (.slice a 0 cap) ∧ w' = w := Any.slices_Compact_int_empty Try.laysNm220 a cap w
open Go.RowKit Go.Sort in
/-- .. and plain. (LAID: no walk: one application.) -/
theorem Try.slices_Sort_int_none (p : Option Addr) (cap : Nat) (w : World) :
    Calls Try.prog 44 #[.slice p 0 cap] w fun e w' => e = .returned (.tuple #[]) ∧ w' = w := Any.slices_Sort_int_none Try.lays189 p cap w
def Try.laysSlF6_f61_ren : Go.Shelf.Ren := ⟨fun | 6 => 61 | 15 => 58 | 14 => 77 | 28 => 73 | 29 => 74 | 20 => 84 | 21 => 85 | 22 => 86 | 23 => 87 | 24 => 88 | 25 => 89 | 26 => 90 | 27 => 91 | 46 => 93 | 47 => 79 | 48 => 80 | 49 => 94 | 50 => 95 | 57 => 96 | n => n, fun | 22 => 27 | 24 => 22 | 25 => 66 | 3 => 3 | 39 => 87 | 0 => 0 | 53 => 103 | 55 => 105 | 4 => 4 | 46 => 97 | 45 => 96 | 50 => 77 | 5 => 5 | 9 => 9 | 66 => 108 | 70 => 112 | 76 => 120 | 77 => 121 | n => n, fun | n => n⟩
theorem Try.laysSlF6_f61 : Go.Proofs.SlLaysF.n6 Try.prog Try.laysSlF6_f61_ren := {
  mixed := by kernel_rfl
  f6 := ⟨Try.f61.name, by decide, Try.func61.trans (congrArg some (by kernel_rfl))⟩
  f14 := ⟨Try.f77.name, by decide, Try.func77.trans (congrArg some (by kernel_rfl))⟩
  f15 := Try.func58.trans (congrArg some (by kernel_rfl))
  f20 := ⟨Try.f84.name, by decide, Try.func84.trans (congrArg some (by kernel_rfl))⟩
  f21 := ⟨Try.f85.name, by decide, Try.func85.trans (congrArg some (by kernel_rfl))⟩
  f22 := ⟨Try.f86.name, by decide, Try.func86.trans (congrArg some (by kernel_rfl))⟩
  f23 := ⟨Try.f87.name, by decide, Try.func87.trans (congrArg some (by kernel_rfl))⟩
  f24 := ⟨Try.f88.name, by decide, Try.func88.trans (congrArg some (by kernel_rfl))⟩
  f25 := ⟨Try.f89.name, by decide, Try.func89.trans (congrArg some (by kernel_rfl))⟩
  f26 := ⟨Try.f90.name, by decide, Try.func90.trans (congrArg some (by kernel_rfl))⟩
  f27 := ⟨Try.f91.name, by decide, Try.func91.trans (congrArg some (by kernel_rfl))⟩
  f28 := Try.func73.trans (congrArg some (by kernel_rfl))
  f29 := Try.func74.trans (congrArg some (by kernel_rfl))
  f46 := ⟨Try.f93.name, by decide, Try.func93.trans (congrArg some (by kernel_rfl))⟩
  f47 := Try.func79.trans (congrArg some (by kernel_rfl))
  f48 := Try.func80.trans (congrArg some (by kernel_rfl))
  f49 := ⟨Try.f94.name, by decide, Try.func94.trans (congrArg some (by kernel_rfl))⟩
  f50 := ⟨Try.f95.name, by decide, Try.func95.trans (congrArg some (by kernel_rfl))⟩
  f57 := ⟨Try.f96.name, by decide, Try.func96.trans (congrArg some (by kernel_rfl))⟩
  t0 := Try.underlying0
  a0 := Try.isAgg0
  z0 := Try.sizeOf0
  v0 := Try.zeroValue0
  t3 := Try.underlying3
  a3 := Try.isAgg3
  z3 := Try.sizeOf3
  v3 := Try.zeroValue3
  t4 := Try.underlying4
  a4 := Try.isAgg4
  z4 := Try.sizeOf4
  v4 := Try.zeroValue4
  t5 := Try.underlying5
  a5 := Try.isAgg5
  z5 := Try.sizeOf5
  v5 := Try.zeroValue5
  t9 := Try.underlying9
  a9 := Try.isAgg9
  z9 := Try.sizeOf9
  v9 := Try.zeroValue9
  t22 := Try.underlying27
  a22 := Try.isAgg27
  z22 := Try.sizeOf27
  v22 := Try.zeroValue27
  a24 := Try.isAgg22
  z24 := Try.sizeOf22
  t25 := Try.underlying66
  a25 := Try.isAgg66
  z25 := Try.sizeOf66
  v25 := Try.zeroValue66
  t39 := Try.underlying87
  a39 := Try.isAgg87
  z39 := Try.sizeOf87
  v39 := Try.zeroValue87
  t45 := Try.underlying96
  a45 := Try.isAgg96
  z45 := Try.sizeOf96
  v45 := Try.zeroValue96
  t46 := Try.underlying97
  a46 := Try.isAgg97
  z46 := Try.sizeOf97
  v46 := Try.zeroValue97
  t50 := Try.underlying77
  a50 := Try.isAgg77
  z50 := Try.sizeOf77
  v50 := Try.zeroValue77
  t53 := Try.underlying103
  a53 := Try.isAgg103
  z53 := Try.sizeOf103
  v53 := Try.zeroValue103
  t55 := Try.underlying105
  a55 := Try.isAgg105
  z55 := Try.sizeOf105
  v55 := Try.zeroValue105
  t66 := Try.underlying108
  a66 := Try.isAgg108
  z66 := Try.sizeOf108
  v66 := Try.zeroValue108
  t70 := Try.underlying112
  a70 := Try.isAgg112
  z70 := Try.sizeOf112
  v70 := Try.zeroValue112
  t76 := Try.underlying120
  a76 := Try.isAgg120
  z76 := Try.sizeOf120
  v76 := Try.zeroValue120
  t77 := Try.underlying121
  a77 := Try.isAgg121
  z77 := Try.sizeOf121
  v77 := Try.zeroValue121 }
open Go.RowKit Go.Lib Go.Sort in
/-- **slices.SortFunc, IN THE DOCUMENTATION's OWN TERMS: A PERMUTATION OF WHAT THE ROW HELD, SORTED BY 'cmp(a, b) < 0'.** Which of two equals comes first is left open ("The sort is not guaranteed to be stable"). (LAID AT THE INSTANCE 'slices.SortFunc[[][]int,[]int]': no walk: one application.) -/
theorem Try.slices_SortFunc {α : Type} [Inhabited α] (enc : α → Value) (h1 : OneCell enc) (cf : α → α → Int) (hO : SWO (ltOf cf)) (g : Nat) (cb : Array Value) (blk off cap : Nat) (d : Array α) (w : World) (eg : ∀ args w, (callFunc g args).run Try.prog w = .ok (.enter g args) w) (hcmp : CmpLays1 Try.prog g cb enc cf blk off d.size w) (hH : Holds enc w blk off d) (hblk : blk < w.heap.size) (hsz : d.size < 4611686018427387904) :
    Calls Try.prog 61 #[.slice (some ⟨blk, off, none⟩) d.size cap, .func (.func g) #[] cb] w fun e w' =>
      e = .returned (.tuple #[]) ∧ ∃ d' n os, PermIn 0 d.size d d' ∧ SortedIn (ltOf cf) 0 d.size d' ∧ w' = sortWorld enc w blk off n d' os := Any.slices_SortFunc Try.laysSlF6_f61 enc h1 cf hO g cb blk off cap d w eg hcmp hH hblk hsz
def Try.laysSlF06_f61_ren : Go.Shelf.Ren := ⟨fun | 6 => 61 | 15 => 58 | 14 => 77 | 28 => 73 | 29 => 74 | 20 => 84 | 21 => 85 | 22 => 86 | 23 => 87 | 24 => 88 | 25 => 89 | 26 => 90 | 27 => 91 | 46 => 93 | 47 => 79 | 48 => 80 | 49 => 94 | 50 => 95 | 57 => 96 | n => n, fun | 22 => 27 | 24 => 22 | 25 => 66 | 3 => 3 | 39 => 87 | 0 => 0 | 53 => 103 | 55 => 105 | 4 => 4 | 46 => 97 | 45 => 96 | 50 => 77 | 5 => 5 | 9 => 9 | 66 => 108 | 70 => 112 | 76 => 120 | 77 => 121 | n => n, fun | n => n⟩
theorem Try.laysSlF06_f61 : Go.Proofs.SlLaysF0.n6 Try.prog Try.laysSlF06_f61_ren := {
  mixed := by kernel_rfl
  f6 := ⟨Try.f61.name, by decide, Try.func61.trans (congrArg some (by kernel_rfl))⟩
  f14 := ⟨Try.f77.name, by decide, Try.func77.trans (congrArg some (by kernel_rfl))⟩
  f15 := Try.func58.trans (congrArg some (by kernel_rfl))
  f20 := ⟨Try.f84.name, by decide, Try.func84.trans (congrArg some (by kernel_rfl))⟩
  f21 := ⟨Try.f85.name, by decide, Try.func85.trans (congrArg some (by kernel_rfl))⟩
  f22 := ⟨Try.f86.name, by decide, Try.func86.trans (congrArg some (by kernel_rfl))⟩
  f23 := ⟨Try.f87.name, by decide, Try.func87.trans (congrArg some (by kernel_rfl))⟩
  f24 := ⟨Try.f88.name, by decide, Try.func88.trans (congrArg some (by kernel_rfl))⟩
  f25 := ⟨Try.f89.name, by decide, Try.func89.trans (congrArg some (by kernel_rfl))⟩
  f26 := ⟨Try.f90.name, by decide, Try.func90.trans (congrArg some (by kernel_rfl))⟩
  f27 := ⟨Try.f91.name, by decide, Try.func91.trans (congrArg some (by kernel_rfl))⟩
  f28 := Try.func73.trans (congrArg some (by kernel_rfl))
  f29 := Try.func74.trans (congrArg some (by kernel_rfl))
  f46 := ⟨Try.f93.name, by decide, Try.func93.trans (congrArg some (by kernel_rfl))⟩
  f47 := Try.func79.trans (congrArg some (by kernel_rfl))
  f48 := Try.func80.trans (congrArg some (by kernel_rfl))
  f49 := ⟨Try.f94.name, by decide, Try.func94.trans (congrArg some (by kernel_rfl))⟩
  f50 := ⟨Try.f95.name, by decide, Try.func95.trans (congrArg some (by kernel_rfl))⟩
  f57 := ⟨Try.f96.name, by decide, Try.func96.trans (congrArg some (by kernel_rfl))⟩
  t0 := Try.underlying0
  a0 := Try.isAgg0
  z0 := Try.sizeOf0
  v0 := Try.zeroValue0
  t3 := Try.underlying3
  a3 := Try.isAgg3
  z3 := Try.sizeOf3
  v3 := Try.zeroValue3
  t4 := Try.underlying4
  a4 := Try.isAgg4
  z4 := Try.sizeOf4
  v4 := Try.zeroValue4
  t5 := Try.underlying5
  a5 := Try.isAgg5
  z5 := Try.sizeOf5
  v5 := Try.zeroValue5
  t9 := Try.underlying9
  a9 := Try.isAgg9
  z9 := Try.sizeOf9
  v9 := Try.zeroValue9
  t22 := Try.underlying27
  a22 := Try.isAgg27
  z22 := Try.sizeOf27
  v22 := Try.zeroValue27
  t25 := Try.underlying66
  a25 := Try.isAgg66
  z25 := Try.sizeOf66
  v25 := Try.zeroValue66
  t39 := Try.underlying87
  a39 := Try.isAgg87
  z39 := Try.sizeOf87
  v39 := Try.zeroValue87
  t45 := Try.underlying96
  a45 := Try.isAgg96
  z45 := Try.sizeOf96
  v45 := Try.zeroValue96
  t46 := Try.underlying97
  a46 := Try.isAgg97
  z46 := Try.sizeOf97
  v46 := Try.zeroValue97
  t50 := Try.underlying77
  a50 := Try.isAgg77
  z50 := Try.sizeOf77
  v50 := Try.zeroValue77
  t53 := Try.underlying103
  a53 := Try.isAgg103
  z53 := Try.sizeOf103
  v53 := Try.zeroValue103
  t55 := Try.underlying105
  a55 := Try.isAgg105
  z55 := Try.sizeOf105
  v55 := Try.zeroValue105
  t66 := Try.underlying108
  a66 := Try.isAgg108
  z66 := Try.sizeOf108
  v66 := Try.zeroValue108
  t70 := Try.underlying112
  a70 := Try.isAgg112
  z70 := Try.sizeOf112
  v70 := Try.zeroValue112
  t76 := Try.underlying120
  a76 := Try.isAgg120
  z76 := Try.sizeOf120
  v76 := Try.zeroValue120
  t77 := Try.underlying121
  a77 := Try.isAgg121
  z77 := Try.sizeOf121
  v77 := Try.zeroValue121 }
open Go.RowKit Go.Lib Go.Sort in
/-- **slices.SortFunc AT NO ELEMENT, A nil SLICE TOO: nothing turns.** (LAID AT THE INSTANCE 'slices.SortFunc[[][]int,[]int]': no walk: one application.) -/
theorem Try.slices_SortFunc_none {α : Type} [Inhabited α] (p : Option Addr) (cap : Nat) (fv : Value) (w : World) :
    Calls Try.prog 61 #[.slice p 0 cap, fv] w fun e w' => e = .returned (.tuple #[]) ∧ w' = w := AnyF.slices_SortFunc_none Try.laysSlF06_f61 p cap fv w
end Go.Proofs
end
section
namespace Ab
open Go Go.Proofs
theorem sort_facts : fnFacts Try.prog 44 := ⟨_, Try.func44, rfl, rfl⟩
theorem compact_facts : fnFacts Try.prog 45 := ⟨_, Try.func45, rfl, rfl⟩
theorem sortL_ok : SortOk Try.prog 44 := fun hσ hl => sort_fn sort_facts (fun blk off cap zs w hH hb hs => Try.slices_Sort_int blk off cap zs w hH hb hs) (fun p cap w => Try.slices_Sort_int_none p cap w) hσ hl
theorem compactL_ok : CompactOk Try.prog 45 := fun hσ => compact_fn compact_facts (fun blk off cap zs w hH hs hc => Try.slices_Compact_int blk off cap zs w hH hs hc) (fun a cap w => Try.slices_Compact_int_empty a cap w) hσ
end Ab
end
section
namespace Ab
open Go Go.Proofs
theorem sortF_facts : fnFacts Try.prog 61 := ⟨_, Try.func61, rfl, rfl⟩
theorem sortF_LLi64_ok : SortFOk Try.prog 61 := fun hgn hO hT hg _ _ _ hσ hl => sortF_fn sortF_facts hgn hO hT hg (fun β _ enc h1 cf hO g cb blk off cap d w eg hcmp hH hblk hsz => Try.slices_SortFunc enc h1 cf hO g cb blk off cap d w eg hcmp hH hblk hsz) (fun p cap fv w => Try.slices_SortFunc_none (α := Unit) p cap fv w) hσ hl
end Ab
end
