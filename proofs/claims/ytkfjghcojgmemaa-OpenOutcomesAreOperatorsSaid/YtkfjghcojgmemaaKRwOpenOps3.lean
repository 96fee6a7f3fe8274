/-
  Texts that the proof stands on.
-/
import Derived.Test.YtkfjghcojgmemaaKRwOpenOps2
import Derived.Laws.Cover3
import Derived.Shelf.Small.Bits
import Derived.Shelf.Strconv.Itoa0
import Derived.Shelf.Sort.Plain
import Derived.Shelf.Slices.Equal
import Derived.Ground.Names2Prog
import Derived.Shelf.Slices.Clone
import Derived.Shelf.Slices.SearchI
import Derived.Shelf.Slices.Cells
import Derived.Shelf.Slices.In.SortNone
import Derived.Shelf.Slices.Empties
import Derived.Ground.SlgnProg
import Derived.Shelf.SlicesE.Clone
import Derived.Ground.SlsfProg
import Derived.Shelf.SlSortCmp.Insertion
import Derived.Shelf.SlSortCmp.SiftDown1
import Derived.Shelf.SlSortCmp.HeapSort1
import Derived.Shelf.SlSortCmp.Insertion1
import Derived.Shelf.SlSortCmp.Median1
import Derived.Shelf.SlSortCmp.Pivot1
import Derived.Shelf.SlSortCmp.ReverseRange1
import Derived.Shelf.SlSortCmp.PartialInsertion1
import Derived.Shelf.SlSortCmp.PartitionEqual1
import Derived.Shelf.SlSortCmp.Partition1
import Derived.Shelf.SlSortCmp.Pdq1
import Derived.Shelf.SlSortCmp.NoneTotal
import Derived.Test.YtkfjghcojgmemaaProg
set_option linter.all false
section
namespace Ab
open Go
section
variable {P : Program} {σ0 : Store} {sz : Nat} {Q : Post} {env : Env} {σv : Store} {ops : Array Oper} {rest : List Oper} {dst : Option Nat} {ty : TypeId} {pos : String} {after : Array Edge}
end
section
variable {P : Program} {σ0 : Store} {sz : Nat} {Q : Post} {env env' : Env} {σv σ' : Store}
theorem Sub.virtB {α : Type} (k : Nat) (f : α → List I) {b n : Id} {kb o : Nat} {cs cs' : List C} {σ1 : Store} (hb : σv[b]? = some (some (.cells kb [cs]))) (hc : cs[o]? = some (.imm (.val (.slice none 0 0)))) (hn : newF σv = some n) (h1 : snocF σv (.one (vec k f [])) = some σ1)
    (hs : setF cs o (.own n 0 ([] : List α).length) = some cs') (hσ' : putF σ1 b (some (.cells kb [cs'])) = some σ') : Sub σ0 ⟨env, σv⟩ ⟨env, σ'⟩ := fun Γ sz φ a w hΓ hR => by
  have g1 := newF_eq hn; have g2 := snocF_eq h1; have g3 := setF_eq hs; have g4 := putF_get hσ'
  obtain ⟨g3, g3'⟩ := g3
  subst g1 g2 g3 g4
  have hbl := Store.lt_of hb
  have hV := hR.toRs.virt k
  have hb' : (σv ++ [.one (vec k f [])])[b]? = some (some (.cells kb [cs])) := by rw [Store.get_left hbl]; exact hb
  have e0 : (σv ++ [.one (.cells k [])] : Store) = σv ++ [.one (vec k f [])] := rfl
  rw [e0] at hV
  generalize hφ : (fun i => if i = ((σv.length, []) : Id) then none else φ i) = φ' at hV
  have φn : φ' (σv.length, []) = none := by rw [← hφ]; simp
  rcases hV.2.st.blk _ _ hb' with ⟨_, g⟩ | ⟨b0, base, arr, ety, q1, q2, q3, q4, q5⟩
  · cases g
  · have hW := Rs.write (k := kb) (es' := [cs.set o (.own (σv.length, []) 0 ([] : List α).length)]) (arr' := arr) hV.2 hb' q1 q2 rfl rfl (fun j e he => by
      match j with
      | 0 =>
        cases he
        rw [List.length_set]
        exact q4 0 cs rfl
      | j + 1 => simp at he) (by simpa using q3) (fun j e i x he hx => by
      match j with
      | 0 =>
        cases he
        rw [List.getElem?_set] at hx
        split at hx
        · rename_i e
          subst e
          cases hx
          obtain ⟨u, hu, hr⟩ := q5 0 cs o _ rfl hc
          refine ⟨u, hu, ?_⟩
          cases hr with | imm hr => cases hr with | val h =>
            exact .own (by simp) rfl fun k' es' _ => .inl ⟨φn, rfl, rfl, rfl⟩
        · exact q5 0 cs i x rfl hx
      | j + 1 => simp at he)
    rw [Go.setRow_self w b0 arr ety (0, 0) q2] at hW
    exact ⟨φ', (hR.of hV.1 hV.2).of hW.1 hW.2⟩
theorem AWP.virtB {α : Type} {c : Code} (k : Nat) (f : α → List I) {b n : Id} {kb o : Nat} {cs cs' : List C} {σ1 : Store} (hb : σv[b]? = some (some (.cells kb [cs]))) (hc : cs[o]? = some (.imm (.val (.slice none 0 0)))) (hn : newF σv = some n) (h1 : snocF σv (.one (vec k f [])) = some σ1)
    (hs : setF cs o (.own n 0 ([] : List α).length) = some cs') (hσ' : putF σ1 b (some (.cells kb [cs'])) = some σ') (h : AWP P σ0 sz c Q ⟨env, σ'⟩) : AWP P σ0 sz c Q ⟨env, σv⟩ := AWP.sub (Sub.virtB k f hb hc hn h1 hs hσ') h
/-- Cells of which some are nil, read as' rows with nothing in them. -/
def NilB : List C → List C → Prop
  | [], [] => True
  | c :: r, c' :: r' => (c' = c ∨ c = .imm (.val (.slice none 0 0)) ∧ ∃ k, c' = .imm (.sl k [])) ∧ NilB r r'
  | _, _ => False
theorem NilB.len : ∀ {l l' : List C}, NilB l l' → l'.length = l.length
  | [], [], _ => rfl
  | _ :: r, _ :: r', ⟨_, h⟩ => by simp [NilB.len h]
  | [], _ :: _, h => h.elim
  | _ :: _, [], h => h.elim
theorem NilB.get : ∀ {l l' : List C}, NilB l l' → ∀ (o : Nat) (x : C), l'[o]? = some x → ∃ x0, l[o]? = some x0 ∧ (x = x0 ∨ x0 = .imm (.val (.slice none 0 0)) ∧ ∃ k, x = .imm (.sl k []))
  | [], [], _, o, x, h => by simp at h
  | c :: r, c' :: r', ⟨h1, h2⟩, o, x, h => by
    match o with
    | 0 => cases h; exact ⟨c, rfl, h1⟩
    | o + 1 => simpa using NilB.get h2 o x (by simpa using h)
  | [], _ :: _, h, _, _, _ => h.elim
  | _ :: _, [], h, _, _, _ => h.elim
theorem Sub.nilB {b : Id} {kb : Nat} {cs : List C} (cs' : List C) (hb : σv[b]? = some (some (.cells kb [cs]))) (h : NilB cs cs') (hlen : cs.length = kb) (hσ' : putF σv b (some (.cells kb [cs'])) = some σ') : Sub σ0 ⟨env, σv⟩ ⟨env, σ'⟩ := by
  have g := putF_get hσ'
  subst g
  refine Sub.blk hb rfl (fun j e he => ?_) (fun j e o x he hx => ?_)
  · match j with
    | 0 => cases he; rw [h.len, hlen]
    | j + 1 => simp at he
  · match j with
    | 0 =>
      cases he
      obtain ⟨x0, h1, h2⟩ := h.get o x hx
      refine ⟨cs, x0, rfl, h1, fun w φ σ A u hr => ?_⟩
      rcases h2 with rfl | ⟨rfl, k, rfl⟩
      · exact hr
      · cases hr with | imm hr => cases hr with | val => exact .imm .slNil
    | j + 1 => simp at he
theorem AWP.nilB {c : Code} {b : Id} {kb : Nat} {cs : List C} (cs' : List C) (hb : σv[b]? = some (some (.cells kb [cs]))) (h : NilB cs cs') (hlen : cs.length = kb) (hσ' : putF σv b (some (.cells kb [cs'])) = some σ') (hn : AWP P σ0 sz c Q ⟨env, σ'⟩) : AWP P σ0 sz c Q ⟨env, σv⟩ := AWP.sub (Sub.nilB cs' hb h hlen hσ') hn
end
end Ab
end
section
namespace Ab
open Go
section
variable {P : Program} {σ0 : Store} {sz : Nat} {Q : Post} {env : Env} {σv σ' : Store} {ops : Array Oper} {rest : List Oper} {dst : Option Nat} {ty : TypeId} {pos : String} {after : Array Edge}
theorem AOps.eqlNil {x y : Operand} {t t' e : TypeId} {k : Nat} {es : List (List I)} [ht : TyD P t (.slice e)] (hx : ev env x = some (.c (.imm (.sl k es)))) (hy : ev env y = some (.c (.imm (.val (.slice none 0 0))))) (hd : dstOk sz dst = true)
    (h1 : es = [] → AOps P σ0 sz ops Q rest (St.mk (putE env dst (.c (bool true))) σv)) (h2 : AOps P σ0 sz ops Q rest (St.mk (putE env dst (.c (bool false))) σv)) :
    AOps P σ0 sz ops Q (⟨dst, .binOp .eql t x y t', ty, pos, after, none⟩ :: rest) (St.mk env σv) := fun Γ φ a w hΓ hR =>
  wpList_plain rfl fun K hK => by
    have hrel := ev_rel hR hx
    have hyv := ev_val hR hy
    generalize hu : a.eval x = u at hrel
    cases hrel with | c hrel => cases hrel with | imm hrel =>
    unfold Oper.wp
    cases hrel with
    | slNil =>
      have hg : (eqGuard .eql t x y (.slice none 0 0) (.slice none 0 0)).run P w = .ok () w := rfl
      have hr : (binOp .eql t (.slice none 0 0) (.slice none 0 0)).run P w = .ok (.bool true) w := by
        show (do pure (Value.bool (← Op.equal t (.slice none 0 0) (.slice none 0 0)))).run P w = _
        simp [run_equal_slice_nil w t e none 0 0 ht.h]
      have hrun : (execOp a.eval ⟨dst, .binOp .eql t x y t', ty, pos, after, none⟩).run P w = .ok (.value (.bool true)) w := by
        simp [execOp, hu, hyv, hg, hr]
      rw [hrun, Oper.upon_value]
      exact hK _ _ (h1 rfl Γ φ _ w hΓ (hR.put hd (.c (.imm (.val rfl)))))
    | @sl _ _ ad cap us _ _ _ _ _ =>
      have hg : (eqGuard .eql t x y (.slice (some ad) es.length cap) (.slice none 0 0)).run P w = .ok () w := rfl
      have hr : (binOp .eql t (.slice (some ad) es.length cap) (.slice none 0 0)).run P w = .ok (.bool false) w := by
        show (do pure (Value.bool (← Op.equal t (.slice (some ad) es.length cap) (.slice none 0 0)))).run P w = _
        simp [run_equal_slice_nil w t e (some ad) es.length cap ht.h]
      have hrun : (execOp a.eval ⟨dst, .binOp .eql t x y t', ty, pos, after, none⟩).run P w = .ok (.value (.bool false)) w := by
        simp [execOp, hu, hyv, hg, hr]
      rw [hrun, Oper.upon_value]
      exact hK _ _ (h2 Γ φ _ w hΓ (hR.put hd (.c (.imm (.val rfl)))))
end
end Ab
end
section
namespace Ab
open Go Go.Proofs
def slices_Clone_int_int (s : List Int) : Option (List Int) := app 8 [] s
theorem slices_Clone_int_int_ok {s r : List Int} (h : slices_Clone_int_int s = some r) : FreshOk Try.prog 19 [.c (row 1 intI s)] 1 (List.map intI r) := by
  unfold slices_Clone_int_int at h
  unfold FreshOk
  refine FnOk.enter (rs := [.t 2]) Try.func19 rfl Try.ntmps19 Try.results19 rfl ⟨trivial, trivial⟩ (by kernel_rfl) rfl ?_
  refine AWP.seq ?_
  refine AWP.region ?_
  refine AOps.assign rfl rfl ?_
  refine AOps.nil ?_
  refine thn_normal ?_
  refine AWP.seq ?_
  refine AWP.seq ?_
  refine AWP.region ?_
  refine AOps.move rfl rfl ?_
  refine AOps.eqlNil rfl rfl rfl (fun he => ?_) ?_
  · have hs : s = [] := by simpa using he
    subst hs
    have hr : r = [] := by
      have := app_get h
      simpa using this.2
    subst hr
    refine AOps.nil ?_
    refine thn_normal ?_
    refine AWP.condT rfl ?_
    refine AWP.seq ?_
    refine AWP.region ?_
    refine AOps.assign rfl rfl ?_
    refine AOps.nil ?_
    refine thn_normal ?_
    refine AWP.virtV 1 intI 2 rfl rfl rfl ?_
    refine AWP.ret ?_
    refine thn_ret ?_
    exact Done.ret rfl (Fresh.mk rfl rfl)
  · refine AOps.nil ?_
    refine thn_normal ?_
    refine AWP.condF rfl ?_
    refine AWP.skip ?_
    refine thn_normal ?_
    refine AWP.seq ?_
    refine AWP.region ?_
    refine S.lit (f := intI) (l := []) (ess := []) rfl rfl rfl rfl rfl rfl rfl trivial rfl rfl rfl ?_
    refine AOps.move rfl rfl ?_
    refine S.append (f := intI) h rfl rfl rfl rfl rfl rfl .row rfl rfl rfl rfl ?_
    refine AOps.assign rfl rfl ?_
    refine AOps.nil ?_
    refine thn_normal ?_
    refine AWP.ret ?_
    exact Done.ret rfl (Fresh.mk rfl rfl)
end Ab
end
section
namespace Ab
open Go Go.Proofs
abbrev rowI (l : List Int) : List I := [.sl 1 (l.map intI)]
def slices_Clone_Lint_int (s : List (List Int)) : Option (List (List Int)) := app 24 [] s
theorem slices_Clone_Lint_int_ok {s r : List (List Int)} (h : slices_Clone_Lint_int s = some r) : FreshOk Try.prog 52 [.c (row 1 rowI s)] 1 (List.map rowI r) := by
  unfold slices_Clone_Lint_int at h
  unfold FreshOk
  refine FnOk.enter (rs := [.t 2]) Try.func52 rfl Try.ntmps52 Try.results52 rfl ⟨trivial, trivial⟩ (by kernel_rfl) rfl ?_
  refine AWP.seq ?_
  refine AWP.region ?_
  refine AOps.assign rfl rfl ?_
  refine AOps.nil ?_
  refine thn_normal ?_
  refine AWP.seq ?_
  refine AWP.seq ?_
  refine AWP.region ?_
  refine AOps.move rfl rfl ?_
  refine AOps.eqlNil rfl rfl rfl (fun he => ?_) ?_
  · have hs : s = [] := by simpa using he
    subst hs
    have hr : r = [] := by
      have := app_get h
      simpa using this.2
    subst hr
    refine AOps.nil ?_
    refine thn_normal ?_
    refine AWP.condT rfl ?_
    refine AWP.seq ?_
    refine AWP.region ?_
    refine AOps.assign rfl rfl ?_
    refine AOps.nil ?_
    refine thn_normal ?_
    refine AWP.virtV 1 rowI 2 rfl rfl rfl ?_
    refine AWP.ret ?_
    refine thn_ret ?_
    exact Done.ret rfl (Fresh.mk rfl rfl)
  · refine AOps.nil ?_
    refine thn_normal ?_
    refine AWP.condF rfl ?_
    refine AWP.skip ?_
    refine thn_normal ?_
    refine AWP.seq ?_
    refine AWP.region ?_
    refine S.lit (f := rowI) (l := []) (ess := []) rfl rfl rfl rfl rfl rfl rfl trivial rfl rfl rfl ?_
    refine AOps.move rfl rfl ?_
    refine S.append (f := rowI) h rfl rfl rfl rfl rfl rfl .row rfl rfl rfl rfl ?_
    refine AOps.assign rfl rfl ?_
    refine AOps.nil ?_
    refine thn_normal ?_
    refine AWP.ret ?_
    exact Done.ret rfl (Fresh.mk rfl rfl)
end Ab
end
section
namespace Ab
open Go Go.Proofs
set_option linter.all false
abbrev eLi64 (l : List Int) : List I := [.sl 1 (l.map intI)]
structure TOutcome where
  add : List Int
  del : List Int
  weight : Int
abbrev eTOutcome (v : TOutcome) : List I := [.sl 1 (List.map intI v.add), .sl 1 (List.map intI v.del), .val (.int .i64 v.weight)]
structure TOpenOperator where
  pre : List Int
  outcomes : List TOutcome
  cost : Int
abbrev eTOpenOperator (v : TOpenOperator) : List I := [.sl 1 (List.map intI v.pre), .sl 3 (List.map eTOutcome v.outcomes), .val (.int .i64 v.cost)]
structure TOpenTask where
  facts : Int
  init : List Int
  goal : List Int
  operators : List TOpenOperator
abbrev eTOpenTask (v : TOpenTask) : List I := [.val (.int .i64 v.facts), .sl 1 (List.map intI v.init), .sl 1 (List.map intI v.goal), .sl 3 (List.map eTOpenOperator v.operators)]
structure TFault where
  code : Int
  index : Int
structure TChoice where
  state : List Int
  operator : Int
structure Tx_int64_y_int_signed_bool_code_abi_BoundsErrorCode where
  fx : Int
  fy : Int
  signed : Bool
  code : Int
structure Truntime_boundsError where
  fx : Int
  fy : Int
  signed : Bool
  code : Int
structure TFacts_int_Init_int_Goal_int_Operators_api_OpenOperator where
  facts : Int
  init : List Int
  goal : List Int
  operators : List TOpenOperator
structure TCode_int_Index_int where
  code : Int
  index : Int
structure TOperator where
  pre : List Int
  add : List Int
  del : List Int
  cost : Int
abbrev eTOperator (v : TOperator) : List I := [.sl 1 (List.map intI v.pre), .sl 1 (List.map intI v.add), .sl 1 (List.map intI v.del), .val (.int .i64 v.cost)]
structure TFacts_int_Init_int_Goal_int_Operators_api_Operator where
  facts : Int
  init : List Int
  goal : List Int
  operators : List TOperator
structure TTask where
  facts : Int
  init : List Int
  goal : List Int
  operators : List TOperator
abbrev eA2i64 (v : Int × Int) : List I := [.val (.int .i64 v.1), .val (.int .i64 v.2)]
structure TPre_int_Outcomes_api_Outcome_Cost_int where
  pre : List Int
  outcomes : List TOutcome
  cost : Int
structure TAdd_int_Del_int_Weight_int where
  add : List Int
  del : List Int
  weight : Int
structure TState_int_Operator_int where
  state : List Int
  operator : Int
structure TPre_int_Add_int_Del_int_Cost_int where
  pre : List Int
  add : List Int
  del : List Int
  cost : Int
def strips_IsSet_l1 (l : List Int) (nv : Int) : Int → Unit → Option (Unit ⊕ Bool) := fun t3 _ => Option.bind (ix l t3) fun a12 => Option.bind (if a12 < 0 then some true else if nv ≤ a12 then some true else if 0 < t3 then Option.bind (ix l (t3 - 1)) fun a29 => some (decide (a12 ≤ a29)) else some false) fun t4 => if t4 = true then some (.inr false) else some (.inl ())
def strips_IsSet (l : List Int) (nv : Int) : Option Bool := (Option.bind (rngX 0 (l.length : Int) (strips_IsSet_l1 l nv) ()) fun | .inl _ => some true | .inr x => some x)
def cmp_isNaN_int (xv : Int) : Option Bool := some (!(decide (xv = xv)))
def cmp_Less_int (xv : Int) (yv : Int) : Option Bool := Option.bind (Option.bind (cmp_isNaN_int xv) fun a6 => if a6 = true then Option.bind (cmp_isNaN_int yv) fun a9 => if (!a9) = true then some true else some (decide (xv < yv)) else some (decide (xv < yv))) fun t3 => some t3
def slices_isNaN_int (xv : Int) : Option Bool := some (!(decide (xv = xv)))
def slices_BinarySearch_int_int_l1 (xv : List Int) (target : Int) : (Int × Int) → Option ((Int × Int) ⊕ Int) := fun (iv3, j4) => if iv3 < j4 then Option.bind (ix xv (w64 (shrW .u64 ((IntKind.u64).wrap (w64 (iv3 + j4))) 1))) fun a24 => Option.bind (cmp_Less_int a24 target) fun a27 => if a27 = true then some (.inl (w64 ((w64 (shrW .u64 ((IntKind.u64).wrap (w64 (iv3 + j4))) 1)) + 1), j4)) else some (.inl (iv3, w64 (shrW .u64 ((IntKind.u64).wrap (w64 (iv3 + j4))) 1))) else some (.inr iv3)
noncomputable def slices_BinarySearch_int_int (xv : List Int) (target : Int) : Option (Int × Bool) := Option.bind (Loop (slices_BinarySearch_int_int_l1 xv target) (0, (xv.length : Int))) fun iv5 => Option.bind (if iv5 < (xv.length : Int) then Option.bind (ix xv iv5) fun a38 => if a38 = target then some true else Option.bind (ix xv iv5) fun a45 => Option.bind (slices_isNaN_int a45) fun a47 => if a47 = true then Option.bind (slices_isNaN_int target) fun a50 => some a50 else some false else some false) fun t8 => some (iv5, t8)
noncomputable def strips_Meets_1 (xv : Int) (c2 : List Int) : Option Bool := Option.bind (slices_BinarySearch_int_int c2 xv) fun a9 => some a9.2
def slices_IndexFunc_int_int_l1 (sv : List Int) (fv : Int → Option Bool) : Int → Unit → Option (Unit ⊕ Int) := fun t3 _ => Option.bind (ix sv t3) fun a14 => Option.bind (fv a14) fun a16 => if a16 = true then some (.inr t3) else some (.inl ())
def slices_IndexFunc_int_int (sv : List Int) (fv : Int → Option Bool) : Option Int := (Option.bind (rngX 0 (sv.length : Int) (slices_IndexFunc_int_int_l1 sv fv) ()) fun | .inl _ => some (-1) | .inr x => some x)
def slices_ContainsFunc_int_int (sv : List Int) (fv : Int → Option Bool) : Option Bool := Option.bind (slices_IndexFunc_int_int sv fv) fun a7 => some (decide (0 ≤ a7))
noncomputable def strips_Meets (av : List Int) (bv : List Int) : Option Bool := Option.bind (slices_ContainsFunc_int_int av (fun y1 => strips_Meets_1 y1 bv)) fun a7 => some a7
noncomputable def open_operatorCode_l1 (ov : TOpenOperator) (facts : Int) : Int → Unit → Option (Unit ⊕ Int) := fun t6 _ => Option.bind (ix ov.outcomes t6) fun a38 => Option.bind (Option.bind (strips_IsSet a38.add facts) fun a44 => if (!a44) = true then some true else Option.bind (strips_IsSet a38.del facts) fun a50 => if (!a50) = true then some true else Option.bind (strips_Meets a38.add a38.del) fun a58 => some a58) fun t7 => if t7 = true then some (.inr 5) else if ((decide (a38.weight < 1)) || (decide (6 < a38.weight))) = true then some (.inr 3) else some (.inl ())
noncomputable def open_operatorCode (ov : TOpenOperator) (facts : Int) : Option Int := Option.bind (strips_IsSet ov.pre facts) fun a11 => if (!a11) = true then some 5 else if ((decide (ov.cost < 0)) || (decide (100 < ov.cost))) = true then some 3 else if ((decide ((ov.outcomes.length : Int) = 0)) || (decide (4 < (ov.outcomes.length : Int)))) = true then some 9 else (Option.bind (rngX 0 (ov.outcomes.length : Int) (open_operatorCode_l1 ov facts) ()) fun | .inl _ => some 0 | .inr x => some x)
noncomputable def open_Validate_l1 (ov : TOpenTask) : Int → Unit → Option (Unit ⊕ TFault) := fun t6 _ => Option.bind (ix ov.operators t6) fun a44 => Option.bind (open_operatorCode a44 ov.facts) fun a49 => if a49 = 0 then some (.inl ()) else some (.inr (⟨a49, t6⟩ : TFault))
noncomputable def open_Validate (ov : TOpenTask) : Option TFault := if ((decide (ov.facts < 0)) || (decide (24 < ov.facts))) = true then some (⟨3, -1⟩ : TFault) else Option.bind (strips_IsSet ov.init ov.facts) fun a21 => if (!a21) = true then some (⟨5, -2⟩ : TFault) else Option.bind (strips_IsSet ov.goal ov.facts) fun a29 => if (!a29) = true then some (⟨5, -3⟩ : TFault) else if 40 < (ov.operators.length : Int) then some (⟨2, -1⟩ : TFault) else (Option.bind (rngX 0 (ov.operators.length : Int) (open_Validate_l1 ov) ()) fun | .inl _ => some (⟨0, 0⟩ : TFault) | .inr x => some x)
def cmp_Compare_int (xv : Int) (yv : Int) : Option Int := Option.bind (cmp_isNaN_int xv) fun a8 => Option.bind (cmp_isNaN_int yv) fun a10 => if a8 = true then if a10 = true then some 0 else some (-1) else if a10 = true then some 1 else if xv < yv then some (-1) else if yv < xv then some 1 else some 0
def slices_Compare_int_int_l1 (s11 : List Int) (s22 : List Int) : Int → Unit → Option (Unit ⊕ Int) := fun t3 _ => Option.bind (ix s11 t3) fun a14 => if (s22.length : Int) ≤ t3 then some (.inr 1) else Option.bind (ix s22 t3) fun a22 => Option.bind (cmp_Compare_int a14 a22) fun a26 => if a26 = 0 then some (.inl ()) else some (.inr a26)
def slices_Compare_int_int (s11 : List Int) (s22 : List Int) : Option Int := (Option.bind (rngX 0 (s11.length : Int) (slices_Compare_int_int_l1 s11 s22) ()) fun | .inl _ => if (s11.length : Int) < (s22.length : Int) then some (-1) else some 0 | .inr x => some x)
def strips_Contains_l2 (sv : List Int) (a12 : Int) : Int → Option (Int ⊕ Int) := fun iv5 => Option.bind (if iv5 < (sv.length : Int) then Option.bind (ix sv iv5) fun a21 => some (decide (a21 < a12)) else some false) fun t7 => if t7 = true then some (.inl (w64 (iv5 + 1))) else some (.inr iv5)
noncomputable def strips_Contains_l1 (sv : List Int) (part : List Int) : Int → Int → Option (Int ⊕ Bool) := fun t4 iv3 => Option.bind (ix part t4) fun a12 => Option.bind (Loop (strips_Contains_l2 sv a12) iv3) fun iv6 => Option.bind (if iv6 = (sv.length : Int) then some true else Option.bind (ix sv iv6) fun a35 => some (!(decide (a35 = a12)))) fun t11 => if t11 = true then some (.inr false) else some (.inl iv6)
noncomputable def strips_Contains (sv : List Int) (part : List Int) : Option Bool := (Option.bind (rngX 0 (part.length : Int) (strips_Contains_l1 sv part) 0) fun | .inl iv3 => some true | .inr x => some x)
noncomputable def open_Can (ov : TOpenTask) (sv : List Int) (op : Int) : Option Bool := Option.bind (ix ov.operators op) fun a11 => Option.bind (strips_Contains sv a11.pre) fun a14 => some a14
noncomputable def strips_Update_l1 (sv : List Int) (del : List Int) : Int → (List Int) → Option (List Int) := fun t5 c4 => Option.bind (Option.bind (ix sv t5) fun a16 => Option.bind (slices_BinarySearch_int_int del a16) fun a21 => if (!a21.2) = true then Option.bind (app 8 c4 [a16]) fun a29 => some a29 else some c4) fun c6 => some c6
noncomputable def strips_Update (sv : List Int) (add : List Int) (del : List Int) : Option (List Int) := (Option.bind (forR 0 (sv.length : Int) (strips_Update_l1 sv del) []) fun c4 => Option.bind (app 8 c4 add) fun a33 => Option.bind (sortL a33) fun a35 => some (compactL a35))
def ref1_In (nv : Int) (low : Int) (high : Int) : Option Bool := some ((decide (low ≤ nv)) && (decide (nv ≤ high)))
def ref1_At (code : Int) (index : Int) : Option TFault := some (⟨code, index⟩ : TFault)
def ref1_IsSet_l1 (l : List Int) (nv : Int) : Int → Unit → Option (Unit ⊕ Bool) := fun iv3 _ => Option.bind (Option.bind (ix l iv3) fun a14 => Option.bind (ref1_In a14 0 (w64 (nv - 1))) fun a18 => if (!a18) = true then some true else if 0 < iv3 then Option.bind (ix l iv3) fun a26 => Option.bind (ix l (iv3 - 1)) fun a31 => some (decide (a26 ≤ a31)) else some false) fun t4 => if t4 = true then some (.inr false) else some (.inl ())
def ref1_IsSet (l : List Int) (nv : Int) : Option Bool := (Option.bind (rngX 0 (l.length : Int) (ref1_IsSet_l1 l nv) ()) fun | .inl _ => some true | .inr x => some x)
def ref1_Has_l1 (l : List Int) (nv : Int) : Int → Unit → Option (Unit ⊕ Bool) := fun iv3 _ => Option.bind (ix l iv3) fun a14 => if a14 = nv then some (.inr true) else some (.inl ())
def ref1_Has (l : List Int) (nv : Int) : Option Bool := (Option.bind (rngX 0 (l.length : Int) (ref1_Has_l1 l nv) ()) fun | .inl _ => some false | .inr x => some x)
def ref1_Disjoint_l1 (av : List Int) (bv : List Int) : Int → Unit → Option (Unit ⊕ Bool) := fun iv3 _ => Option.bind (ix av iv3) fun a15 => Option.bind (ref1_Has bv a15) fun a17 => if a17 = true then some (.inr false) else some (.inl ())
def ref1_Disjoint (av : List Int) (bv : List Int) : Option Bool := (Option.bind (rngX 0 (av.length : Int) (ref1_Disjoint_l1 av bv) ()) fun | .inl _ => some true | .inr x => some x)
def ref8_OpenFault_l2 (ov : TOpenTask) (a42 : TOpenOperator) : (Int × Int) → Option ((Int × Int) ⊕ Int) := fun (ev12, kv13) => if ((decide (kv13 < (a42.outcomes.length : Int))) && (decide (ev12 = 0))) = true then Option.bind (Option.bind (ix a42.outcomes kv13) fun a73 => Option.bind (Option.bind (ref1_IsSet a73.add ov.facts) fun a79 => if (!a79) = true then some true else Option.bind (ref1_IsSet a73.del ov.facts) fun a86 => if (!a86) = true then some true else Option.bind (ref1_Disjoint a73.add a73.del) fun a94 => some (!a94)) fun t18 => if t18 = true then some 5 else Option.bind (ref1_In a73.weight 1 6) fun a99 => if (!a99) = true then some 3 else some ev12) fun ev16 => some (.inl (ev16, w64 (kv13 + 1))) else some (.inr ev12)
noncomputable def ref8_OpenFault_l1 (ov : TOpenTask) : Int → Unit → Option (Unit ⊕ TFault) := fun iv6 _ => Option.bind (ix ov.operators iv6) fun a42 => Option.bind (Option.bind (ref1_IsSet a42.pre ov.facts) fun a48 => if (!a48) = true then some 5 else Option.bind (ref1_In a42.cost 0 100) fun a52 => if (!a52) = true then some 3 else Option.bind (ref1_In (a42.outcomes.length : Int) 1 4) fun a57 => if (!a57) = true then some 9 else some 0) fun ev7 => Option.bind (Loop (ref8_OpenFault_l2 ov a42) (ev7, 0)) fun ev14 => if ev14 = 0 then some (.inl ()) else Option.bind (ref1_At ev14 iv6) fun a105 => some (.inr a105)
noncomputable def ref8_OpenFault (ov : TOpenTask) : Option TFault := Option.bind (ref1_In ov.facts 0 24) fun a10 => if (!a10) = true then Option.bind (ref1_At 3 (-1)) fun a12 => some a12 else Option.bind (ref1_IsSet ov.init ov.facts) fun a17 => if (!a17) = true then Option.bind (ref1_At 5 (-2)) fun a19 => some a19 else Option.bind (ref1_IsSet ov.goal ov.facts) fun a24 => if (!a24) = true then Option.bind (ref1_At 5 (-3)) fun a26 => some a26 else if 40 < (ov.operators.length : Int) then Option.bind (ref1_At 2 (-1)) fun a31 => some a31 else (Option.bind (rngX 0 (ov.operators.length : Int) (ref8_OpenFault_l1 ov) ()) fun | .inl _ => some (⟨0, 0⟩ : TFault) | .inr x => some x)
def ref7_Before_l1 (av : List Int) (bv : List Int) : Int → Option (Int ⊕ (Unit ⊕ Bool)) := fun iv3 => if ((decide (iv3 < (av.length : Int))) && (decide (iv3 < (bv.length : Int)))) = true then Option.bind (ix av iv3) fun a20 => Option.bind (ix bv iv3) fun a24 => if a20 = a24 then some (.inl (w64 (iv3 + 1))) else Option.bind (ix av iv3) fun a29 => Option.bind (ix bv iv3) fun a33 => some (.inr (.inr (decide (a29 < a33)))) else some (.inr (.inl ()))
noncomputable def ref7_Before (av : List Int) (bv : List Int) : Option Bool := Option.bind (Loop (ref7_Before_l1 av bv) 0) fun | .inl _ => some (decide ((av.length : Int) < (bv.length : Int))) | .inr x => some x
def law8_coin : Option TOpenTask := some (⟨1, [], [0], [(⟨[], [(⟨[0], [], 1⟩ : TOutcome), (⟨[], [], 2⟩ : TOutcome)], 1⟩ : TOpenOperator)]⟩ : TOpenTask)
def slices_Equal_int_int_l1 (s11 : List Int) (s22 : List Int) : Int → Unit → Option (Unit ⊕ Bool) := fun t4 _ => Option.bind (ix s11 t4) fun a18 => Option.bind (ix s22 t4) fun a22 => if a18 = a22 then some (.inl ()) else some (.inr false)
def slices_Equal_int_int (s11 : List Int) (s22 : List Int) : Option Bool := if (s11.length : Int) = (s22.length : Int) then (Option.bind (rngX 0 (s11.length : Int) (slices_Equal_int_int_l1 s11 s22) ()) fun | .inl _ => some true | .inr x => some x) else some false
def slices_BinarySearchFunc_int_int_int_l1 (xv : List (List Int)) (target : List Int) (cmp : (List Int) → (List Int) → Option Int) : (Int × Int) → Option ((Int × Int) ⊕ Int) := fun (iv4, j5) => if iv4 < j5 then Option.bind (ix xv (w64 (shrW .u64 ((IntKind.u64).wrap (w64 (iv4 + j5))) 1))) fun a27 => Option.bind (cmp a27 target) fun a30 => if a30 < 0 then some (.inl (w64 ((w64 (shrW .u64 ((IntKind.u64).wrap (w64 (iv4 + j5))) 1)) + 1), j5)) else some (.inl (iv4, w64 (shrW .u64 ((IntKind.u64).wrap (w64 (iv4 + j5))) 1))) else some (.inr iv4)
noncomputable def slices_BinarySearchFunc_int_int_int (xv : List (List Int)) (target : List Int) (cmp : (List Int) → (List Int) → Option Int) : Option (Int × Bool) := Option.bind (Loop (slices_BinarySearchFunc_int_int_int_l1 xv target cmp) (0, (xv.length : Int))) fun iv6 => Option.bind (if iv6 < (xv.length : Int) then Option.bind (ix xv iv6) fun a43 => Option.bind (cmp a43 target) fun a46 => some (decide (a46 = 0)) else some false) fun t9 => some (iv6, t9)
abbrev slices_CompactFunc_int_int_w_s0 (l : List (List Int)) : Store := [.one (vec 1 eLi64 l)]
def slices_CompactFunc_int_int_w_l2 (l : List (List Int)) (kv54 : Int) : Int → ((List (List Int)) × Int) → Option ((List (List Int)) × Int) := fun k258 (c56, kv57) => Option.bind (Option.bind (ixV c56 (0 + kv54) ((l.length : Int) - kv54) k258) fun a41 => Option.bind (ixV c56 (0 + kv54) ((l.length : Int) - kv54) (k258 - 1)) fun a46 => Option.bind (slices_Equal_int_int a41 a46) fun a48 => if (!a48) = true then Option.bind (ixV c56 (0 + kv54) ((l.length : Int) - kv54) k258) fun a54 => Option.bind (ix c56 kv57) fun a56 => some (c56.set kv57.toNat a54, w64 (kv57 + 1)) else some (c56, kv57)) fun ⟨c59, kv60⟩ => some (c59, kv60)
def slices_CompactFunc_int_int_w_l1 (l : List (List Int)) : Int → Unit → Option (Unit ⊕ (List (List Int))) := fun kv54 _ => Option.bind (ix l kv54) fun a21 => Option.bind (ix l (kv54 - 1)) fun a26 => Option.bind (slices_Equal_int_int a21 a26) fun a28 => if a28 = true then Option.bind (cutV (l.length : Int) kv54 (l.length : Int)) fun u31 => (Option.bind (forR 1 ((l.length : Int) - kv54) (slices_CompactFunc_int_int_w_l2 l kv54) (l, kv54)) fun ⟨c56, kv57⟩ => Option.bind (cutV (c56.length : Int) kv57 (c56.length : Int)) fun u61 => Option.bind (cutV ((clrL c56 (0 + kv57) ((c56.length : Int) - kv57) []).length : Int) 0 kv57) fun u64 => some (.inr (viewL (clrL c56 (0 + kv57) ((c56.length : Int) - kv57) []) 0 kv57))) else some (.inl ())
def slices_CompactFunc_int_int_w (l : List (List Int)) : Option (List (List Int)) := if (l.length : Int) < 2 then some l else (Option.bind (rngX 1 (l.length : Int) (slices_CompactFunc_int_int_w_l1 l) ()) fun | .inl _ => some l | .inr x => some x)
abbrev belief_Normal_w_s0 (l : List (List Int)) : Store := [.one (vec 1 eLi64 l)]
noncomputable def belief_Normal_w (l : List (List Int)) : Option (List (List Int)) := Option.bind (sortFL slices_Compare_int_int l) fun a4 => Option.bind (slices_CompactFunc_int_int_w a4) fun a6 => some a6
noncomputable def open_Results_l1 (sv : List Int) (a20 : TOpenOperator) : Int → (List (List Int)) → Option (List (List Int)) := fun t5 c4 => Option.bind (ix a20.outcomes t5) fun a26 => Option.bind (strips_Update sv a26.add a26.del) fun a34 => Option.bind (app 24 c4 [a34]) fun a36 => some a36
noncomputable def open_Results_l2 (c4 : List (List Int)) (a40 : (List (List Int))) (a47 : TOpenOperator) : Int → (List Int) → Option (List Int) := fun t7 c6 => Option.bind (ix a47.outcomes t7) fun a54 => Option.bind (ix c4 t7) fun a60 => Option.bind (slices_BinarySearchFunc_int_int_int a40 a60 slices_Compare_int_int) fun a62 => Option.bind (ix c6 a62.1) fun a67 => Option.bind (ix c6 a62.1) fun a72 => some (c6.set a62.1.toNat (w64 (a67 + a54.weight)))
noncomputable def open_Results (ov : TOpenTask) (sv : List Int) (op : Int) : Option ((List (List Int)) × (List Int)) := Option.bind (ix ov.operators op) fun a20 => (Option.bind (forR 0 (a20.outcomes.length : Int) (open_Results_l1 sv a20) []) fun c4 => Option.bind (slices_Clone_Lint_int c4) fun a39 => Option.bind (belief_Normal_w a39) fun a40 => Option.bind (mkL 8 (a40.length : Int) 0) fun a43 => Option.bind (ix ov.operators op) fun a47 => (Option.bind (forR 0 (a47.outcomes.length : Int) (open_Results_l2 c4 a40 a47) a43) fun c6 => some (a40, c6)))
noncomputable def open_Outcomes (ov : TOpenTask) (sv : List Int) (op : Int) : Option ((List (List Int)) × (List Int) × TFault) := Option.bind (open_Validate ov) fun a13 => if (!((decide (a13.code = 0)) && (decide (a13.index = 0)))) = true then some ([], [], a13) else Option.bind (strips_IsSet sv ov.facts) fun a22 => if (!a22) = true then some ([], [], (⟨5, -4⟩ : TFault)) else if ((decide (op < 0)) || (decide ((ov.operators.length : Int) ≤ op))) = true then some ([], [], (⟨3, -6⟩ : TFault)) else Option.bind (open_Can ov sv op) fun a40 => if (!a40) = true then some ([], [], (⟨11, op⟩ : TFault)) else Option.bind (open_Results ov sv op) fun a48 => some (a48.1, a48.2, (⟨0, 0⟩ : TFault))
def equal_Numbers_l1 (av : List Int) (bv : List Int) : Int → Unit → Option (Unit ⊕ Bool) := fun iv4 _ => Option.bind (ix av iv4) fun a19 => Option.bind (ix bv iv4) fun a23 => if a19 = a23 then some (.inl ()) else some (.inr false)
def equal_Numbers (av : List Int) (bv : List Int) : Option Bool := if (av.length : Int) = (bv.length : Int) then (Option.bind (rngX 0 (av.length : Int) (equal_Numbers_l1 av bv) ()) fun | .inl _ => some true | .inr x => some x) else some false
def equal_Sets_l1 (av : List (List Int)) (bv : List (List Int)) : Int → Unit → Option (Unit ⊕ Bool) := fun iv4 _ => Option.bind (ix av iv4) fun a19 => Option.bind (ix bv iv4) fun a23 => Option.bind (equal_Numbers a19 a23) fun a25 => if (!a25) = true then some (.inr false) else some (.inl ())
def equal_Sets (av : List (List Int)) (bv : List (List Int)) : Option Bool := if (av.length : Int) = (bv.length : Int) then (Option.bind (rngX 0 (av.length : Int) (equal_Sets_l1 av bv) ()) fun | .inl _ => some true | .inr x => some x) else some false
noncomputable def law8_tossed : Option Bool := Option.bind (law8_coin) fun a5 => Option.bind (open_Outcomes a5 [] 0) fun a6 => Option.bind (if a6.2.2.code = 0 then Option.bind (equal_Sets a6.1 ([[], [0]])) fun a17 => if a17 = true then Option.bind (equal_Numbers a6.2.1 [2, 1]) fun a22 => some a22 else some false else some false) fun t1 => some t1
def ref1_Ints_l1 (av : List Int) (bv : List Int) : Int → Unit → Option (Unit ⊕ Bool) := fun iv4 _ => Option.bind (ix av iv4) fun a19 => Option.bind (ix bv iv4) fun a23 => if a19 = a23 then some (.inl ()) else some (.inr false)
def ref1_Ints (av : List Int) (bv : List Int) : Option Bool := if (av.length : Int) = (bv.length : Int) then (Option.bind (rngX 0 (av.length : Int) (ref1_Ints_l1 av bv) ()) fun | .inl _ => some true | .inr x => some x) else some false
noncomputable def open_Determinize_l2 (t5 : Int) (a34 : TOpenOperator) : Int → ((List (Int × Int)) × (List TOperator)) → Option ((List (Int × Int)) × (List TOperator)) := fun t8 (c6, c7) => Option.bind (ix a34.outcomes t8) fun a42 => Option.bind (slices_Clone_int_int a34.pre) fun a48 => Option.bind (slices_Clone_int_int a42.add) fun a51 => Option.bind (slices_Clone_int_int a42.del) fun a54 => Option.bind (app 80 c7 [(⟨a48, a51, a54, a34.cost⟩ : TOperator)]) fun a59 => Option.bind (app 16 c6 [(t5, t8)]) fun a66 => some (a66, a59)
noncomputable def open_Determinize_l1 (ov : TOpenTask) : Int → ((List (Int × Int)) × (List TOperator)) → Option ((List (Int × Int)) × (List TOperator)) := fun t5 (c3, c4) => Option.bind (ix ov.operators t5) fun a34 => (Option.bind (forR 0 (a34.outcomes.length : Int) (open_Determinize_l2 t5 a34) (c3, c4)) fun ⟨c6, c7⟩ => some (c6, c7))
noncomputable def open_Determinize (ov : TOpenTask) : Option (TTask × (List (Int × Int)) × TFault) := Option.bind (open_Validate ov) fun a13 => if (!((decide (a13.code = 0)) && (decide (a13.index = 0)))) = true then some ((⟨0, [], [], []⟩ : TTask), [], a13) else Option.bind (slices_Clone_int_int ov.init) fun a23 => Option.bind (slices_Clone_int_int ov.goal) fun a26 => (Option.bind (forR 0 (ov.operators.length : Int) (open_Determinize_l1 ov) ([], [])) fun ⟨c3, c4⟩ => if 40 < (c3.length : Int) then some ((⟨0, [], [], []⟩ : TTask), [], (⟨10, -1⟩ : TFault)) else some ((⟨ov.facts, a23, a26, c4⟩ : TTask), c3, (⟨0, 0⟩ : TFault)))
noncomputable def strips_operator (ov : TOperator) (facts : Int) : Option Int := Option.bind (Option.bind (strips_IsSet ov.pre facts) fun a9 => if (!a9) = true then some true else Option.bind (strips_IsSet ov.add facts) fun a15 => if (!a15) = true then some true else Option.bind (strips_IsSet ov.del facts) fun a22 => if (!a22) = true then some true else Option.bind (strips_Meets ov.add ov.del) fun a30 => some a30) fun t3 => if t3 = true then some 5 else if ((decide (ov.cost < 0)) || (decide (100 < ov.cost))) = true then some 3 else some 0
noncomputable def strips_Validate_l1 (t : TTask) : Int → Unit → Option (Unit ⊕ TFault) := fun t6 _ => Option.bind (ix t.operators t6) fun a44 => Option.bind (strips_operator a44 t.facts) fun a49 => if a49 = 0 then some (.inl ()) else some (.inr (⟨a49, t6⟩ : TFault))
noncomputable def strips_Validate (t : TTask) : Option TFault := if ((decide (t.facts < 0)) || (decide (24 < t.facts))) = true then some (⟨3, -1⟩ : TFault) else Option.bind (strips_IsSet t.init t.facts) fun a21 => if (!a21) = true then some (⟨5, -2⟩ : TFault) else Option.bind (strips_IsSet t.goal t.facts) fun a29 => if (!a29) = true then some (⟨5, -3⟩ : TFault) else if 40 < (t.operators.length : Int) then some (⟨2, -1⟩ : TFault) else (Option.bind (rngX 0 (t.operators.length : Int) (strips_Validate_l1 t) ()) fun | .inl _ => some (⟨0, 0⟩ : TFault) | .inr x => some x)
noncomputable def strips_StateFault (t : TTask) (sv : List Int) : Option TFault := Option.bind (strips_Validate t) fun a7 => if (!((decide (a7.code = 0)) && (decide (a7.index = 0)))) = true then some a7 else Option.bind (strips_IsSet sv t.facts) fun a15 => if (!a15) = true then some (⟨5, -4⟩ : TFault) else some (⟨0, 0⟩ : TFault)
noncomputable def strips_Can (t : TTask) (sv : List Int) (op : Int) : Option Bool := Option.bind (ix t.operators op) fun a11 => Option.bind (strips_Contains sv a11.pre) fun a14 => some a14
noncomputable def strips_Next (t : TTask) (sv : List Int) (op : Int) : Option (List Int) := Option.bind (ix t.operators op) fun a11 => Option.bind (strips_Update sv a11.add a11.del) fun a18 => some a18
noncomputable def strips_Apply (t : TTask) (sv : List Int) (op : Int) : Option ((List Int) × TFault) := Option.bind (strips_StateFault t sv) fun a11 => if (!((decide (a11.code = 0)) && (decide (a11.index = 0)))) = true then some ([], a11) else if ((decide (op < 0)) || (decide ((t.operators.length : Int) ≤ op))) = true then some ([], (⟨3, -6⟩ : TFault)) else Option.bind (strips_Can t sv op) fun a31 => if (!a31) = true then some ([], (⟨11, op⟩ : TFault)) else Option.bind (strips_Next t sv op) fun a38 => some (a38, (⟨0, 0⟩ : TFault))
noncomputable def ref7_Insert_l1 (l : List (List Int)) (sv : List Int) : Int → Option (Int ⊕ Int) := fun kv3 => Option.bind (if kv3 < (l.length : Int) then Option.bind (ix l kv3) fun a13 => Option.bind (ref7_Before a13 sv) fun a16 => some a16 else some false) fun t5 => if t5 = true then some (.inl (w64 (kv3 + 1))) else some (.inr kv3)
noncomputable def ref7_Insert (l : List (List Int)) (sv : List Int) : Option (List (List Int)) := Option.bind (Loop (ref7_Insert_l1 l sv) 0) fun kv4 => Option.bind (if kv4 < (l.length : Int) then Option.bind (ix l kv4) fun a27 => Option.bind (ref1_Ints a27 sv) fun a30 => some a30 else some false) fun t9 => if t9 = true then some l else Option.bind (subL l 0 kv4) fun a36 => Option.bind (app 24 ([] : List (List Int)) a36) fun a37 => Option.bind (app 24 a37 [sv]) fun a40 => Option.bind (subL l kv4 (l.length : Int)) fun a43 => Option.bind (app 24 a40 a43) fun a44 => some a44
def law8_OpenOutcomesAreOperators_j2 : (List (List Int)) → Option ((List (List Int)) ⊕ Bool) := fun states7 => some (.inl states7)
noncomputable def law8_OpenOutcomesAreOperators_l1 (sv : List Int) (op : Int) (a27 : TTask × (List (Int × Int)) × TFault) : Int → (List (List Int)) → Option ((List (List Int)) ⊕ Bool) := fun iv6 states5 => Option.bind (ix a27.2.1 iv6) fun a48 => if a48.1 = op then Option.bind (strips_Apply a27.1 sv iv6) fun a57 => if a57.2.code = 0 then Option.bind (ref7_Insert states5 a57.1) fun a65 => law8_OpenOutcomesAreOperators_j2 a65 else some (.inr false) else law8_OpenOutcomesAreOperators_j2 states5
noncomputable def law8_OpenOutcomesAreOperators (ov : TOpenTask) (sv : List Int) (op : Int) : Option Bool := Option.bind (open_Outcomes ov sv op) fun a21 => Option.bind (open_Determinize ov) fun a27 => if ((!(decide (a21.2.2.code = 0))) || (!(decide (a27.2.2.code = 0)))) = true then Option.bind (law8_tossed) fun a39 => some a39 else (Option.bind (rngX 0 (a27.2.1.length : Int) (law8_OpenOutcomesAreOperators_l1 sv op a27) []) fun | .inl states5 => Option.bind (Option.bind (equal_Sets a21.1 states5) fun a68 => if a68 = true then Option.bind (law8_tossed) fun a70 => some a70 else some false) fun t10 => some t10 | .inr x => some x)
end Ab
end
section
namespace Go.Proofs
open Go.Shelf
def Try.lays189_ren : Go.Shelf.Ren := ⟨fun | 189 => 44 | 125 => 58 | 257 => 57 | 128 => 73 | 129 => 74 | 294 => 65 | 295 => 66 | 296 => 67 | 297 => 68 | 298 => 69 | 299 => 70 | 216 => 55 | 300 => 71 | 301 => 72 | 328 => 78 | 329 => 79 | 330 => 80 | 331 => 81 | 332 => 82 | 215 => 60 | 343 => 92 | n => n, fun | 28 => 22 | 3 => 3 | 46 => 87 | 0 => 0 | 51 => 103 | 53 => 105 | 4 => 4 | 183 => 97 | 182 => 96 | 131 => 77 | 5 => 5 | 9 => 9 | 218 => 108 | 222 => 112 | 228 => 120 | 229 => 121 | n => n, fun | n => n⟩
theorem Try.lays189 : Go.Proofs.Lays.n189 Try.prog Try.lays189_ren := {
  mixed := by kernel_rfl
  f125 := Try.func58.trans (congrArg some (by kernel_rfl))
  f128 := Try.func73.trans (congrArg some (by kernel_rfl))
  f129 := Try.func74.trans (congrArg some (by kernel_rfl))
  f189 := Try.func44.trans (congrArg some (by kernel_rfl))
  f215 := Try.func60.trans (congrArg some (by kernel_rfl))
  f216 := Try.func55.trans (congrArg some (by kernel_rfl))
  f257 := Try.func57.trans (congrArg some (by kernel_rfl))
  f294 := Try.func65.trans (congrArg some (by kernel_rfl))
  f295 := Try.func66.trans (congrArg some (by kernel_rfl))
  f296 := Try.func67.trans (congrArg some (by kernel_rfl))
  f297 := Try.func68.trans (congrArg some (by kernel_rfl))
  f298 := Try.func69.trans (congrArg some (by kernel_rfl))
  f299 := Try.func70.trans (congrArg some (by kernel_rfl))
  f300 := Try.func71.trans (congrArg some (by kernel_rfl))
  f301 := Try.func72.trans (congrArg some (by kernel_rfl))
  f328 := Try.func78.trans (congrArg some (by kernel_rfl))
  f329 := Try.func79.trans (congrArg some (by kernel_rfl))
  f330 := Try.func80.trans (congrArg some (by kernel_rfl))
  f331 := Try.func81.trans (congrArg some (by kernel_rfl))
  f332 := Try.func82.trans (congrArg some (by kernel_rfl))
  f343 := Try.func92.trans (congrArg some (by kernel_rfl))
  t0 := Try.underlying0
  a0 := Try.isAgg0
  z0 := Try.sizeOf0
  v0 := Try.zeroValue0
  t3 := Try.underlying3
  a3 := Try.isAgg3
  z3 := Try.sizeOf3
  v3 := Try.zeroValue3
  t4 := Try.underlying4
  a4 := Try.isAgg4
  z4 := Try.sizeOf4
  v4 := Try.zeroValue4
  t5 := Try.underlying5
  a5 := Try.isAgg5
  z5 := Try.sizeOf5
  v5 := Try.zeroValue5
  t9 := Try.underlying9
  a9 := Try.isAgg9
  z9 := Try.sizeOf9
  v9 := Try.zeroValue9
  t28 := Try.underlying22
  a28 := Try.isAgg22
  z28 := Try.sizeOf22
  v28 := Try.zeroValue22
  t46 := Try.underlying87
  a46 := Try.isAgg87
  z46 := Try.sizeOf87
  v46 := Try.zeroValue87
  t51 := Try.underlying103
  a51 := Try.isAgg103
  z51 := Try.sizeOf103
  v51 := Try.zeroValue103
  t53 := Try.underlying105
  a53 := Try.isAgg105
  z53 := Try.sizeOf105
  v53 := Try.zeroValue105
  t131 := Try.underlying77
  a131 := Try.isAgg77
  z131 := Try.sizeOf77
  v131 := Try.zeroValue77
  t182 := Try.underlying96
  a182 := Try.isAgg96
  z182 := Try.sizeOf96
  v182 := Try.zeroValue96
  t183 := Try.underlying97
  a183 := Try.isAgg97
  z183 := Try.sizeOf97
  v183 := Try.zeroValue97
  t218 := Try.underlying108
  a218 := Try.isAgg108
  z218 := Try.sizeOf108
  v218 := Try.zeroValue108
  t222 := Try.underlying112
  a222 := Try.isAgg112
  z222 := Try.sizeOf112
  v222 := Try.zeroValue112
  t228 := Try.underlying120
  a228 := Try.isAgg120
  z228 := Try.sizeOf120
  v228 := Try.zeroValue120
  t229 := Try.underlying121
  a229 := Try.isAgg121
  z229 := Try.sizeOf121
  v229 := Try.zeroValue121 }
open Go.Sort Go.RowKit in
theorem Try.slices_Sort_int (blk off cap : Nat) (zs : List Int) (w : World) (hH : Holds (Value.int .i64) w blk off zs.toArray) (hblk : blk < w.heap.size) (hsz : zs.length < 4611686018427387904) :
    Calls Try.prog 44 #[.slice (some ⟨blk, off, none⟩) zs.length cap] w fun e w' =>
      e = .returned (.tuple #[]) ∧ ∃ n os, w' = grow (putRow (Value.int .i64) (Sort.ahead w n) blk off (zs.mergeSort fun x y => decide (x ≤ y)).toArray) os := Any.slices_Sort_int Try.lays189 blk off cap zs w hH hblk hsz
def Try.laysNm220_ren : Go.Shelf.Ren := ⟨fun | 20 => 45 | n => n, fun | 22 => 22 | 3 => 3 | 4 => 4 | 0 => 0 | n => n, fun | n => n⟩
theorem Try.laysNm220 : Go.Proofs.Lays2.n20 Try.prog Try.laysNm220_ren := {
  mixed := by kernel_rfl
  f20 := Try.func45.trans (congrArg some (by kernel_rfl))
  t0 := Try.underlying0
  a0 := Try.isAgg0
  z0 := Try.sizeOf0
  v0 := Try.zeroValue0
  t3 := Try.underlying3
  a3 := Try.isAgg3
  z3 := Try.sizeOf3
  v3 := Try.zeroValue3
  t4 := Try.underlying4
  a4 := Try.isAgg4
  z4 := Try.sizeOf4
  v4 := Try.zeroValue4
  t22 := Try.underlying22
  a22 := Try.isAgg22
  z22 := Try.sizeOf22
  v22 := Try.zeroValue22
  i3 := by kernel_rfl }
open Go.RowKit Go.Lib Go.Sort in
/-- slices.Compact at []int: "Compact replaces consecutive runs of equal elements with a single copy. This is like the uniq command found on Unix. Compact modifies the contents of the slice s and returns the modified slice, which may have a smaller length. Compact zeroes the elements between the new length and the original length. The result preserves the nilness of s.": IT RETURNS THE SLICE CUT TO 'Lib.compact zs'; ITS CELLS HOLD 'Lib.compact zs', THEN ZERO VALUES up to the old length; all else is as' it was, but for the count of draws. IN THE WORDS OF slices.Sort's CONTRACT ('Holds', 'putRow'): so the everyday 'slices.Sort(xs); xs = slices.Compact(xs)' goes from the one contract to the other. It asks 'zs.length ≤ cap' (every slice's: the reslicing 's[:k]' looks at it). Length 0, nil: '.._empty'. (LAID: no walk: one application.) -/
theorem Try.slices_Compact_int (blk off cap : Nat) (zs : List Int) (w : World) (hH : Holds (Value.int .i64) w blk off zs.toArray) (hsz : zs.length ≤ 9223372036854775807) (hcap : zs.length ≤ cap) :
    Calls Try.prog 45 #[.slice (some ⟨blk, off, none⟩) zs.length cap] w fun e w' => e = .returned (.slice (some ⟨blk, off, none⟩) (Lib.compact zs).length cap) ∧ ∃ q, w' = putRow (Value.int .i64) (Sort.ahead w q) blk off (Lib.compact zs ++ List.replicate (zs.length - (Lib.compact zs).length) 0).toArray := Any.slices_Compact_int Try.laysNm220 blk off cap zs w hH hsz hcap
open Go.RowKit Go.Lib Go.Sort in
/-- The same at a slice of length 0, a nil one too: it comes back as' it is. (LAID: no walk: one application.) -/
theorem Try.slices_Compact_int_empty (a : Option Addr) (cap : Nat) (w : World) :
    Calls Try.prog 45 #[.slice a 0 cap] w fun e w' => e = .returned (.slice a 0 cap) ∧ w' = w := Any.slices_Compact_int_empty Try.laysNm220 a cap w
open Go.RowKit Go.Sort in
/-- .. and plain. (LAID: no walk: one application.) -/
theorem Try.slices_Sort_int_none (p : Option Addr) (cap : Nat) (w : World) :
    Calls Try.prog 44 #[.slice p 0 cap] w fun e w' => e = .returned (.tuple #[]) ∧ w' = w := Any.slices_Sort_int_none Try.lays189 p cap w
def Try.laysSlF6_f61_ren : Go.Shelf.Ren := ⟨fun | 6 => 61 | 15 => 58 | 14 => 77 | 28 => 73 | 29 => 74 | 20 => 84 | 21 => 85 | 22 => 86 | 23 => 87 | 24 => 88 | 25 => 89 | 26 => 90 | 27 => 91 | 46 => 93 | 47 => 79 | 48 => 80 | 49 => 94 | 50 => 95 | 57 => 96 | n => n, fun | 22 => 27 | 24 => 22 | 25 => 66 | 3 => 3 | 39 => 87 | 0 => 0 | 53 => 103 | 55 => 105 | 4 => 4 | 46 => 97 | 45 => 96 | 50 => 77 | 5 => 5 | 9 => 9 | 66 => 108 | 70 => 112 | 76 => 120 | 77 => 121 | n => n, fun | n => n⟩
theorem Try.laysSlF6_f61 : Go.Proofs.SlLaysF.n6 Try.prog Try.laysSlF6_f61_ren := {
  mixed := by kernel_rfl
  f6 := ⟨Try.f61.name, by decide, Try.func61.trans (congrArg some (by kernel_rfl))⟩
  f14 := ⟨Try.f77.name, by decide, Try.func77.trans (congrArg some (by kernel_rfl))⟩
  f15 := Try.func58.trans (congrArg some (by kernel_rfl))
  f20 := ⟨Try.f84.name, by decide, Try.func84.trans (congrArg some (by kernel_rfl))⟩
  f21 := ⟨Try.f85.name, by decide, Try.func85.trans (congrArg some (by kernel_rfl))⟩
  f22 := ⟨Try.f86.name, by decide, Try.func86.trans (congrArg some (by kernel_rfl))⟩
  f23 := ⟨Try.f87.name, by decide, Try.func87.trans (congrArg some (by kernel_rfl))⟩
  f24 := ⟨Try.f88.name, by decide, Try.func88.trans (congrArg some (by kernel_rfl))⟩
  f25 := ⟨Try.f89.name, by decide, Try.func89.trans (congrArg some (by kernel_rfl))⟩
  f26 := ⟨Try.f90.name, by decide, Try.func90.trans (congrArg some (by kernel_rfl))⟩
  f27 := ⟨Try.f91.name, by decide, Try.func91.trans (congrArg some (by kernel_rfl))⟩
  f28 := Try.func73.trans (congrArg some (by kernel_rfl))
  f29 := Try.func74.trans (congrArg some (by kernel_rfl))
  f46 := ⟨Try.f93.name, by decide, Try.func93.trans (congrArg some (by kernel_rfl))⟩
  f47 := Try.func79.trans (congrArg some (by kernel_rfl))
  f48 := Try.func80.trans (congrArg some (by kernel_rfl))
  f49 := ⟨Try.f94.name, by decide, Try.func94.trans (congrArg some (by kernel_rfl))⟩
  f50 := ⟨Try.f95.name, by decide, Try.func95.trans (congrArg some (by kernel_rfl))⟩
  f57 := ⟨Try.f96.name, by decide, Try.func96.trans (congrArg some (by kernel_rfl))⟩
  t0 := Try.underlying0
  a0 := Try.isAgg0
  z0 := Try.sizeOf0
  v0 := Try.zeroValue0
  t3 := Try.underlying3
  a3 := Try.isAgg3
  z3 := Try.sizeOf3
  v3 := Try.zeroValue3
  t4 := Try.underlying4
  a4 := Try.isAgg4
  z4 := Try.sizeOf4
  v4 := Try.zeroValue4
  t5 := Try.underlying5
  a5 := Try.isAgg5
  z5 := Try.sizeOf5
  v5 := Try.zeroValue5
  t9 := Try.underlying9
  a9 := Try.isAgg9
  z9 := Try.sizeOf9
  v9 := Try.zeroValue9
  t22 := Try.underlying27
  a22 := Try.isAgg27
  z22 := Try.sizeOf27
  v22 := Try.zeroValue27
  a24 := Try.isAgg22
  z24 := Try.sizeOf22
  t25 := Try.underlying66
  a25 := Try.isAgg66
  z25 := Try.sizeOf66
  v25 := Try.zeroValue66
  t39 := Try.underlying87
  a39 := Try.isAgg87
  z39 := Try.sizeOf87
  v39 := Try.zeroValue87
  t45 := Try.underlying96
  a45 := Try.isAgg96
  z45 := Try.sizeOf96
  v45 := Try.zeroValue96
  t46 := Try.underlying97
  a46 := Try.isAgg97
  z46 := Try.sizeOf97
  v46 := Try.zeroValue97
  t50 := Try.underlying77
  a50 := Try.isAgg77
  z50 := Try.sizeOf77
  v50 := Try.zeroValue77
  t53 := Try.underlying103
  a53 := Try.isAgg103
  z53 := Try.sizeOf103
  v53 := Try.zeroValue103
  t55 := Try.underlying105
  a55 := Try.isAgg105
  z55 := Try.sizeOf105
  v55 := Try.zeroValue105
  t66 := Try.underlying108
  a66 := Try.isAgg108
  z66 := Try.sizeOf108
  v66 := Try.zeroValue108
  t70 := Try.underlying112
  a70 := Try.isAgg112
  z70 := Try.sizeOf112
  v70 := Try.zeroValue112
  t76 := Try.underlying120
  a76 := Try.isAgg120
  z76 := Try.sizeOf120
  v76 := Try.zeroValue120
  t77 := Try.underlying121
  a77 := Try.isAgg121
  z77 := Try.sizeOf121
  v77 := Try.zeroValue121 }
open Go.RowKit Go.Lib Go.Sort in
/-- **slices.SortFunc, IN THE DOCUMENTATION's OWN TERMS: A PERMUTATION OF WHAT THE ROW HELD, SORTED BY 'cmp(a, b) < 0'.** Which of two equals comes first is left open ("The sort is not guaranteed to be stable"). (LAID AT THE INSTANCE 'slices.SortFunc[[][]int,[]int]': no walk: one application.) -/
theorem Try.slices_SortFunc {α : Type} [Inhabited α] (enc : α → Value) (h1 : OneCell enc) (cf : α → α → Int) (hO : SWO (ltOf cf)) (g : Nat) (cb : Array Value) (blk off cap : Nat) (d : Array α) (w : World) (eg : ∀ args w, (callFunc g args).run Try.prog w = .ok (.enter g args) w) (hcmp : CmpLays1 Try.prog g cb enc cf blk off d.size w) (hH : Holds enc w blk off d) (hblk : blk < w.heap.size) (hsz : d.size < 4611686018427387904) :
    Calls Try.prog 61 #[.slice (some ⟨blk, off, none⟩) d.size cap, .func (.func g) #[] cb] w fun e w' =>
      e = .returned (.tuple #[]) ∧ ∃ d' n os, PermIn 0 d.size d d' ∧ SortedIn (ltOf cf) 0 d.size d' ∧ w' = sortWorld enc w blk off n d' os := Any.slices_SortFunc Try.laysSlF6_f61 enc h1 cf hO g cb blk off cap d w eg hcmp hH hblk hsz
def Try.laysSlF06_f61_ren : Go.Shelf.Ren := ⟨fun | 6 => 61 | 15 => 58 | 14 => 77 | 28 => 73 | 29 => 74 | 20 => 84 | 21 => 85 | 22 => 86 | 23 => 87 | 24 => 88 | 25 => 89 | 26 => 90 | 27 => 91 | 46 => 93 | 47 => 79 | 48 => 80 | 49 => 94 | 50 => 95 | 57 => 96 | n => n, fun | 22 => 27 | 24 => 22 | 25 => 66 | 3 => 3 | 39 => 87 | 0 => 0 | 53 => 103 | 55 => 105 | 4 => 4 | 46 => 97 | 45 => 96 | 50 => 77 | 5 => 5 | 9 => 9 | 66 => 108 | 70 => 112 | 76 => 120 | 77 => 121 | n => n, fun | n => n⟩
theorem Try.laysSlF06_f61 : Go.Proofs.SlLaysF0.n6 Try.prog Try.laysSlF06_f61_ren := {
  mixed := by kernel_rfl
  f6 := ⟨Try.f61.name, by decide, Try.func61.trans (congrArg some (by kernel_rfl))⟩
  f14 := ⟨Try.f77.name, by decide, Try.func77.trans (congrArg some (by kernel_rfl))⟩
  f15 := Try.func58.trans (congrArg some (by kernel_rfl))
  f20 := ⟨Try.f84.name, by decide, Try.func84.trans (congrArg some (by kernel_rfl))⟩
  f21 := ⟨Try.f85.name, by decide, Try.func85.trans (congrArg some (by kernel_rfl))⟩
  f22 := ⟨Try.f86.name, by decide, Try.func86.trans (congrArg some (by kernel_rfl))⟩
  f23 := ⟨Try.f87.name, by decide, Try.func87.trans (congrArg some (by kernel_rfl))⟩
  f24 := ⟨Try.f88.name, by decide, Try.func88.trans (congrArg some (by kernel_rfl))⟩
  f25 := ⟨Try.f89.name, by decide, Try.func89.trans (congrArg some (by kernel_rfl))⟩
  f26 := ⟨Try.f90.name, by decide, Try.func90.trans (congrArg some (by kernel_rfl))⟩
  f27 := ⟨Try.f91.name, by decide, Try.func91.trans (congrArg some (by kernel_rfl))⟩
  f28 := Try.func73.trans (congrArg some (by kernel_rfl))
  f29 := Try.func74.trans (congrArg some (by kernel_rfl))
  f46 := ⟨Try.f93.name, by decide, Try.func93.trans (congrArg some (by kernel_rfl))⟩
  f47 := Try.func79.trans (congrArg some (by kernel_rfl))
  f48 := Try.func80.trans (congrArg some (by kernel_rfl))
  f49 := ⟨Try.f94.name, by decide, Try.func94.trans (congrArg some (by kernel_rfl))⟩
  f50 := ⟨Try.f95.name, by decide, Try.func95.trans (congrArg some (by kernel_rfl))⟩
  f57 := ⟨Try.f96.name, by decide, Try.func96.trans (congrArg some (by kernel_rfl))⟩
  t0 := Try.underlying0
  a0 := Try.isAgg0
  z0 := Try.sizeOf0
  v0 := Try.zeroValue0
  t3 := Try.underlying3
  a3 := Try.isAgg3
  z3 := Try.sizeOf3
  v3 := Try.zeroValue3
  t4 := Try.underlying4
  a4 := Try.isAgg4
  z4 := Try.sizeOf4
  v4 := Try.zeroValue4
  t5 := Try.underlying5
  a5 := Try.isAgg5
  z5 := Try.sizeOf5
  v5 := Try.zeroValue5
  t9 := Try.underlying9
  a9 := Try.isAgg9
  z9 := Try.sizeOf9
  v9 := Try.zeroValue9
  t22 := Try.underlying27
  a22 := Try.isAgg27
  z22 := Try.sizeOf27
  v22 := Try.zeroValue27
  t25 := Try.underlying66
  a25 := Try.isAgg66
  z25 := Try.sizeOf66
  v25 := Try.zeroValue66
  t39 := Try.underlying87
  a39 := Try.isAgg87
  z39 := Try.sizeOf87
  v39 := Try.zeroValue87
  t45 := Try.underlying96
  a45 := Try.isAgg96
  z45 := Try.sizeOf96
  v45 := Try.zeroValue96
  t46 := Try.underlying97
  a46 := Try.isAgg97
  z46 := Try.sizeOf97
  v46 := Try.zeroValue97
  t50 := Try.underlying77
  a50 := Try.isAgg77
  z50 := Try.sizeOf77
  v50 := Try.zeroValue77
  t53 := Try.underlying103
  a53 := Try.isAgg103
  z53 := Try.sizeOf103
  v53 := Try.zeroValue103
  t55 := Try.underlying105
  a55 := Try.isAgg105
  z55 := Try.sizeOf105
  v55 := Try.zeroValue105
  t66 := Try.underlying108
  a66 := Try.isAgg108
  z66 := Try.sizeOf108
  v66 := Try.zeroValue108
  t70 := Try.underlying112
  a70 := Try.isAgg112
  z70 := Try.sizeOf112
  v70 := Try.zeroValue112
  t76 := Try.underlying120
  a76 := Try.isAgg120
  z76 := Try.sizeOf120
  v76 := Try.zeroValue120
  t77 := Try.underlying121
  a77 := Try.isAgg121
  z77 := Try.sizeOf121
  v77 := Try.zeroValue121 }
open Go.RowKit Go.Lib Go.Sort in
/-- **slices.SortFunc AT NO ELEMENT, A nil SLICE TOO: nothing turns.** (LAID AT THE INSTANCE 'slices.SortFunc[[][]int,[]int]': no walk: one application.) -/
theorem Try.slices_SortFunc_none {α : Type} [Inhabited α] (p : Option Addr) (cap : Nat) (fv : Value) (w : World) :
    Calls Try.prog 61 #[.slice p 0 cap, fv] w fun e w' => e = .returned (.tuple #[]) ∧ w' = w := AnyF.slices_SortFunc_none Try.laysSlF06_f61 p cap fv w
end Go.Proofs
end
section
namespace Ab
open Go Go.Proofs
theorem sort_facts : fnFacts Try.prog 44 := ⟨_, Try.func44, rfl, rfl⟩
theorem compact_facts : fnFacts Try.prog 45 := ⟨_, Try.func45, rfl, rfl⟩
theorem sortL_ok : SortOk Try.prog 44 := fun hσ hl => sort_fn sort_facts (fun blk off cap zs w hH hb hs => Try.slices_Sort_int blk off cap zs w hH hb hs) (fun p cap w => Try.slices_Sort_int_none p cap w) hσ hl
theorem compactL_ok : CompactOk Try.prog 45 := fun hσ => compact_fn compact_facts (fun blk off cap zs w hH hs hc => Try.slices_Compact_int blk off cap zs w hH hs hc) (fun a cap w => Try.slices_Compact_int_empty a cap w) hσ
end Ab
end
section
namespace Ab
open Go Go.Proofs
theorem sortF_facts : fnFacts Try.prog 61 := ⟨_, Try.func61, rfl, rfl⟩
theorem sortF_LLi64_ok : SortFOk Try.prog 61 := fun hgn hO hT hg _ _ _ hσ hl => sortF_fn sortF_facts hgn hO hT hg (fun β _ enc h1 cf hO g cb blk off cap d w eg hcmp hH hblk hsz => Try.slices_SortFunc enc h1 cf hO g cb blk off cap d w eg hcmp hH hblk hsz) (fun p cap fv w => Try.slices_SortFunc_none (α := Unit) p cap fv w) hσ hl
end Ab
end
section
namespace Ab
open Go Go.Proofs
set_option maxHeartbeats 4000000
set_option linter.all false
attribute [local irreducible] AWP AOps thn inB Done PureOk FreshOk Sub
theorem strips_IsSet_ok {l : List Int} {nv : Int} {r : Bool} (h : strips_IsSet l nv = some r) : PureOk Try.prog 29 [.c (row 1 intI l), .c (int nv)] (.c (bool r)) := by
 unfold PureOk
 refine FnOk.enter (rs := [.t 4]) Try.func29 rfl Try.ntmps29 Try.results29 rfl ⟨trivial, trivial⟩ (by kernel_rfl) rfl ?_
 unfold strips_IsSet at h
 refine AWP.seq (.region (.assign rfl rfl (.nil (thn_normal (.seq (.seq (.region (.move rfl rfl (S.len rfl rfl (fun hl8 => .move rfl rfl (.nil (thn_normal (.block ?_)))))))))))))
 obtain ⟨oo, ho1, h⟩ := bind_some h
 refine AWP.rngS ho1 (fun t3 _ => ⟨[(0, .c (row 1 intI l)), (1, .c (int nv)), (7, .c (row 1 intI l)), (8, .c (int (l.length : Int))), (9, .c (int t3))], []⟩) (fun o e st => match o with | .inl _ => e = .exit 0 ∧ Sub [] st ⟨[], []⟩ | .inr x => e = .ret ∧ Done [.t 4] (fun t _ => t = .c (bool x)) .ret st) ?_ ?_ ?_ ?_
 ·try dsimp only
  exact Sub.env ⟨rfl, rfl, rfl, rfl, rfl, trivial⟩
 ·intro t3 s hlot3 hltt3 _
  try dsimp only
  refine AWP.seq (.region (.lss rfl rfl rfl (.nil (thn_normal (.seq (.condNP rfl hltt3 (.exit (thn_exit (thn_exit ⟨rfl, ?_⟩)))))))))
  exact Sub.env trivial
 ·intro t3 s o hlot3 hltt3 h
  unfold strips_IsSet_l1 at h
  try dsimp only at h ⊢
  refine AWP.seq (.region (.lss rfl rfl rfl (.nil (thn_normal (.seq (.condP rfl hltt3 (.skip (thn_normal (.seq (.block (.seq ?_)))))))))))
  obtain ⟨a12, ha12, h⟩ := bind_some h
  refine AWP.region (.move rfl rfl (S.idx ha12 rfl rfl rfl rfl (.loadI rfl rfl rfl rfl (.assign rfl rfl (.assign rfl rfl (.nil (thn_normal ?_)))))))
  obtain ⟨t4, hx5, h⟩ := bind_some h
  refine AWP.seqJ (⟨[(0, .c (row 1 intI l)), (1, .c (int nv)), (7, .c (row 1 intI l)), (8, .c (int (l.length : Int))), (9, .c (int t3)), (33, .c (bool t4))], []⟩) ?_ ?_
  ·rcases Bool.eq_false_or_eq_true (decide (a12 < 0)) with hb6 | hb6
   ·replace hx5 := iteDT hb6 hx5
    refine AWP.region (.move rfl rfl (.lss rfl rfl rfl (.move rfl rfl (.guardF rfl rfl rfl hb6 (.guardF rfl rfl rfl hb6 (.guardF rfl rfl rfl hb6 (.pickT rfl hb6 rfl rfl (.move rfl rfl (.guardF rfl rfl rfl rfl (.guardF rfl rfl rfl rfl (.guardF rfl rfl rfl rfl (.guardSkip rfl rfl rfl (.guardSkip rfl rfl rfl (.guardSkip rfl rfl rfl (.guardSkip rfl rfl rfl (.guardSkip rfl rfl rfl (.guardSkip rfl rfl rfl (.guardSkip rfl rfl rfl (.guardF rfl rfl rfl rfl (.pickT rfl rfl rfl rfl (.nil ?_)))))))))))))))))))))
    have ej := Option.some.inj hx5
    subst ej
    refine thn_normal (Sub.env ⟨rfl, rfl, rfl, rfl, rfl, rfl, trivial⟩)
   ·replace hx5 := iteDF hb6 hx5
    rcases Bool.eq_false_or_eq_true (decide (nv ≤ a12)) with hb7 | hb7
    ·replace hx5 := iteDT hb7 hx5
     refine AWP.region (.move rfl rfl (.lss rfl rfl rfl (.move rfl rfl (.guardT rfl rfl rfl hb6 (.move rfl rfl (.guardT rfl rfl rfl hb6 (.move rfl rfl (.guardT rfl rfl rfl hb6 (.geq rfl rfl rfl (.pickF rfl hb6 rfl rfl (.move rfl rfl (.guardF rfl rfl rfl hb7 (.guardF rfl rfl rfl hb7 (.guardF rfl rfl rfl hb7 (.guardSkip rfl rfl rfl (.guardSkip rfl rfl rfl (.guardSkip rfl rfl rfl (.guardSkip rfl rfl rfl (.guardSkip rfl rfl rfl (.guardSkip rfl rfl rfl (.guardSkip rfl rfl rfl (.guardF rfl rfl rfl hb7 (.pickT rfl hb7 rfl rfl (.nil ?_))))))))))))))))))))))))
     have ej := Option.some.inj hx5
     subst ej
     refine thn_normal (Sub.env ⟨rfl, rfl, rfl, rfl, rfl, rfl, trivial⟩)
    ·replace hx5 := iteDF hb7 hx5
     rcases Bool.eq_false_or_eq_true (decide (0 < t3)) with hb8 | hb8
     ·replace hx5 := iteDT hb8 hx5
      obtain ⟨a29, ha29, hx5⟩ := bind_some hx5
      refine AWP.region (.move rfl rfl (.lss rfl rfl rfl (.move rfl rfl (.guardT rfl rfl rfl hb6 (.move rfl rfl (.guardT rfl rfl rfl hb6 (.move rfl rfl (.guardT rfl rfl rfl hb6 (.geq rfl rfl rfl (.pickF rfl hb6 rfl rfl (.move rfl rfl (.guardT rfl rfl rfl hb7 (.move rfl rfl (.guardT rfl rfl rfl hb7 (.gtr rfl rfl rfl (.guardT rfl rfl rfl hb7 (.move rfl rfl (.guardT rfl rfl rfl hb8 (.move rfl rfl (.guardT rfl rfl rfl hb8 (.move rfl rfl (.guardT rfl rfl rfl hb8 (.move rfl rfl (.guardT rfl rfl rfl hb8 (.sub' rfl rfl rfl (by omega) (.guardT rfl rfl rfl hb8 (S.idx ha29 rfl rfl rfl rfl (.guardT rfl rfl rfl hb8 (.loadI rfl rfl rfl rfl (.guardT rfl rfl rfl hb8 (.leq rfl rfl rfl (.guardT rfl rfl rfl hb7 (.pickT rfl hb8 rfl rfl (.pickF rfl hb7 rfl rfl (.nil ?_)))))))))))))))))))))))))))))))))))
      have ej := Option.some.inj hx5
      subst ej
      refine thn_normal (Sub.env ⟨rfl, rfl, rfl, rfl, rfl, rfl, trivial⟩)
     ·replace hx5 := iteDF hb8 hx5
      refine AWP.region (.move rfl rfl (.lss rfl rfl rfl (.move rfl rfl (.guardT rfl rfl rfl hb6 (.move rfl rfl (.guardT rfl rfl rfl hb6 (.move rfl rfl (.guardT rfl rfl rfl hb6 (.geq rfl rfl rfl (.pickF rfl hb6 rfl rfl (.move rfl rfl (.guardT rfl rfl rfl hb7 (.move rfl rfl (.guardT rfl rfl rfl hb7 (.gtr rfl rfl rfl (.guardT rfl rfl rfl hb7 (.move rfl rfl (.guardF rfl rfl rfl hb8 (.guardF rfl rfl rfl hb8 (.guardF rfl rfl rfl hb8 (.guardF rfl rfl rfl hb8 (.guardF rfl rfl rfl hb8 (.guardF rfl rfl rfl hb8 (.guardF rfl rfl rfl hb8 (.guardT rfl rfl rfl hb7 (.pickF rfl hb8 rfl rfl (.pickF rfl hb7 rfl rfl (.nil ?_))))))))))))))))))))))))))))
      have ej := Option.some.inj hx5
      subst ej
      refine thn_normal (Sub.env ⟨rfl, rfl, rfl, rfl, rfl, rfl, trivial⟩)
  ·refine AWP.iteB rfl h (fun hc9 h => ?_) (fun hc9 h => ?_)
   ·refine AWP.seq (.region (.assign rfl rfl (.nil (thn_normal (.ret (inB_ret (thn_ret ?_)))))))
    have ej := Option.some.inj h
    subst ej
    refine thn_ret ⟨_, rfl, rfl, ?_⟩
    exact Done.ret rfl rfl
   ·refine AWP.skip (inB_normal (thn_normal (.region (.add rfl rfl rfl (by omega) (.move rfl rfl (.nil ?_))))))
    have ej := Option.some.inj h
    subst ej
    refine thn_normal ⟨_, rfl, ?_⟩
    exact Sub.env ⟨rfl, rfl, rfl, rfl, rfl, trivial⟩
 ·intro e s hq
  rcases oo with u | x
  ·try dsimp only at h hq
   obtain ⟨rfl, hs⟩ := hq
   refine ⟨_, hs, ?_⟩
   refine inB_exit (thn_normal (.seq (.region (.assign rfl rfl (.nil (thn_normal (.ret ?_)))))))
   have ej := Option.some.inj h
   subst ej
   exact Done.ret rfl rfl
  ·try dsimp only at h hq
   obtain ⟨rfl, hs⟩ := hq
   refine ⟨_, Sub.refl _ _, ?_⟩
   refine inB_ret (thn_ret ?_)
   have ej := Option.some.inj h
   subst ej
   exact hs
theorem cmp_isNaN_int_ok {xv : Int} {r : Bool} (h : cmp_isNaN_int xv = some r) : PureOk Try.prog 60 [.c (int xv)] (.c (bool r)) := by
 unfold PureOk
 refine FnOk.enter (rs := [.t 2]) Try.func60 rfl Try.ntmps60 Try.results60 rfl ⟨trivial, trivial⟩ (by kernel_rfl) rfl ?_
 unfold cmp_isNaN_int at h
 refine AWP.seq (.region (.assign rfl rfl (.nil (thn_normal (.seq (.region (.move rfl rfl (.move rfl rfl (.neq rfl rfl rfl (.assign rfl rfl (.nil (thn_normal (.ret ?_)))))))))))))
 have ej := Option.some.inj h
 subst ej
 exact Done.ret rfl rfl
theorem cmp_Less_int_ok {xv : Int} {yv : Int} {r : Bool} (h : cmp_Less_int xv yv = some r) : PureOk Try.prog 55 [.c (int xv), .c (int yv)] (.c (bool r)) := by
 unfold PureOk
 refine FnOk.enter (rs := [.t 4]) Try.func55 rfl Try.ntmps55 Try.results55 rfl ⟨trivial, trivial⟩ (by kernel_rfl) rfl ?_
 unfold cmp_Less_int at h
 refine AWP.seq (.region (.assign rfl rfl (.nil (thn_normal ?_))))
 obtain ⟨t3, hx4, h⟩ := bind_some h
 refine AWP.seqJ (⟨[(4, .c (bool t3))], []⟩) ?_ ?_
 ·obtain ⟨a6, ha6, hx4⟩ := bind_some hx4
  rcases Bool.eq_false_or_eq_true (a6) with hb5 | hb5
  ·replace hx4 := iteBT hb5 hx4
   obtain ⟨a9, ha9, hx4⟩ := bind_some hx4
   rcases Bool.eq_false_or_eq_true (!a9) with hb6 | hb6
   ·replace hx4 := iteBT hb6 hx4
    refine AWP.region (.move rfl rfl (.callR rfl rfl rfl rfl (cmp_isNaN_int_ok ha6) rfl (.move rfl rfl (.guardT rfl rfl rfl hb5 (.move rfl rfl (.guardT rfl rfl rfl hb5 (.callR rfl rfl rfl rfl (cmp_isNaN_int_ok ha9) rfl (.guardT rfl rfl rfl hb5 (.not rfl rfl (.pickT rfl hb5 rfl rfl (.move rfl rfl (.guardF rfl rfl rfl hb6 (.guardF rfl rfl rfl hb6 (.guardF rfl rfl rfl hb6 (.pickT rfl hb6 rfl rfl (.assign rfl rfl (.nil ?_)))))))))))))))))
    have ej := Option.some.inj hx4
    subst ej
    refine thn_normal (Sub.env ⟨rfl, trivial⟩)
   ·replace hx4 := iteBF hb6 hx4
    refine AWP.region (.move rfl rfl (.callR rfl rfl rfl rfl (cmp_isNaN_int_ok ha6) rfl (.move rfl rfl (.guardT rfl rfl rfl hb5 (.move rfl rfl (.guardT rfl rfl rfl hb5 (.callR rfl rfl rfl rfl (cmp_isNaN_int_ok ha9) rfl (.guardT rfl rfl rfl hb5 (.not rfl rfl (.pickT rfl hb5 rfl rfl (.move rfl rfl (.guardT rfl rfl rfl hb6 (.move rfl rfl (.guardT rfl rfl rfl hb6 (.move rfl rfl (.guardT rfl rfl rfl hb6 (.lss rfl rfl rfl (.pickF rfl hb6 rfl rfl (.assign rfl rfl (.nil ?_))))))))))))))))))))
    have ej := Option.some.inj hx4
    subst ej
    refine thn_normal (Sub.env ⟨rfl, trivial⟩)
  ·replace hx4 := iteBF hb5 hx4
   refine AWP.region (.move rfl rfl (.callR rfl rfl rfl rfl (cmp_isNaN_int_ok ha6) rfl (.move rfl rfl (.guardF rfl rfl rfl hb5 (.guardF rfl rfl rfl hb5 (.guardF rfl rfl rfl hb5 (.pickF rfl hb5 rfl rfl (.move rfl rfl (.guardT rfl rfl rfl rfl (.move rfl rfl (.guardT rfl rfl rfl rfl (.move rfl rfl (.guardT rfl rfl rfl rfl (.lss rfl rfl rfl (.pickF rfl rfl rfl rfl (.assign rfl rfl (.nil ?_)))))))))))))))))
   have ej := Option.some.inj hx4
   subst ej
   refine thn_normal (Sub.env ⟨rfl, trivial⟩)
 ·refine AWP.ret ?_
  have ej := Option.some.inj h
  subst ej
  exact Done.ret rfl rfl
theorem slices_isNaN_int_ok {xv : Int} {r : Bool} (h : slices_isNaN_int xv = some r) : PureOk Try.prog 56 [.c (int xv)] (.c (bool r)) := by
 unfold PureOk
 refine FnOk.enter (rs := [.t 2]) Try.func56 rfl Try.ntmps56 Try.results56 rfl ⟨trivial, trivial⟩ (by kernel_rfl) rfl ?_
 unfold slices_isNaN_int at h
 refine AWP.seq (.region (.assign rfl rfl (.nil (thn_normal (.seq (.region (.move rfl rfl (.move rfl rfl (.neq rfl rfl rfl (.assign rfl rfl (.nil (thn_normal (.ret ?_)))))))))))))
 have ej := Option.some.inj h
 subst ej
 exact Done.ret rfl rfl
theorem slices_BinarySearch_int_int_ok {xv : List Int} {target : Int} {r : Int × Bool} (h : slices_BinarySearch_int_int xv target = some r) : PureOk Try.prog 43 [.c (row 1 intI xv), .c (int target)] (.tup [.c (int r.1), .c (bool r.2)]) := by
 unfold PureOk
 refine FnOk.enter (rs := [.t 4, .t 5]) Try.func43 rfl Try.ntmps43 Try.results43 rfl ⟨trivial, trivial, trivial⟩ (by kernel_rfl) rfl ?_
 unfold slices_BinarySearch_int_int at h
 refine AWP.seq (.region (.assign rfl rfl (.assign rfl rfl (.nil (thn_normal (.seq (.region (.move rfl rfl (S.len rfl rfl (fun hl11 => .assign rfl rfl (.nil (thn_normal (.seq (.region (.move rfl rfl (.assign rfl rfl (.assign rfl rfl (.nil (thn_normal (.seq (.block ?_)))))))))))))))))))))
 obtain ⟨iv5, ho1, h⟩ := bind_some h
 refine AWP.loopS ho1 (fun (iv3, j4) => ⟨[(0, .c (row 1 intI xv)), (1, .c (int target)), (6, .c (int (xv.length : Int))), (7, .c (int iv3)), (8, .c (int j4))], []⟩) (fun iv5 e st => e = .exit 0 ∧ Sub [] st ⟨[(0, .c (row 1 intI xv)), (1, .c (int target)), (6, .c (int (xv.length : Int))), (7, .c (int iv5))], []⟩) ?_ ?_ ?_
 ·try dsimp only
  exact Sub.env ⟨rfl, rfl, rfl, rfl, rfl, trivial⟩
 ·intro s o h
  obtain ⟨iv3, j4⟩ := s
  unfold slices_BinarySearch_int_int_l1 at h
  try dsimp only at h ⊢
  refine AWP.seq (.seq (.region (.move rfl rfl (.move rfl rfl (.lss rfl rfl rfl (.nil (thn_normal (.ite rfl h (fun hc6 h => ?_) (fun hc6 h => ?_)))))))))
  ·refine AWP.skip (thn_normal (.block (.seq (.region (.move rfl rfl (.move rfl rfl (S.add rfl rfl rfl (.convInt rfl rfl (.shr rfl rfl rfl (by decide) rfl (.convInt rfl rfl (.assign rfl rfl (.nil (thn_normal (.seq ?_))))))))))))))
   obtain ⟨a24, ha24, h⟩ := bind_some h
   obtain ⟨a27, ha27, h⟩ := bind_some h
   refine AWP.region (.move rfl rfl (.move rfl rfl (S.idx ha24 rfl rfl rfl rfl (.loadI rfl rfl rfl rfl (.move rfl rfl (.callR rfl rfl rfl rfl (cmp_Less_int_ok ha27) rfl (.nil (thn_normal (.iteB rfl h (fun hc7 h => ?_) (fun hc7 h => ?_))))))))))
   ·refine AWP.region (.move rfl rfl (S.add rfl rfl rfl (.assign rfl rfl (.nil (inB_normal ?_)))))
    have ej := Option.some.inj h
    subst ej
    refine thn_normal ⟨_, rfl, ?_⟩
    exact Sub.env ⟨rfl, rfl, rfl, rfl, rfl, trivial⟩
   ·refine AWP.region (.move rfl rfl (.assign rfl rfl (.nil (inB_normal ?_))))
    have ej := Option.some.inj h
    subst ej
    refine thn_normal ⟨_, rfl, ?_⟩
    exact Sub.env ⟨rfl, rfl, rfl, rfl, rfl, trivial⟩
  ·refine AWP.exit (thn_exit ?_)
   have ej := Option.some.inj h
   subst ej
   refine thn_exit ⟨_, rfl, rfl, ?_⟩
   exact Sub.env ⟨rfl, rfl, rfl, rfl, trivial⟩
 ·intro e s hq
  obtain ⟨rfl, hs⟩ := hq
  refine ⟨_, hs, ?_⟩
  refine inB_exit (thn_normal ?_)
  obtain ⟨t8, hx9, h⟩ := bind_some h
  refine AWP.seqJ (⟨[(4, .c (int iv5)), (5, .c (bool t8))], []⟩) ?_ ?_
  ·rcases Bool.eq_false_or_eq_true (decide (iv5 < (xv.length : Int))) with hb10 | hb10
   ·replace hx9 := iteDT hb10 hx9
    obtain ⟨a38, ha38, hx9⟩ := bind_some hx9
    rcases Bool.eq_false_or_eq_true (decide (a38 = target)) with hb11 | hb11
    ·replace hx9 := iteDT hb11 hx9
     refine AWP.region (.move rfl rfl (.move rfl rfl (.move rfl rfl (.lss rfl rfl rfl (.move rfl rfl (.guardT rfl rfl rfl hb10 (.move rfl rfl (.guardT rfl rfl rfl hb10 (.move rfl rfl (.guardT rfl rfl rfl hb10 (S.idx ha38 rfl rfl rfl rfl (.guardT rfl rfl rfl hb10 (.loadI rfl rfl rfl rfl (.guardT rfl rfl rfl hb10 (.move rfl rfl (.guardT rfl rfl rfl hb10 (.eql rfl rfl rfl (.guardT rfl rfl rfl hb10 (.move rfl rfl (.guardF rfl rfl rfl hb11 (.guardF rfl rfl rfl hb11 (.guardF rfl rfl rfl hb11 (.guardF rfl rfl rfl hb11 (.guardF rfl rfl rfl hb11 (.guardF rfl rfl rfl hb11 (.guardSkip rfl rfl rfl (.guardSkip rfl rfl rfl (.guardF rfl rfl rfl hb11 (.guardT rfl rfl rfl hb10 (.pickT rfl hb11 rfl rfl (.pickT rfl hb10 rfl rfl (.assign rfl rfl (.assign rfl rfl (.nil ?_))))))))))))))))))))))))))))))))))
     have ej := Option.some.inj hx9
     subst ej
     refine thn_normal (Sub.env ⟨rfl, rfl, trivial⟩)
    ·replace hx9 := iteDF hb11 hx9
     obtain ⟨a45, ha45, hx9⟩ := bind_some hx9
     obtain ⟨a47, ha47, hx9⟩ := bind_some hx9
     rcases Bool.eq_false_or_eq_true (a47) with hb12 | hb12
     ·replace hx9 := iteBT hb12 hx9
      obtain ⟨a50, ha50, hx9⟩ := bind_some hx9
      refine AWP.region (.move rfl rfl (.move rfl rfl (.move rfl rfl (.lss rfl rfl rfl (.move rfl rfl (.guardT rfl rfl rfl hb10 (.move rfl rfl (.guardT rfl rfl rfl hb10 (.move rfl rfl (.guardT rfl rfl rfl hb10 (S.idx ha38 rfl rfl rfl rfl (.guardT rfl rfl rfl hb10 (.loadI rfl rfl rfl rfl (.guardT rfl rfl rfl hb10 (.move rfl rfl (.guardT rfl rfl rfl hb10 (.eql rfl rfl rfl (.guardT rfl rfl rfl hb10 (.move rfl rfl (.guardT rfl rfl rfl hb11 (.move rfl rfl (.guardT rfl rfl rfl hb11 (.move rfl rfl (.guardT rfl rfl rfl hb11 (S.idx ha45 rfl rfl rfl rfl (.guardT rfl rfl rfl hb11 (.loadI rfl rfl rfl rfl (.guardT rfl rfl rfl hb11 (.callR rfl rfl rfl rfl (slices_isNaN_int_ok ha47) rfl (.guardT rfl rfl rfl hb11 (.move rfl rfl (.guardT rfl rfl rfl hb12 (.move rfl rfl (.guardT rfl rfl rfl hb12 (.callR rfl rfl rfl rfl (slices_isNaN_int_ok ha50) rfl (.guardT rfl rfl rfl hb11 (.pickT rfl hb12 rfl rfl (.guardT rfl rfl rfl hb10 (.pickF rfl hb11 rfl rfl (.pickT rfl hb10 rfl rfl (.assign rfl rfl (.assign rfl rfl (.nil ?_)))))))))))))))))))))))))))))))))))))))))))
      have ej := Option.some.inj hx9
      subst ej
      refine thn_normal (Sub.env ⟨rfl, rfl, trivial⟩)
     ·replace hx9 := iteBF hb12 hx9
      refine AWP.region (.move rfl rfl (.move rfl rfl (.move rfl rfl (.lss rfl rfl rfl (.move rfl rfl (.guardT rfl rfl rfl hb10 (.move rfl rfl (.guardT rfl rfl rfl hb10 (.move rfl rfl (.guardT rfl rfl rfl hb10 (S.idx ha38 rfl rfl rfl rfl (.guardT rfl rfl rfl hb10 (.loadI rfl rfl rfl rfl (.guardT rfl rfl rfl hb10 (.move rfl rfl (.guardT rfl rfl rfl hb10 (.eql rfl rfl rfl (.guardT rfl rfl rfl hb10 (.move rfl rfl (.guardT rfl rfl rfl hb11 (.move rfl rfl (.guardT rfl rfl rfl hb11 (.move rfl rfl (.guardT rfl rfl rfl hb11 (S.idx ha45 rfl rfl rfl rfl (.guardT rfl rfl rfl hb11 (.loadI rfl rfl rfl rfl (.guardT rfl rfl rfl hb11 (.callR rfl rfl rfl rfl (slices_isNaN_int_ok ha47) rfl (.guardT rfl rfl rfl hb11 (.move rfl rfl (.guardF rfl rfl rfl hb12 (.guardF rfl rfl rfl hb12 (.guardT rfl rfl rfl hb11 (.pickF rfl hb12 rfl rfl (.guardT rfl rfl rfl hb10 (.pickF rfl hb11 rfl rfl (.pickT rfl hb10 rfl rfl (.assign rfl rfl (.assign rfl rfl (.nil ?_)))))))))))))))))))))))))))))))))))))))))
      have ej := Option.some.inj hx9
      subst ej
      refine thn_normal (Sub.env ⟨rfl, rfl, trivial⟩)
   ·replace hx9 := iteDF hb10 hx9
    refine AWP.region (.move rfl rfl (.move rfl rfl (.move rfl rfl (.lss rfl rfl rfl (.move rfl rfl (.guardF rfl rfl rfl hb10 (.guardF rfl rfl rfl hb10 (.guardF rfl rfl rfl hb10 (.guardF rfl rfl rfl hb10 (.guardF rfl rfl rfl hb10 (.guardF rfl rfl rfl hb10 (.guardF rfl rfl rfl hb10 (.guardSkip rfl rfl rfl (.guardSkip rfl rfl rfl (.guardSkip rfl rfl rfl (.guardSkip rfl rfl rfl (.guardSkip rfl rfl rfl (.guardSkip rfl rfl rfl (.guardSkip rfl rfl rfl (.guardSkip rfl rfl rfl (.guardSkip rfl rfl rfl (.guardF rfl rfl rfl hb10 (.pickF rfl hb10 rfl rfl (.assign rfl rfl (.assign rfl rfl (.nil ?_))))))))))))))))))))))))))
    have ej := Option.some.inj hx9
    subst ej
    refine thn_normal (Sub.env ⟨rfl, rfl, trivial⟩)
  ·refine AWP.ret ?_
   have ej := Option.some.inj h
   subst ej
   exact Done.ret rfl rfl
theorem strips_Meets_1_ok {xv : Int} {c2 : List Int} {r : Bool} (h : strips_Meets_1 xv c2 = some r) : PureOk Try.prog 76 [.c (int xv), .c (.imm (.ipt [.sl 1 (List.map intI c2)]))] (.c (bool r)) := by
 unfold PureOk
 refine FnOk.enter (rs := [.t 3]) Try.func76 rfl Try.ntmps76 Try.results76 rfl ⟨trivial, trivial⟩ (by kernel_rfl) rfl ?_
 unfold strips_Meets_1 at h
 refine AWP.seq (.region (.assign rfl rfl (.nil (thn_normal (.seq ?_)))))
 obtain ⟨a9, ha9, h⟩ := bind_some h
 refine AWP.region (.loadI rfl rfl rfl rfl (.move rfl rfl (.callR rfl rfl rfl rfl (slices_BinarySearch_int_int_ok ha9) rfl (.move rfl rfl (.extract rfl rfl rfl (.extract rfl rfl rfl (.assign rfl rfl (.assign rfl rfl (.nil (thn_normal (.seq (.region (.move rfl rfl (.assign rfl rfl (.nil (thn_normal (.ret ?_)))))))))))))))))
 have ej := Option.some.inj h
 subst ej
 exact Done.ret rfl rfl
theorem slices_IndexFunc_int_int_ok {sv : List Int} {fv : Int → Option Bool} {r : Int} {fvfv : FuncId} {cvfv : List C} (hcvfv : C.okL 0 cvfv = true) (hfv : ∀ {y1 : Int} {z : Bool}, fv y1 = some z → PureOk Try.prog fvfv ([.c (int y1)] ++ cvfv.map T.c) (.c (bool z))) (h : slices_IndexFunc_int_int sv fv = some r) : PureOk Try.prog 83 [.c (row 1 intI sv), .c (.fn fvfv cvfv)] (.c (int r)) := by
 unfold PureOk
 refine FnOk.enter (rs := [.t 4]) Try.func83 rfl Try.ntmps83 Try.results83 rfl ⟨trivial, trivial⟩ (by kernel_rfl) rfl ?_
 unfold slices_IndexFunc_int_int at h
 refine AWP.seq (.region (.assign rfl rfl (.nil (thn_normal (.seq (.seq (.region (.move rfl rfl (S.len rfl rfl (fun hl7 => .move rfl rfl (.nil (thn_normal (.block ?_)))))))))))))
 obtain ⟨oo, ho1, h⟩ := bind_some h
 refine AWP.rngS ho1 (fun t3 _ => ⟨[(0, .c (row 1 intI sv)), (1, .c (.fn fvfv cvfv)), (7, .c (int (sv.length : Int))), (8, .c (int t3))], []⟩) (fun o e st => match o with | .inl _ => e = .exit 0 ∧ Sub [] st ⟨[], []⟩ | .inr x => e = .ret ∧ Done [.t 4] (fun t _ => t = .c (int x)) .ret st) ?_ ?_ ?_ ?_
 ·try dsimp only
  exact Sub.env ⟨rfl, rfl, rfl, rfl, trivial⟩
 ·intro t3 s hlot3 hltt3 _
  try dsimp only
  refine AWP.seq (.region (.lss rfl rfl rfl (.nil (thn_normal (.seq (.condNP rfl hltt3 (.exit (thn_exit (thn_exit ⟨rfl, ?_⟩)))))))))
  exact Sub.env trivial
 ·intro t3 s o hlot3 hltt3 h
  unfold slices_IndexFunc_int_int_l1 at h
  try dsimp only at h ⊢
  refine AWP.seq (.region (.lss rfl rfl rfl (.nil (thn_normal (.seq (.condP rfl hltt3 (.skip (thn_normal (.seq (.block (.seq (.region (.move rfl rfl (.assign rfl rfl (.nil (thn_normal (.seq ?_)))))))))))))))))
  obtain ⟨a14, ha14, h⟩ := bind_some h
  obtain ⟨a16, ha16, h⟩ := bind_some h
  refine AWP.region (.move rfl rfl (.move rfl rfl (.move rfl rfl (S.idx ha14 rfl rfl rfl rfl (.loadI rfl rfl rfl rfl (.callR rfl rfl (okL_app rfl hcvfv) rfl (hfv ha16) rfl (.nil (thn_normal (.iteB rfl h (fun hc4 h => ?_) (fun hc4 h => ?_))))))))))
  ·refine AWP.seq (.region (.move rfl rfl (.assign rfl rfl (.nil (thn_normal (.ret (inB_ret (thn_ret ?_))))))))
   have ej := Option.some.inj h
   subst ej
   refine thn_ret ⟨_, rfl, rfl, ?_⟩
   exact Done.ret rfl rfl
  ·refine AWP.skip (inB_normal (thn_normal (.region (.add rfl rfl rfl (by omega) (.move rfl rfl (.nil ?_))))))
   have ej := Option.some.inj h
   subst ej
   refine thn_normal ⟨_, rfl, ?_⟩
   exact Sub.env ⟨rfl, rfl, rfl, rfl, trivial⟩
 ·intro e s hq
  rcases oo with u | x
  ·try dsimp only at h hq
   obtain ⟨rfl, hs⟩ := hq
   refine ⟨_, hs, ?_⟩
   refine inB_exit (thn_normal (.seq (.region (.assign rfl rfl (.nil (thn_normal (.ret ?_)))))))
   have ej := Option.some.inj h
   subst ej
   exact Done.ret rfl rfl
  ·try dsimp only at h hq
   obtain ⟨rfl, hs⟩ := hq
   refine ⟨_, Sub.refl _ _, ?_⟩
   refine inB_ret (thn_ret ?_)
   have ej := Option.some.inj h
   subst ej
   exact hs
theorem slices_ContainsFunc_int_int_ok {sv : List Int} {fv : Int → Option Bool} {r : Bool} {fvfv : FuncId} {cvfv : List C} (hcvfv : C.okL 0 cvfv = true) (hfv : ∀ {y1 : Int} {z : Bool}, fv y1 = some z → PureOk Try.prog fvfv ([.c (int y1)] ++ cvfv.map T.c) (.c (bool z))) (h : slices_ContainsFunc_int_int sv fv = some r) : PureOk Try.prog 75 [.c (row 1 intI sv), .c (.fn fvfv cvfv)] (.c (bool r)) := by
 unfold PureOk
 refine FnOk.enter (rs := [.t 4]) Try.func75 rfl Try.ntmps75 Try.results75 rfl ⟨trivial, trivial⟩ (by kernel_rfl) rfl ?_
 unfold slices_ContainsFunc_int_int at h
 refine AWP.seq (.region (.assign rfl rfl (.nil (thn_normal (.seq ?_)))))
 obtain ⟨a7, ha7, h⟩ := bind_some h
 refine AWP.region (.move rfl rfl (.move rfl rfl (.callR rfl rfl (by simp [T.okL, T.ok, C.ok, C.okL, hcvfv]) rfl (slices_IndexFunc_int_int_ok hcvfv hfv ha7) rfl (.geq rfl rfl rfl (.assign rfl rfl (.nil (thn_normal (.ret ?_))))))))
 have ej := Option.some.inj h
 subst ej
 exact Done.ret rfl rfl
theorem strips_Meets_ok {av : List Int} {bv : List Int} {r : Bool} (h : strips_Meets av bv = some r) : PureOk Try.prog 59 [.c (row 1 intI av), .c (row 1 intI bv)] (.c (bool r)) := by
 unfold PureOk
 refine FnOk.enter (rs := [.t 4]) Try.func59 rfl Try.ntmps59 Try.results59 rfl ⟨trivial, trivial⟩ (by kernel_rfl) rfl ?_
 unfold strips_Meets at h
 refine AWP.seq (.region (W.box rfl rfl rfl rfl rfl rfl (.assign rfl rfl (.nil (thn_normal (.seq ?_))))))
 obtain ⟨a7, ha7, h⟩ := bind_some h
 refine AWP.region (.move rfl rfl (.makeFunc rfl rfl (.callL rfl rfl (.cons (.c .imm) (.cons (.c (.fn (.cons (.ptr (es := [.sl 1 (List.map intI bv)]) rfl rfl (.cons .imm .nil)) .nil))) .nil)) rfl (slices_ContainsFunc_int_int_ok rfl (fun hy => strips_Meets_1_ok hy) ha7) rfl ?_)))
 refine AOps.assign rfl rfl (.nil (thn_normal (.ret ?_)))
 have ej := Option.some.inj h
 subst ej
 exact Done.ret rfl rfl
theorem open_operatorCode_ok {ov : TOpenOperator} {facts : Int} {r : Int} (h : open_operatorCode ov facts = some r) : PureOk Try.prog 48 [.agg [row 1 intI ov.pre, row 3 eTOutcome ov.outcomes, int ov.cost], .c (int facts)] (.c (int r)) := by
 unfold PureOk
 refine FnOk.enter (rs := [.t 4]) Try.func48 rfl Try.ntmps48 Try.results48 rfl ⟨trivial, trivial⟩ (by kernel_rfl) rfl ?_
 unfold open_operatorCode at h
 refine AWP.seq (.region (W.box rfl rfl rfl rfl rfl rfl (.assign rfl rfl (.nil (thn_normal (.seq (.block (.seq ?_))))))))
 obtain ⟨a11, ha11, h⟩ := bind_some h
 refine AWP.region (W.fieldAddr rfl rfl rfl rfl (.load rfl rfl rfl rfl rfl rfl (.move rfl rfl (.callR rfl rfl rfl rfl (strips_IsSet_ok ha11) rfl (.not rfl rfl (.assign rfl rfl (.nil (thn_normal (.iteB rfl h (fun hc3 h => ?_) (fun hc3 h => ?_))))))))))
 ·refine AWP.seq (.region (.assign rfl rfl (.nil (thn_normal (.ret (inB_ret (thn_ret ?_)))))))
  have ej := Option.some.inj h
  subst ej
  exact Done.ret rfl rfl
 ·refine AWP.seqJ (⟨[(1, .c (int facts)), (2, .c (.ptr 0 0 0)), (13, .c (bool ((decide (ov.cost < 0)) || (decide (100 < ov.cost)))))], [.one (.cells 3 [[row 1 intI ov.pre, row 3 eTOutcome ov.outcomes, int ov.cost]])]⟩) ?_ ?_
  ·rcases Bool.eq_false_or_eq_true (decide (ov.cost < 0)) with hb1 | hb1
   ·refine AWP.region (W.fieldAddr rfl rfl rfl rfl (.load rfl rfl rfl rfl rfl rfl (.lss rfl rfl rfl (.move rfl rfl (.guardF rfl rfl rfl hb1 (.guardF rfl rfl rfl hb1 (.guardF rfl rfl rfl hb1 (.pickT rfl hb1 rfl rfl (.assign rfl rfl (.nil (thn_normal ?_)))))))))))
    simp only [and_t hb1, or_t hb1, Bool.false_or, Bool.true_or, Bool.false_and, Bool.true_and]
    exact Sub.env ⟨rfl, rfl, rfl, trivial⟩
   ·refine AWP.region (W.fieldAddr rfl rfl rfl rfl (.load rfl rfl rfl rfl rfl rfl (.lss rfl rfl rfl (.move rfl rfl (.guardT rfl rfl rfl hb1 (W.fieldAddr rfl rfl rfl rfl (.guardT rfl rfl rfl hb1 (.load rfl rfl rfl rfl rfl rfl (.guardT rfl rfl rfl hb1 (.gtr rfl rfl rfl (.pickF rfl hb1 rfl rfl (.assign rfl rfl (.nil (thn_normal ?_))))))))))))))
    simp only [and_f hb1, or_f hb1, Bool.false_or, Bool.true_or, Bool.false_and, Bool.true_and]
    exact Sub.env ⟨rfl, rfl, rfl, trivial⟩
  ·refine AWP.iteB rfl h (fun hc4 h => ?_) (fun hc4 h => ?_)
   ·refine AWP.seq (.region (.assign rfl rfl (.nil (thn_normal (.ret (inB_ret (thn_ret ?_)))))))
    have ej := Option.some.inj h
    subst ej
    exact Done.ret rfl rfl
   ·refine AWP.seqJ (⟨[(1, .c (int facts)), (2, .c (.ptr 0 0 0)), (22, .c (bool ((decide ((ov.outcomes.length : Int) = 0)) || (decide (4 < (ov.outcomes.length : Int))))))], [.one (.cells 3 [[row 1 intI ov.pre, row 3 eTOutcome ov.outcomes, int ov.cost]])]⟩) ?_ ?_
    ·rcases Bool.eq_false_or_eq_true (decide ((ov.outcomes.length : Int) = 0)) with hb1 | hb1
     ·refine AWP.region (W.fieldAddr rfl rfl rfl rfl (.load rfl rfl rfl rfl rfl rfl (S.len rfl rfl (fun hl25 => .eql rfl rfl rfl (.move rfl rfl (.guardF rfl rfl rfl hb1 (.guardF rfl rfl rfl hb1 (.guardF rfl rfl rfl hb1 (.guardF rfl rfl rfl hb1 (.pickT rfl hb1 rfl rfl (.assign rfl rfl (.nil (thn_normal ?_)))))))))))))
      simp only [and_t hb1, or_t hb1, Bool.false_or, Bool.true_or, Bool.false_and, Bool.true_and]
      exact Sub.env ⟨rfl, rfl, rfl, trivial⟩
     ·refine AWP.region (W.fieldAddr rfl rfl rfl rfl (.load rfl rfl rfl rfl rfl rfl (S.len rfl rfl (fun hl25 => .eql rfl rfl rfl (.move rfl rfl (.guardT rfl rfl rfl hb1 (W.fieldAddr rfl rfl rfl rfl (.guardT rfl rfl rfl hb1 (.load rfl rfl rfl rfl rfl rfl ?_)))))))))
      refine AOps.guardT rfl rfl rfl hb1 ?_; refine S.len rfl rfl (fun hl30 => ?_)
      refine AOps.guardT rfl rfl rfl hb1 (.gtr rfl rfl rfl (.pickF rfl hb1 rfl rfl (.assign rfl rfl (.nil (thn_normal ?_)))))
      simp only [and_f hb1, or_f hb1, Bool.false_or, Bool.true_or, Bool.false_and, Bool.true_and]
      exact Sub.env ⟨rfl, rfl, rfl, trivial⟩
    ·refine AWP.iteB rfl h (fun hc5 h => ?_) (fun hc5 h => ?_)
     ·refine AWP.seq (.region (.assign rfl rfl (.nil (thn_normal (.ret (inB_ret (thn_ret ?_)))))))
      have ej := Option.some.inj h
      subst ej
      exact Done.ret rfl rfl
     ·refine AWP.skip (inB_normal (thn_normal (.seq (.seq (.region (W.fieldAddr rfl rfl rfl rfl (.load rfl rfl rfl rfl rfl rfl (S.len rfl rfl (fun hl35 => .move rfl rfl (.nil (thn_normal (.block ?_))))))))))))
      obtain ⟨oo, ho1, h⟩ := bind_some h
      refine AWP.rngS ho1 (fun t6 _ => ⟨[(1, .c (int facts)), (34, .c (row 3 eTOutcome ov.outcomes)), (35, .c (int (ov.outcomes.length : Int))), (36, .c (int t6))], []⟩) (fun o e st => match o with | .inl _ => e = .exit 1 ∧ Sub [] st ⟨[], []⟩ | .inr x => e = .ret ∧ Done [.t 4] (fun t _ => t = .c (int x)) .ret st) ?_ ?_ ?_ ?_
      ·try dsimp only
       exact Sub.cut ⟨rfl, rfl, rfl, rfl, trivial⟩ rfl trivial rfl
      ·intro t6 s hlot6 hltt6 _
       try dsimp only
       refine AWP.seq (.region (.lss rfl rfl rfl (.nil (thn_normal (.seq (.condNP rfl hltt6 (.exit (thn_exit (thn_exit ⟨rfl, ?_⟩)))))))))
       exact Sub.env trivial
      ·intro t6 s o hlot6 hltt6 h
       unfold open_operatorCode_l1 at h
       try dsimp only at h ⊢
       refine AWP.seq (.region (.lss rfl rfl rfl (.nil (thn_normal (.seq (.condP rfl hltt6 (.skip (thn_normal (.seq (.block (.seq ?_)))))))))))
       obtain ⟨a38, ha38, h⟩ := bind_some h
       refine AWP.region (S.idx ha38 rfl rfl rfl rfl (W.loadIAgg rfl rfl rfl rfl rfl (W.alloc rfl rfl rfl rfl (W.storeAgg rfl rfl rfl rfl rfl rfl rfl (.nil (thn_normal (.block ?_)))))))
       obtain ⟨t7, hx8, h⟩ := bind_some h
       refine AWP.seqJ (⟨[(1, .c (int facts)), (6, .c (.ptr 0 0 0)), (34, .c (row 3 eTOutcome ov.outcomes)), (35, .c (int (ov.outcomes.length : Int))), (36, .c (int t6)), (40, .c (bool t7))], [.one (.cells 3 [[row 1 intI a38.add, row 1 intI a38.del, int a38.weight]])]⟩) ?_ ?_
       ·obtain ⟨a44, ha44, hx8⟩ := bind_some hx8
        rcases Bool.eq_false_or_eq_true (!a44) with hb9 | hb9
        ·replace hx8 := iteBT hb9 hx8
         refine AWP.region (W.fieldAddr rfl rfl rfl rfl (.load rfl rfl rfl rfl rfl rfl (.move rfl rfl (.callR rfl rfl rfl rfl (strips_IsSet_ok ha44) rfl (.not rfl rfl (.move rfl rfl (.guardF rfl rfl rfl hb9 (.guardF rfl rfl rfl hb9 (.guardF rfl rfl rfl hb9 (.guardF rfl rfl rfl hb9 (.guardF rfl rfl rfl hb9 (.pickT rfl hb9 rfl rfl (.move rfl rfl (.guardF rfl rfl rfl rfl (.guardF rfl rfl rfl rfl (.guardF rfl rfl rfl rfl (.guardF rfl rfl rfl rfl (.guardF rfl rfl rfl rfl (.pickT rfl rfl rfl rfl (.assign rfl rfl (.nil ?_)))))))))))))))))))))
         have ej := Option.some.inj hx8
         subst ej
         refine thn_normal (Sub.env ⟨rfl, rfl, rfl, rfl, rfl, rfl, trivial⟩)
        ·replace hx8 := iteBF hb9 hx8
         obtain ⟨a50, ha50, hx8⟩ := bind_some hx8
         rcases Bool.eq_false_or_eq_true (!a50) with hb10 | hb10
         ·replace hx8 := iteBT hb10 hx8
          refine AWP.region (W.fieldAddr rfl rfl rfl rfl (.load rfl rfl rfl rfl rfl rfl (.move rfl rfl (.callR rfl rfl rfl rfl (strips_IsSet_ok ha44) rfl (.not rfl rfl (.move rfl rfl (.guardT rfl rfl rfl hb9 (W.fieldAddr rfl rfl rfl rfl (.guardT rfl rfl rfl hb9 (.load rfl rfl rfl rfl rfl rfl (.guardT rfl rfl rfl hb9 (.move rfl rfl (.guardT rfl rfl rfl hb9 (.callR rfl rfl rfl rfl (strips_IsSet_ok ha50) rfl (.guardT rfl rfl rfl hb9 (.not rfl rfl (.pickF rfl hb9 rfl rfl (.move rfl rfl (.guardF rfl rfl rfl hb10 (.guardF rfl rfl rfl hb10 (.guardF rfl rfl rfl hb10 (.guardF rfl rfl rfl hb10 (.guardF rfl rfl rfl hb10 (.pickT rfl hb10 rfl rfl (.assign rfl rfl (.nil ?_))))))))))))))))))))))))))
          have ej := Option.some.inj hx8
          subst ej
          refine thn_normal (Sub.env ⟨rfl, rfl, rfl, rfl, rfl, rfl, trivial⟩)
         ·replace hx8 := iteBF hb10 hx8
          obtain ⟨a58, ha58, hx8⟩ := bind_some hx8
          refine AWP.region (W.fieldAddr rfl rfl rfl rfl (.load rfl rfl rfl rfl rfl rfl (.move rfl rfl (.callR rfl rfl rfl rfl (strips_IsSet_ok ha44) rfl (.not rfl rfl (.move rfl rfl (.guardT rfl rfl rfl hb9 (W.fieldAddr rfl rfl rfl rfl (.guardT rfl rfl rfl hb9 (.load rfl rfl rfl rfl rfl rfl (.guardT rfl rfl rfl hb9 (.move rfl rfl (.guardT rfl rfl rfl hb9 (.callR rfl rfl rfl rfl (strips_IsSet_ok ha50) rfl (.guardT rfl rfl rfl hb9 (.not rfl rfl (.pickF rfl hb9 rfl rfl (.move rfl rfl (.guardT rfl rfl rfl hb10 (W.fieldAddr rfl rfl rfl rfl (.guardT rfl rfl rfl hb10 (.load rfl rfl rfl rfl rfl rfl (.guardT rfl rfl rfl hb10 (W.fieldAddr rfl rfl rfl rfl (.guardT rfl rfl rfl hb10 (.load rfl rfl rfl rfl rfl rfl (.guardT rfl rfl rfl hb10 (.callR rfl rfl rfl rfl (strips_Meets_ok ha58) rfl (.pickF rfl hb10 rfl rfl (.assign rfl rfl (.nil ?_)))))))))))))))))))))))))))))))
          have ej := Option.some.inj hx8
          subst ej
          refine thn_normal (Sub.env ⟨rfl, rfl, rfl, rfl, rfl, rfl, trivial⟩)
       ·refine AWP.iteB rfl h (fun hc11 h => ?_) (fun hc11 h => ?_)
        ·refine AWP.seq (.region (.assign rfl rfl (.nil (thn_normal (.ret (inB_ret (inB_ret (thn_ret ?_))))))))
         have ej := Option.some.inj h
         subst ej
         refine thn_ret ⟨_, rfl, rfl, ?_⟩
         exact Done.ret rfl rfl
        ·refine AWP.seqJ (⟨[(1, .c (int facts)), (34, .c (row 3 eTOutcome ov.outcomes)), (35, .c (int (ov.outcomes.length : Int))), (36, .c (int t6)), (60, .c (bool ((decide (a38.weight < 1)) || (decide (6 < a38.weight)))))], [.one (.cells 3 [[row 1 intI a38.add, row 1 intI a38.del, int a38.weight]])]⟩) ?_ ?_
         ·rcases Bool.eq_false_or_eq_true (decide (a38.weight < 1)) with hb1 | hb1
          ·refine AWP.region (W.fieldAddr rfl rfl rfl rfl (.load rfl rfl rfl rfl rfl rfl (.lss rfl rfl rfl (.move rfl rfl (.guardF rfl rfl rfl hb1 (.guardF rfl rfl rfl hb1 (.guardF rfl rfl rfl hb1 (.pickT rfl hb1 rfl rfl (.assign rfl rfl (.nil (thn_normal ?_)))))))))))
           simp only [and_t hb1, or_t hb1, Bool.false_or, Bool.true_or, Bool.false_and, Bool.true_and]
           exact Sub.env ⟨rfl, rfl, rfl, rfl, rfl, trivial⟩
          ·refine AWP.region (W.fieldAddr rfl rfl rfl rfl (.load rfl rfl rfl rfl rfl rfl (.lss rfl rfl rfl (.move rfl rfl (.guardT rfl rfl rfl hb1 (W.fieldAddr rfl rfl rfl rfl (.guardT rfl rfl rfl hb1 (.load rfl rfl rfl rfl rfl rfl (.guardT rfl rfl rfl hb1 (.gtr rfl rfl rfl (.pickF rfl hb1 rfl rfl (.assign rfl rfl (.nil (thn_normal ?_))))))))))))))
           simp only [and_f hb1, or_f hb1, Bool.false_or, Bool.true_or, Bool.false_and, Bool.true_and]
           exact Sub.env ⟨rfl, rfl, rfl, rfl, rfl, trivial⟩
         ·refine AWP.iteB rfl h (fun hc12 h => ?_) (fun hc12 h => ?_)
          ·refine AWP.seq (.region (.assign rfl rfl (.nil (thn_normal (.ret (inB_ret (inB_ret (thn_ret ?_))))))))
           have ej := Option.some.inj h
           subst ej
           refine thn_ret ⟨_, rfl, rfl, ?_⟩
           exact Done.ret rfl rfl
          ·refine AWP.skip (inB_normal (inB_normal (thn_normal (.region (.add rfl rfl rfl (by omega) (.move rfl rfl (.nil ?_)))))))
           have ej := Option.some.inj h
           subst ej
           refine thn_normal ⟨_, rfl, ?_⟩
           exact Sub.cut ⟨rfl, rfl, rfl, rfl, trivial⟩ rfl trivial rfl
      ·intro e s hq
       rcases oo with u | x
       ·try dsimp only at h hq
        obtain ⟨rfl, hs⟩ := hq
        refine ⟨_, hs, ?_⟩
        refine inB_exit (thn_normal (.seq (.region (.assign rfl rfl (.nil (thn_normal (.ret ?_)))))))
        have ej := Option.some.inj h
        subst ej
        exact Done.ret rfl rfl
       ·try dsimp only at h hq
        obtain ⟨rfl, hs⟩ := hq
        refine ⟨_, Sub.refl _ _, ?_⟩
        refine inB_ret (thn_ret ?_)
        have ej := Option.some.inj h
        subst ej
        exact hs
theorem open_Validate_ok {ov : TOpenTask} {r : TFault} (h : open_Validate ov = some r) : PureOk Try.prog 28 [.agg [int ov.facts, row 1 intI ov.init, row 1 intI ov.goal, row 3 eTOpenOperator ov.operators]] (.agg [int r.code, int r.index]) := by
 unfold PureOk
 refine FnOk.enter (rs := [.cell 2 29 2]) Try.func28 rfl Try.ntmps28 Try.results28 rfl ⟨rv _ rfl, trivial⟩ (by kernel_rfl) rfl ?_
 unfold open_Validate at h
 refine AWP.seq (.region (W.box rfl rfl rfl rfl rfl rfl (W.alloc rfl rfl rfl rfl (.nil (thn_normal (.seq (.block (.seqJ (⟨[(1, .c (.ptr 0 0 0)), (2, .c (.ptr 1 0 0)), (6, .c (bool ((decide (ov.facts < 0)) || (decide (24 < ov.facts)))))], [.one (.cells 4 [[int ov.facts, row 1 intI ov.init, row 1 intI ov.goal, row 3 eTOpenOperator ov.operators]]), .one (.cells 2 [[int 0, int 0]])]⟩) ?_ ?_))))))))
 ·rcases Bool.eq_false_or_eq_true (decide (ov.facts < 0)) with hb1 | hb1
  ·refine AWP.region (W.fieldAddr rfl rfl rfl rfl (.load rfl rfl rfl rfl rfl rfl (.lss rfl rfl rfl (.move rfl rfl (.guardF rfl rfl rfl hb1 (.guardF rfl rfl rfl hb1 (.guardF rfl rfl rfl hb1 (.pickT rfl hb1 rfl rfl (.assign rfl rfl (.nil (thn_normal ?_)))))))))))
   simp only [and_t hb1, or_t hb1, Bool.false_or, Bool.true_or, Bool.false_and, Bool.true_and]
   exact Sub.env ⟨rfl, rfl, rfl, trivial⟩
  ·refine AWP.region (W.fieldAddr rfl rfl rfl rfl (.load rfl rfl rfl rfl rfl rfl (.lss rfl rfl rfl (.move rfl rfl (.guardT rfl rfl rfl hb1 (W.fieldAddr rfl rfl rfl rfl (.guardT rfl rfl rfl hb1 (.load rfl rfl rfl rfl rfl rfl (.guardT rfl rfl rfl hb1 (.gtr rfl rfl rfl (.pickF rfl hb1 rfl rfl (.assign rfl rfl (.nil (thn_normal ?_))))))))))))))
   simp only [and_f hb1, or_f hb1, Bool.false_or, Bool.true_or, Bool.false_and, Bool.true_and]
   exact Sub.env ⟨rfl, rfl, rfl, trivial⟩
 ·refine AWP.iteB rfl h (fun hc2 h => ?_) (fun hc2 h => ?_)
  ·refine AWP.seq (.region (W.build rfl rfl rfl rfl (W.storeAgg rfl rfl rfl rfl rfl rfl rfl (.nil (thn_normal (.ret (inB_ret (thn_ret ?_))))))))
   have ej := Option.some.inj h
   subst ej
   exact Done.ret rfl rfl
  ·refine AWP.seq ?_
   obtain ⟨a21, ha21, h⟩ := bind_some h
   refine AWP.region (W.fieldAddr rfl rfl rfl rfl (.load rfl rfl rfl rfl rfl rfl (W.fieldAddr rfl rfl rfl rfl (.load rfl rfl rfl rfl rfl rfl (.callR rfl rfl rfl rfl (strips_IsSet_ok ha21) rfl (.not rfl rfl (.assign rfl rfl (.nil (thn_normal (.iteB rfl h (fun hc3 h => ?_) (fun hc3 h => ?_)))))))))))
   ·refine AWP.seq (.region (W.build rfl rfl rfl rfl (W.storeAgg rfl rfl rfl rfl rfl rfl rfl (.nil (thn_normal (.ret (inB_ret (thn_ret ?_))))))))
    have ej := Option.some.inj h
    subst ej
    exact Done.ret rfl rfl
   ·refine AWP.seq ?_
    obtain ⟨a29, ha29, h⟩ := bind_some h
    refine AWP.region (W.fieldAddr rfl rfl rfl rfl (.load rfl rfl rfl rfl rfl rfl (W.fieldAddr rfl rfl rfl rfl (.load rfl rfl rfl rfl rfl rfl (.callR rfl rfl rfl rfl (strips_IsSet_ok ha29) rfl (.not rfl rfl (.assign rfl rfl (.nil (thn_normal (.iteB rfl h (fun hc4 h => ?_) (fun hc4 h => ?_)))))))))))
    ·refine AWP.seq (.region (W.build rfl rfl rfl rfl (W.storeAgg rfl rfl rfl rfl rfl rfl rfl (.nil (thn_normal (.ret (inB_ret (thn_ret ?_))))))))
     have ej := Option.some.inj h
     subst ej
     exact Done.ret rfl rfl
    ·refine AWP.seq (.region (W.fieldAddr rfl rfl rfl rfl (.load rfl rfl rfl rfl rfl rfl (S.len rfl rfl (fun hl35 => .gtr rfl rfl rfl (.assign rfl rfl (.nil (thn_normal (.ite rfl h (fun hc5 h => ?_) (fun hc5 h => ?_))))))))))
     ·refine AWP.seq (.region (W.build rfl rfl rfl rfl (W.storeAgg rfl rfl rfl rfl rfl rfl rfl (.nil (thn_normal (.ret (inB_ret (thn_ret ?_))))))))
      have ej := Option.some.inj h
      subst ej
      exact Done.ret rfl rfl
     ·refine AWP.skip (inB_normal (thn_normal (.seq (.seq (.region (W.fieldAddr rfl rfl rfl rfl (.load rfl rfl rfl rfl rfl rfl (S.len rfl rfl (fun hl40 => .move rfl rfl (.nil (thn_normal (.block ?_))))))))))))
      obtain ⟨oo, ho1, h⟩ := bind_some h
      refine AWP.rngS ho1 (fun t6 _ => ⟨[(1, .c (.ptr 0 0 0)), (2, .c (.ptr 1 0 0)), (39, .c (row 3 eTOpenOperator ov.operators)), (40, .c (int (ov.operators.length : Int))), (41, .c (int t6))], [.one (.cells 4 [[int ov.facts, row 1 intI ov.init, row 1 intI ov.goal, row 3 eTOpenOperator ov.operators]]), .one (.cells 2 [[int 0, int 0]])]⟩) (fun o e st => match o with | .inl _ => e = .exit 1 ∧ Sub [] st ⟨[(2, .c (.ptr 1 0 0))], [.one (.cells 4 [[int ov.facts, row 1 intI ov.init, row 1 intI ov.goal, row 3 eTOpenOperator ov.operators]]), .one (.cells 2 [[int 0, int 0]])]⟩ | .inr x => e = .ret ∧ Done [.cell 2 29 2] (fun t _ => t = .agg [int x.code, int x.index]) .ret st) ?_ ?_ ?_ ?_
      ·try dsimp only
       exact Sub.env ⟨rfl, rfl, rfl, rfl, rfl, trivial⟩
      ·intro t6 s hlot6 hltt6 _
       try dsimp only
       refine AWP.seq (.region (.lss rfl rfl rfl (.nil (thn_normal (.seq (.condNP rfl hltt6 (.exit (thn_exit (thn_exit ⟨rfl, ?_⟩)))))))))
       exact Sub.env ⟨rfl, trivial⟩
      ·intro t6 s o hlot6 hltt6 h
       unfold open_Validate_l1 at h
       try dsimp only at h ⊢
       refine AWP.seq (.region (.lss rfl rfl rfl (.nil (thn_normal (.seq (.condP rfl hltt6 (.skip (thn_normal (.seq (.block (.seq ?_)))))))))))
       obtain ⟨a44, ha44, h⟩ := bind_some h
       refine AWP.region (.move rfl rfl (S.idx ha44 rfl rfl rfl rfl (W.loadIAgg rfl rfl rfl rfl rfl (W.alloc rfl rfl rfl rfl (.assign rfl rfl (W.storeAgg rfl rfl rfl rfl rfl rfl rfl (.nil (thn_normal (.seq ?_)))))))))
       obtain ⟨a49, ha49, h⟩ := bind_some h
       refine AWP.region (W.loadAgg rfl rfl rfl rfl rfl rfl rfl (W.fieldAddr rfl rfl rfl rfl (.load rfl rfl rfl rfl rfl rfl (.callR rfl rfl rfl rfl (open_operatorCode_ok ha49) rfl (.assign rfl rfl (.nil (thn_normal (.seq (.region (.move rfl rfl (.neq rfl rfl rfl (.nil (thn_normal (.iteN rfl h (fun hc7 h => ?_) (fun hc7 h => ?_)))))))))))))))
       ·refine AWP.seq (.region (.move rfl rfl (.move rfl rfl (W.build rfl rfl rfl rfl (W.storeAgg rfl rfl rfl rfl rfl rfl rfl (.nil (thn_normal (.ret (inB_ret (thn_ret ?_))))))))))
        have ej := Option.some.inj h
        subst ej
        refine thn_ret ⟨_, rfl, rfl, ?_⟩
        exact Done.ret rfl rfl
       ·refine AWP.skip (inB_normal (thn_normal (.region (.add rfl rfl rfl (by omega) (.move rfl rfl (.nil ?_))))))
        have ej := Option.some.inj h
        subst ej
        refine thn_normal ⟨_, rfl, ?_⟩
        exact Sub.cut ⟨rfl, rfl, rfl, rfl, rfl, trivial⟩ rfl ⟨.one rfl, .one rfl, trivial⟩ rfl
      ·intro e s hq
       rcases oo with u | x
       ·try dsimp only at h hq
        obtain ⟨rfl, hs⟩ := hq
        refine ⟨_, hs, ?_⟩
        refine inB_exit (thn_normal (.seq (.region (W.build rfl rfl rfl rfl (W.storeAgg rfl rfl rfl rfl rfl rfl rfl (.nil (thn_normal (.ret ?_))))))))
        have ej := Option.some.inj h
        subst ej
        exact Done.ret rfl rfl
       ·try dsimp only at h hq
        obtain ⟨rfl, hs⟩ := hq
        refine ⟨_, Sub.refl _ _, ?_⟩
        refine inB_ret (thn_ret ?_)
        have ej := Option.some.inj h
        subst ej
        exact hs
theorem cmp_Compare_int_ok {xv : Int} {yv : Int} {r : Int} (h : cmp_Compare_int xv yv = some r) : PureOk Try.prog 49 [.c (int xv), .c (int yv)] (.c (int r)) := by
 unfold PureOk
 refine FnOk.enter (rs := [.t 4]) Try.func49 rfl Try.ntmps49 Try.results49 rfl ⟨trivial, trivial⟩ (by kernel_rfl) rfl ?_
 unfold cmp_Compare_int at h
 refine AWP.seq (.region (.assign rfl rfl (.nil (thn_normal (.seq ?_)))))
 obtain ⟨a8, ha8, h⟩ := bind_some h
 refine AWP.region (.move rfl rfl (.callR rfl rfl rfl rfl (cmp_isNaN_int_ok ha8) rfl (.assign rfl rfl (.nil (thn_normal (.seq ?_))))))
 obtain ⟨a10, ha10, h⟩ := bind_some h
 refine AWP.region (.move rfl rfl (.callR rfl rfl rfl rfl (cmp_isNaN_int_ok ha10) rfl (.assign rfl rfl (.nil (thn_normal (.seq (.seq (.region (.move rfl rfl (.nil (thn_normal (.iteB rfl h (fun hc3 h => ?_) (fun hc3 h => ?_)))))))))))))
 ·refine AWP.seq (.seq (.region (.move rfl rfl (.nil (thn_normal (.iteB rfl h (fun hc4 h => ?_) (fun hc4 h => ?_)))))))
  ·refine AWP.seq (.region (.assign rfl rfl (.nil (thn_normal (.ret (thn_ret (thn_ret ?_)))))))
   have ej := Option.some.inj h
   subst ej
   exact Done.ret rfl rfl
  ·refine AWP.skip (thn_normal (.seq (.region (.assign rfl rfl (.nil (thn_normal (.ret (thn_ret ?_))))))))
   have ej := Option.some.inj h
   subst ej
   exact Done.ret rfl rfl
 ·refine AWP.skip (thn_normal (.seq (.seq (.region (.move rfl rfl (.nil (thn_normal (.iteB rfl h (fun hc5 h => ?_) (fun hc5 h => ?_)))))))))
  ·refine AWP.seq (.region (.assign rfl rfl (.nil (thn_normal (.ret (thn_ret ?_))))))
   have ej := Option.some.inj h
   subst ej
   exact Done.ret rfl rfl
  ·refine AWP.skip (thn_normal (.seq (.seq (.region (.move rfl rfl (.move rfl rfl (.lss rfl rfl rfl (.nil (thn_normal (.ite rfl h (fun hc6 h => ?_) (fun hc6 h => ?_)))))))))))
   ·refine AWP.seq (.region (.assign rfl rfl (.nil (thn_normal (.ret (thn_ret ?_))))))
    have ej := Option.some.inj h
    subst ej
    exact Done.ret rfl rfl
   ·refine AWP.skip (thn_normal (.seq (.seq (.region (.move rfl rfl (.move rfl rfl (.gtr rfl rfl rfl (.nil (thn_normal (.ite rfl h (fun hc7 h => ?_) (fun hc7 h => ?_)))))))))))
    ·refine AWP.seq (.region (.assign rfl rfl (.nil (thn_normal (.ret (thn_ret ?_))))))
     have ej := Option.some.inj h
     subst ej
     exact Done.ret rfl rfl
    ·refine AWP.skip (thn_normal (.seq (.region (.assign rfl rfl (.nil (thn_normal (.ret ?_)))))))
     have ej := Option.some.inj h
     subst ej
     exact Done.ret rfl rfl
theorem slices_Compare_int_int_ok {s11 : List Int} {s22 : List Int} {r : Int} (h : slices_Compare_int_int s11 s22 = some r) : PureOk Try.prog 30 [.c (row 1 intI s11), .c (row 1 intI s22)] (.c (int r)) := by
 unfold PureOk
 refine FnOk.enter (rs := [.t 4]) Try.func30 rfl Try.ntmps30 Try.results30 rfl ⟨trivial, trivial⟩ (by kernel_rfl) rfl ?_
 unfold slices_Compare_int_int at h
 refine AWP.seq (.region (.assign rfl rfl (.nil (thn_normal (.seq (.seq (.region (.move rfl rfl (S.len rfl rfl (fun hl10 => .move rfl rfl (.nil (thn_normal (.block ?_)))))))))))))
 obtain ⟨oo, ho1, h⟩ := bind_some h
 refine AWP.rngS ho1 (fun t3 _ => ⟨[(0, .c (row 1 intI s11)), (1, .c (row 1 intI s22)), (9, .c (row 1 intI s11)), (10, .c (int (s11.length : Int))), (11, .c (int t3))], []⟩) (fun o e st => match o with | .inl _ => e = .exit 0 ∧ Sub [] st ⟨[(0, .c (row 1 intI s11)), (1, .c (row 1 intI s22))], []⟩ | .inr x => e = .ret ∧ Done [.t 4] (fun t _ => t = .c (int x)) .ret st) ?_ ?_ ?_ ?_
 ·try dsimp only
  exact Sub.env ⟨rfl, rfl, rfl, rfl, rfl, trivial⟩
 ·intro t3 s hlot3 hltt3 _
  try dsimp only
  refine AWP.seq (.region (.lss rfl rfl rfl (.nil (thn_normal (.seq (.condNP rfl hltt3 (.exit (thn_exit (thn_exit ⟨rfl, ?_⟩)))))))))
  exact Sub.env ⟨rfl, rfl, trivial⟩
 ·intro t3 s o hlot3 hltt3 h
  unfold slices_Compare_int_int_l1 at h
  try dsimp only at h ⊢
  refine AWP.seq (.region (.lss rfl rfl rfl (.nil (thn_normal (.seq (.condP rfl hltt3 (.skip (thn_normal (.seq (.block (.seq ?_)))))))))))
  obtain ⟨a14, ha14, h⟩ := bind_some h
  refine AWP.region (.move rfl rfl (S.idx ha14 rfl rfl rfl rfl (.loadI rfl rfl rfl rfl (.assign rfl rfl (.assign rfl rfl (.nil (thn_normal (.seq (.seq (.region (.move rfl rfl (.move rfl rfl (S.len rfl rfl (fun hl18 => .geq rfl rfl rfl (.nil (thn_normal (.ite rfl h (fun hc4 h => ?_) (fun hc4 h => ?_))))))))))))))))))
  ·refine AWP.seq (.region (.assign rfl rfl (.nil (thn_normal (.ret (thn_ret (inB_ret (thn_ret ?_))))))))
   have ej := Option.some.inj h
   subst ej
   refine thn_ret ⟨_, rfl, rfl, ?_⟩
   exact Done.ret rfl rfl
  ·refine AWP.skip (thn_normal (.seq ?_))
   obtain ⟨a22, ha22, h⟩ := bind_some h
   refine AWP.region (.move rfl rfl (.move rfl rfl (S.idx ha22 rfl rfl rfl rfl (.loadI rfl rfl rfl rfl (.assign rfl rfl (.nil (thn_normal (.seq ?_))))))))
   obtain ⟨a26, ha26, h⟩ := bind_some h
   refine AWP.region (.move rfl rfl (.move rfl rfl (.callR rfl rfl rfl rfl (cmp_Compare_int_ok ha26) rfl (.assign rfl rfl (.nil (thn_normal (.seq (.region (.move rfl rfl (.neq rfl rfl rfl (.nil (thn_normal (.iteN rfl h (fun hc5 h => ?_) (fun hc5 h => ?_))))))))))))))
   ·refine AWP.seq (.region (.move rfl rfl (.assign rfl rfl (.nil (thn_normal (.ret (inB_ret (thn_ret ?_))))))))
    have ej := Option.some.inj h
    subst ej
    refine thn_ret ⟨_, rfl, rfl, ?_⟩
    exact Done.ret rfl rfl
   ·refine AWP.skip (inB_normal (thn_normal (.region (.add rfl rfl rfl (by omega) (.move rfl rfl (.nil ?_))))))
    have ej := Option.some.inj h
    subst ej
    refine thn_normal ⟨_, rfl, ?_⟩
    exact Sub.env ⟨rfl, rfl, rfl, rfl, rfl, trivial⟩
 ·intro e s hq
  rcases oo with u | x
  ·try dsimp only at h hq
   obtain ⟨rfl, hs⟩ := hq
   refine ⟨_, hs, ?_⟩
   refine inB_exit (thn_normal (.seq (.seq (.region (.move rfl rfl (S.len rfl rfl (fun hl32 => .move rfl rfl (S.len rfl rfl (fun hl34 => .lss rfl rfl rfl (.nil (thn_normal (.ite rfl h (fun hc6 h => ?_) (fun hc6 h => ?_)))))))))))))
   ·refine AWP.seq (.region (.assign rfl rfl (.nil (thn_normal (.ret (thn_ret ?_))))))
    have ej := Option.some.inj h
    subst ej
    exact Done.ret rfl rfl
   ·refine AWP.skip (thn_normal (.seq (.region (.assign rfl rfl (.nil (thn_normal (.ret ?_)))))))
    have ej := Option.some.inj h
    subst ej
    exact Done.ret rfl rfl
  ·try dsimp only at h hq
   obtain ⟨rfl, hs⟩ := hq
   refine ⟨_, Sub.refl _ _, ?_⟩
   refine inB_ret (thn_ret ?_)
   have ej := Option.some.inj h
   subst ej
   exact hs
theorem strips_Contains_ok {sv : List Int} {part : List Int} {r : Bool} (h : strips_Contains sv part = some r) : PureOk Try.prog 21 [.c (row 1 intI sv), .c (row 1 intI part)] (.c (bool r)) := by
 unfold PureOk
 refine FnOk.enter (rs := [.t 4]) Try.func21 rfl Try.ntmps21 Try.results21 rfl ⟨trivial, trivial⟩ (by kernel_rfl) rfl ?_
 unfold strips_Contains at h
 refine AWP.seq (.region (.assign rfl rfl (.nil (thn_normal (.seq (.region (.assign rfl rfl (.nil (thn_normal (.seq (.seq (.region (.move rfl rfl (S.len rfl rfl (fun hl9 => .move rfl rfl (.nil (thn_normal (.block ?_))))))))))))))))))
 obtain ⟨oo, ho1, h⟩ := bind_some h
 refine AWP.rngS ho1 (fun t4 iv3 => ⟨[(0, .c (row 1 intI sv)), (5, .c (int iv3)), (8, .c (row 1 intI part)), (9, .c (int (part.length : Int))), (10, .c (int t4))], []⟩) (fun o e st => match o with | .inl iv3 => e = .exit 0 ∧ Sub [] st ⟨[], []⟩ | .inr x => e = .ret ∧ Done [.t 4] (fun t _ => t = .c (bool x)) .ret st) ?_ ?_ ?_ ?_
 ·try dsimp only
  exact Sub.env ⟨rfl, rfl, rfl, rfl, rfl, trivial⟩
 ·intro t4 iv3 hlot4 hltt4 _
  try dsimp only
  refine AWP.seq (.region (.lss rfl rfl rfl (.nil (thn_normal (.seq (.condNP rfl hltt4 (.exit (thn_exit (thn_exit ⟨rfl, ?_⟩)))))))))
  exact Sub.env trivial
 ·intro t4 iv3 o hlot4 hltt4 h
  unfold strips_Contains_l1 at h
  try dsimp only at h ⊢
  refine AWP.seq (.region (.lss rfl rfl rfl (.nil (thn_normal (.seq (.condP rfl hltt4 (.skip (thn_normal (.seq (.block (.seq ?_)))))))))))
  obtain ⟨a12, ha12, h⟩ := bind_some h
  refine AWP.region (S.idx ha12 rfl rfl rfl rfl (.loadI rfl rfl rfl rfl (.assign rfl rfl (.nil (thn_normal (.seq (.block ?_)))))))
  obtain ⟨iv6, ho2, h⟩ := bind_some h
  refine AWP.loopS ho2 (fun iv5 => ⟨[(0, .c (row 1 intI sv)), (5, .c (int iv5)), (7, .c (int a12)), (8, .c (row 1 intI part)), (9, .c (int (part.length : Int))), (10, .c (int t4))], []⟩) (fun iv6 e st => e = .exit 2 ∧ Sub [] st ⟨[(0, .c (row 1 intI sv)), (5, .c (int iv6)), (7, .c (int a12)), (8, .c (row 1 intI part)), (9, .c (int (part.length : Int))), (10, .c (int t4))], []⟩) ?_ ?_ ?_
  ·try dsimp only
   exact Sub.env ⟨rfl, rfl, rfl, rfl, rfl, rfl, trivial⟩
  ·intro iv5 o h
   unfold strips_Contains_l2 at h
   try dsimp only at h ⊢
   refine AWP.seq ?_
   obtain ⟨t7, hx8, h⟩ := bind_some h
   refine AWP.seqJ (⟨[(0, .c (row 1 intI sv)), (5, .c (int iv5)), (7, .c (int a12)), (8, .c (row 1 intI part)), (9, .c (int (part.length : Int))), (10, .c (int t4)), (25, .c (bool t7))], []⟩) ?_ ?_
   ·rcases Bool.eq_false_or_eq_true (decide (iv5 < (sv.length : Int))) with hb9 | hb9
    ·replace hx8 := iteDT hb9 hx8
     obtain ⟨a21, ha21, hx8⟩ := bind_some hx8
     refine AWP.region (.move rfl rfl (.move rfl rfl (S.len rfl rfl (fun hl16 => .lss rfl rfl rfl (.move rfl rfl (.guardT rfl rfl rfl hb9 (.move rfl rfl (.guardT rfl rfl rfl hb9 (.move rfl rfl (.guardT rfl rfl rfl hb9 (S.idx ha21 rfl rfl rfl rfl (.guardT rfl rfl rfl hb9 (.loadI rfl rfl rfl rfl (.guardT rfl rfl rfl hb9 (.move rfl rfl (.guardT rfl rfl rfl hb9 (.lss rfl rfl rfl (.pickT rfl hb9 rfl rfl (.nil ?_)))))))))))))))))))
     have ej := Option.some.inj hx8
     subst ej
     refine thn_normal (Sub.env ⟨rfl, rfl, rfl, rfl, rfl, rfl, rfl, trivial⟩)
    ·replace hx8 := iteDF hb9 hx8
     refine AWP.region (.move rfl rfl (.move rfl rfl (S.len rfl rfl (fun hl16 => .lss rfl rfl rfl (.move rfl rfl (.guardF rfl rfl rfl hb9 (.guardF rfl rfl rfl hb9 (.guardF rfl rfl rfl hb9 (.guardF rfl rfl rfl hb9 (.guardF rfl rfl rfl hb9 (.guardF rfl rfl rfl hb9 (.pickF rfl hb9 rfl rfl (.nil ?_)))))))))))))
     have ej := Option.some.inj hx8
     subst ej
     refine thn_normal (Sub.env ⟨rfl, rfl, rfl, rfl, rfl, rfl, rfl, trivial⟩)
   ·refine AWP.iteB rfl h (fun hc10 h => ?_) (fun hc10 h => ?_)
    ·refine AWP.skip (thn_normal (.block (.region (.move rfl rfl (S.add rfl rfl rfl (.assign rfl rfl (.nil (inB_normal ?_))))))))
     have ej := Option.some.inj h
     subst ej
     refine thn_normal ⟨_, rfl, ?_⟩
     exact Sub.env ⟨rfl, rfl, rfl, rfl, rfl, rfl, trivial⟩
    ·refine AWP.exit (thn_exit ?_)
     have ej := Option.some.inj h
     subst ej
     refine thn_exit ⟨_, rfl, rfl, ?_⟩
     exact Sub.env ⟨rfl, rfl, rfl, rfl, rfl, rfl, trivial⟩
  ·intro e s hq
   obtain ⟨rfl, hs⟩ := hq
   refine ⟨_, hs, ?_⟩
   refine inB_exit (thn_normal ?_)
   obtain ⟨t11, hx12, h⟩ := bind_some h
   refine AWP.seqJ (⟨[(0, .c (row 1 intI sv)), (5, .c (int iv6)), (8, .c (row 1 intI part)), (9, .c (int (part.length : Int))), (10, .c (int t4)), (39, .c (bool t11))], []⟩) ?_ ?_
   ·rcases Bool.eq_false_or_eq_true (decide (iv6 = (sv.length : Int))) with hb13 | hb13
    ·replace hx12 := iteDT hb13 hx12
     refine AWP.region (.move rfl rfl (.move rfl rfl (S.len rfl rfl (fun hl30 => .eql rfl rfl rfl (.move rfl rfl (.guardF rfl rfl rfl hb13 (.guardF rfl rfl rfl hb13 (.guardF rfl rfl rfl hb13 (.guardF rfl rfl rfl hb13 (.guardF rfl rfl rfl hb13 (.guardF rfl rfl rfl hb13 (.pickT rfl hb13 rfl rfl (.nil ?_)))))))))))))
     have ej := Option.some.inj hx12
     subst ej
     refine thn_normal (Sub.env ⟨rfl, rfl, rfl, rfl, rfl, rfl, trivial⟩)
    ·replace hx12 := iteDF hb13 hx12
     obtain ⟨a35, ha35, hx12⟩ := bind_some hx12
     refine AWP.region (.move rfl rfl (.move rfl rfl (S.len rfl rfl (fun hl30 => .eql rfl rfl rfl (.move rfl rfl (.guardT rfl rfl rfl hb13 (.move rfl rfl (.guardT rfl rfl rfl hb13 (.move rfl rfl (.guardT rfl rfl rfl hb13 (S.idx ha35 rfl rfl rfl rfl (.guardT rfl rfl rfl hb13 (.loadI rfl rfl rfl rfl (.guardT rfl rfl rfl hb13 (.move rfl rfl (.guardT rfl rfl rfl hb13 (.neq rfl rfl rfl (.pickF rfl hb13 rfl rfl (.nil ?_)))))))))))))))))))
     have ej := Option.some.inj hx12
     subst ej
     refine thn_normal (Sub.env ⟨rfl, rfl, rfl, rfl, rfl, rfl, trivial⟩)
   ·refine AWP.iteB rfl h (fun hc14 h => ?_) (fun hc14 h => ?_)
    ·refine AWP.seq (.region (.assign rfl rfl (.nil (thn_normal (.ret (inB_ret (thn_ret ?_)))))))
     have ej := Option.some.inj h
     subst ej
     refine thn_ret ⟨_, rfl, rfl, ?_⟩
     exact Done.ret rfl rfl
    ·refine AWP.skip (inB_normal (thn_normal (.region (.add rfl rfl rfl (by omega) (.move rfl rfl (.nil ?_))))))
     have ej := Option.some.inj h
     subst ej
     refine thn_normal ⟨_, rfl, ?_⟩
     exact Sub.env ⟨rfl, rfl, rfl, rfl, rfl, trivial⟩
 ·intro e s hq
  rcases oo with iv3 | x
  ·try dsimp only at h hq
   obtain ⟨rfl, hs⟩ := hq
   refine ⟨_, hs, ?_⟩
   refine inB_exit (thn_normal (.seq (.region (.assign rfl rfl (.nil (thn_normal (.ret ?_)))))))
   have ej := Option.some.inj h
   subst ej
   exact Done.ret rfl rfl
  ·try dsimp only at h hq
   obtain ⟨rfl, hs⟩ := hq
   refine ⟨_, Sub.refl _ _, ?_⟩
   refine inB_ret (thn_ret ?_)
   have ej := Option.some.inj h
   subst ej
   exact hs
theorem open_Can_ok {ov : TOpenTask} {sv : List Int} {op : Int} {r : Bool} (h : open_Can ov sv op = some r) : PureOk Try.prog 31 [.agg [int ov.facts, row 1 intI ov.init, row 1 intI ov.goal, row 3 eTOpenOperator ov.operators], .c (row 1 intI sv), .c (int op)] (.c (bool r)) := by
 unfold PureOk
 refine FnOk.enter (rs := [.t 6]) Try.func31 rfl Try.ntmps31 Try.results31 rfl ⟨trivial, trivial⟩ (by kernel_rfl) rfl ?_
 unfold open_Can at h
 refine AWP.seq (.region (W.box rfl rfl rfl rfl rfl rfl (.assign rfl rfl (.nil (thn_normal (.seq ?_))))))
 obtain ⟨a11, ha11, h⟩ := bind_some h
 obtain ⟨a14, ha14, h⟩ := bind_some h
 refine AWP.region (.move rfl rfl (W.fieldAddr rfl rfl rfl rfl (.load rfl rfl rfl rfl rfl rfl (.move rfl rfl (S.idx ha11 rfl rfl rfl rfl (W.fieldAddrI rfl rfl rfl rfl (.loadI rfl rfl rfl rfl (.callR rfl rfl rfl rfl (strips_Contains_ok ha14) rfl (.assign rfl rfl (.nil (thn_normal (.ret ?_))))))))))))
 have ej := Option.some.inj h
 subst ej
 exact Done.ret rfl rfl
theorem strips_Update_ok {sv : List Int} {add : List Int} {del : List Int} {r : (List Int)} (h : strips_Update sv add del = some r) : FreshOk Try.prog 22 [.c (row 1 intI sv), .c (row 1 intI add), .c (row 1 intI del)] 1 (List.map intI r) := by
 unfold FreshOk
 refine FnOk.enter (rs := [.t 6]) Try.func22 rfl Try.ntmps22 Try.results22 rfl ⟨trivial, trivial⟩ (by kernel_rfl) rfl ?_
 unfold strips_Update at h
 refine AWP.seq (.region (.assign rfl rfl (.nil (thn_normal (.seq (.region (.assign rfl rfl (.nil (thn_normal (.seq (.seq (.region (.move rfl rfl (S.len rfl rfl (fun hl13 => .move rfl rfl (.nil (thn_normal (.block (.virtV 1 intI 7 rfl rfl rfl ?_)))))))))))))))))))
 obtain ⟨c4, ho1, h⟩ := bind_some h
 refine AWP.forS ho1 (fun t5 c4 => ⟨[(1, .c (row 1 intI add)), (2, .c (row 1 intI del)), (7, .c (.own 0 0 c4.length)), (12, .c (row 1 intI sv)), (13, .c (int (sv.length : Int))), (14, .c (int t5))], [.one (vec 1 intI c4)]⟩) (fun c4 e st => e = .exit 0 ∧ Sub [] st ⟨[(1, .c (row 1 intI add)), (7, .c (.own 0 0 c4.length))], [.one (vec 1 intI c4)]⟩) ?_ ?_ ?_ ?_
 ·try dsimp only
  exact Sub.env ⟨rfl, rfl, (own_len (by first | rfl | simp only [List.length_set])), rfl, rfl, rfl, trivial⟩
 ·intro t5 c4 hlot5 hltt5 _
  try dsimp only
  refine AWP.seq (.region (.lss rfl rfl rfl (.nil (thn_normal (.seq (.condNP rfl hltt5 (.exit (thn_exit (thn_exit ⟨rfl, ?_⟩)))))))))
  exact Sub.env ⟨rfl, rfl, trivial⟩
 ·intro t5 c4 o hlot5 hltt5 h
  unfold strips_Update_l1 at h
  try dsimp only at h ⊢
  refine AWP.seq (.region (.lss rfl rfl rfl (.nil (thn_normal (.seq (.condP rfl hltt5 (.skip (thn_normal ?_))))))))
  obtain ⟨c6, hx7, h⟩ := bind_some h
  refine AWP.seqJ (⟨[(1, .c (row 1 intI add)), (2, .c (row 1 intI del)), (7, .c (.own 2 0 c6.length)), (12, .c (row 1 intI sv)), (13, .c (int (sv.length : Int))), (14, .c (int t5))], [.dead, .dead, .one (vec 1 intI c6)]⟩) ?_ ?_
  ·refine AWP.block (.seq ?_)
   obtain ⟨a16, ha16, hx7⟩ := bind_some hx7
   refine AWP.region (S.idx ha16 rfl rfl rfl rfl (.loadI rfl rfl rfl rfl (.assign rfl rfl (.nil (thn_normal (.seq ?_))))))
   obtain ⟨a21, ha21, hx7⟩ := bind_some hx7
   refine AWP.region (.move rfl rfl (.move rfl rfl (.callR rfl rfl rfl rfl (slices_BinarySearch_int_int_ok ha21) rfl (.move rfl rfl (.extract rfl rfl rfl (.extract rfl rfl rfl (.assign rfl rfl (.assign rfl rfl (.nil (thn_normal (.seq (.region (.move rfl rfl (.not rfl rfl (.nil (thn_normal (.iteB rfl hx7 (fun hc8 hx7 => ?_) (fun hc8 hx7 => ?_))))))))))))))))))
   ·obtain ⟨a29, ha29, hx7⟩ := bind_some hx7
    refine AWP.region (.move rfl rfl (.move rfl rfl (S.lit (f := intI) (l := [a16]) (ess := [[int a16]]) rfl rfl rfl rfl rfl rfl rfl ⟨⟨.inl rfl, trivial⟩, trivial⟩ rfl rfl rfl (S.append (f := intI) ha29 rfl rfl rfl rfl rfl rfl (.own rfl rfl) rfl rfl rfl rfl (.assign rfl rfl (.nil (inB_normal ?_)))))))
    have ej := Option.some.inj hx7
    subst ej
    refine thn_normal (Sub.cut ⟨rfl, rfl, rfl, rfl, rfl, rfl, trivial⟩ rfl ⟨.dead, .dead, .vec, trivial⟩ rfl)
   ·refine AWP.skip (inB_normal ?_)
    have ej := Option.some.inj hx7
    subst ej
    refine thn_normal ((Sub.move (env' := [(1, .c (row 1 intI add)), (2, .c (row 1 intI del)), (7, .c (.own 2 0 c4.length)), (12, .c (row 1 intI sv)), (13, .c (int (sv.length : Int))), (14, .c (int t5))]) (σ' := [.dead, .dead, .one (vec 1 intI c4)]) 2 0 rfl rfl rfl ⟨rfl, rfl, rfl, rfl, rfl, rfl, trivial⟩ rfl ⟨trivial, trivial, ⟨Blk.im_ok _ _ _, vec_mv rfl⟩, trivial⟩).trans (Sub.env ⟨rfl, rfl, rfl, rfl, rfl, rfl, trivial⟩))
  ·refine AWP.region (.add rfl rfl rfl (by omega) (.move rfl rfl (.nil ?_)))
   have ej := Option.some.inj h
   subst ej
   refine thn_normal ((Sub.move (env' := [(1, .c (row 1 intI add)), (2, .c (row 1 intI del)), (7, .c (.own 0 0 c6.length)), (12, .c (row 1 intI sv)), (13, .c (int (sv.length : Int))), (14, .c (int (t5 + 1)))]) (σ' := [.one (vec 1 intI c6), .dead]) 0 2 rfl rfl rfl ⟨rfl, rfl, rfl, rfl, rfl, rfl, trivial⟩ rfl ⟨⟨Blk.im_ok _ _ _, vec_mv rfl⟩, trivial, trivial⟩).trans (Sub.cut ⟨rfl, rfl, rfl, rfl, rfl, rfl, trivial⟩ rfl ⟨.vec, trivial⟩ rfl))
 ·intro e s hq
  obtain ⟨rfl, hs⟩ := hq
  refine ⟨_, hs, ?_⟩
  refine inB_exit (thn_normal (.seq ?_))
  obtain ⟨a33, ha33, h⟩ := bind_some h
  refine AWP.region (.move rfl rfl (.move rfl rfl (S.append (f := intI) ha33 rfl rfl rfl rfl rfl rfl .row rfl rfl rfl rfl (.assign rfl rfl (.nil (thn_normal (.seq (.move (env' := [(7, .c (.own 0 0 a33.length))]) (σ' := [.one (vec 1 intI a33)]) 0 1 rfl rfl rfl ⟨rfl, trivial⟩ rfl ⟨⟨Blk.im_ok _ _ _, vec_mv rfl⟩, trivial⟩ ?_))))))))
  obtain ⟨a35, ha35, h⟩ := bind_some h
  refine AWP.region (.move rfl rfl (S.sort ha35 sortL_ok rfl rfl rfl rfl rfl rfl (.nil (thn_normal (.seq (.region (.move rfl rfl (S.compact compactL_ok rfl rfl (sortL_len ha35) rfl rfl rfl rfl rfl (.assign rfl rfl (.nil (thn_normal (.ret ?_))))))))))))
  have ej := Option.some.inj h
  subst ej
  exact Done.ret rfl (Fresh.mk rfl rfl)
theorem ref7_Before_ok {av : List Int} {bv : List Int} {r : Bool} (h : ref7_Before av bv = some r) : PureOk Try.prog 26 [.c (row 1 intI av), .c (row 1 intI bv)] (.c (bool r)) := by
 unfold PureOk
 refine FnOk.enter (rs := [.t 4]) Try.func26 rfl Try.ntmps26 Try.results26 rfl ⟨trivial, trivial⟩ (by kernel_rfl) rfl ?_
 unfold ref7_Before at h
 refine AWP.seq (.region (.assign rfl rfl (.nil (thn_normal (.seq (.seq (.region (.assign rfl rfl (.nil (thn_normal (.block ?_)))))))))))
 obtain ⟨oo, ho1, h⟩ := bind_some h
 refine AWP.loopS ho1 (fun iv3 => ⟨[(0, .c (row 1 intI av)), (1, .c (row 1 intI bv)), (5, .c (int iv3))], []⟩) (fun o e st => match o with | .inl _ => e = .exit 0 ∧ Sub [] st ⟨[(0, .c (row 1 intI av)), (1, .c (row 1 intI bv))], []⟩ | .inr x => e = .ret ∧ Done [.t 4] (fun t _ => t = .c (bool x)) .ret st) ?_ ?_ ?_
 ·try dsimp only
  exact Sub.env ⟨rfl, rfl, rfl, trivial⟩
 ·intro iv3 o h
  unfold ref7_Before_l1 at h
  try dsimp only at h ⊢
  refine AWP.seq (.seqJ (⟨[(0, .c (row 1 intI av)), (1, .c (row 1 intI bv)), (5, .c (int iv3)), (15, .c (bool ((decide (iv3 < (av.length : Int))) && (decide (iv3 < (bv.length : Int))))))], []⟩) ?_ ?_)
  ·rcases Bool.eq_false_or_eq_true (decide (iv3 < (av.length : Int))) with hb1 | hb1
   ·refine AWP.region (.move rfl rfl (.move rfl rfl (S.len rfl rfl (fun hl8 => .lss rfl rfl rfl (.move rfl rfl (.guardT rfl rfl rfl hb1 (.move rfl rfl (.guardT rfl rfl rfl hb1 (.move rfl rfl ?_)))))))))
    refine AOps.guardT rfl rfl rfl hb1 ?_; refine S.len rfl rfl (fun hl13 => ?_)
    refine AOps.guardT rfl rfl rfl hb1 (.lss rfl rfl rfl (.pickT rfl hb1 rfl rfl (.nil (thn_normal ?_))))
    simp only [and_t hb1, or_t hb1, Bool.false_or, Bool.true_or, Bool.false_and, Bool.true_and]
    exact Sub.env ⟨rfl, rfl, rfl, rfl, trivial⟩
   ·refine AWP.region (.move rfl rfl (.move rfl rfl (S.len rfl rfl (fun hl8 => .lss rfl rfl rfl (.move rfl rfl (.guardF rfl rfl rfl hb1 (.guardF rfl rfl rfl hb1 (.guardF rfl rfl rfl hb1 (.guardF rfl rfl rfl hb1 (.pickF rfl hb1 rfl rfl (.nil (thn_normal ?_))))))))))))
    simp only [and_f hb1, or_f hb1, Bool.false_or, Bool.true_or, Bool.false_and, Bool.true_and]
    exact Sub.env ⟨rfl, rfl, rfl, rfl, trivial⟩
  ·refine AWP.iteB rfl h (fun hc4 h => ?_) (fun hc4 h => ?_)
   ·refine AWP.skip (thn_normal (.seq (.block (.seq ?_))))
    obtain ⟨a20, ha20, h⟩ := bind_some h
    obtain ⟨a24, ha24, h⟩ := bind_some h
    refine AWP.drawI mixed rfl ?_
    apply DrawSeq.consF; exact rfl; intro E
    refine AOps.move rfl rfl (.nil ⟨rfl, rfl⟩)
    exact rfl
    apply DrawSeq.consF; exact rfl; intro E
    refine AOps.move rfl rfl (.nil ⟨rfl, rfl⟩)
    exact rfl
    apply DrawSeq.consF; exact rfl; intro E
    refine S.idx ha20 rfl rfl rfl rfl (.nil ⟨rfl, rfl⟩)
    exact rfl
    apply DrawSeq.consF; exact rfl; intro E
    refine AOps.loadI rfl rfl rfl rfl (.nil ⟨rfl, rfl⟩)
    exact rfl
    apply DrawSeq.consF; exact rfl; intro E
    refine AOps.move rfl rfl (.nil ⟨rfl, rfl⟩)
    exact rfl
    apply DrawSeq.consF; exact rfl; intro E
    refine AOps.move rfl rfl (.nil ⟨rfl, rfl⟩)
    exact rfl
    apply DrawSeq.consF; exact rfl; intro E
    refine S.idx ha24 rfl rfl rfl rfl (.nil ⟨rfl, rfl⟩)
    exact rfl
    apply DrawSeq.consF; exact rfl; intro E
    refine AOps.loadI rfl rfl rfl rfl (.nil ⟨rfl, rfl⟩)
    exact rfl
    apply DrawSeq.consF; exact rfl; intro E
    refine AOps.neq rfl rfl rfl (.nil ⟨rfl, rfl⟩)
    exact rfl
    refine DrawSeq.done ?_
    dsimp only [envEnd]
    refine thn_normal (.iteN rfl h (fun hc5 h => ?_) (fun hc5 h => ?_))
    ·refine AWP.seq ?_
     obtain ⟨a29, ha29, h⟩ := bind_some h
     obtain ⟨a33, ha33, h⟩ := bind_some h
     refine AWP.drawI mixed rfl ?_
     apply DrawSeq.consF; exact rfl; intro E
     refine AOps.move rfl rfl (.nil ⟨rfl, rfl⟩)
     exact rfl
     apply DrawSeq.consF; exact rfl; intro E
     refine AOps.move rfl rfl (.nil ⟨rfl, rfl⟩)
     exact rfl
     apply DrawSeq.consF; exact rfl; intro E
     refine S.idx ha29 rfl rfl rfl rfl (.nil ⟨rfl, rfl⟩)
     exact rfl
     apply DrawSeq.consF; exact rfl; intro E
     refine AOps.loadI rfl rfl rfl rfl (.nil ⟨rfl, rfl⟩)
     exact rfl
     apply DrawSeq.consF; exact rfl; intro E
     refine AOps.move rfl rfl (.nil ⟨rfl, rfl⟩)
     exact rfl
     apply DrawSeq.consF; exact rfl; intro E
     refine AOps.move rfl rfl (.nil ⟨rfl, rfl⟩)
     exact rfl
     apply DrawSeq.consF; exact rfl; intro E
     refine S.idx ha33 rfl rfl rfl rfl (.nil ⟨rfl, rfl⟩)
     exact rfl
     apply DrawSeq.consF; exact rfl; intro E
     refine AOps.loadI rfl rfl rfl rfl (.nil ⟨rfl, rfl⟩)
     exact rfl
     apply DrawSeq.consF; exact rfl; intro E
     refine AOps.lss rfl rfl rfl (.nil ⟨rfl, rfl⟩)
     exact rfl
     apply DrawSeq.consF; exact rfl; intro E
     refine AOps.assign rfl rfl (.nil ⟨rfl, rfl⟩)
     exact rfl
     refine DrawSeq.done ?_
     dsimp only [envEnd]
     refine thn_normal (.ret (inB_ret (thn_ret ?_)))
     have ej := Option.some.inj h
     subst ej
     refine thn_ret ⟨_, rfl, rfl, ?_⟩
     exact Done.ret rfl rfl
    ·refine AWP.skip (inB_normal (thn_normal (.region (.move rfl rfl (S.add rfl rfl rfl (.assign rfl rfl (.nil ?_)))))))
     have ej := Option.some.inj h
     subst ej
     refine thn_normal ⟨_, rfl, ?_⟩
     exact Sub.env ⟨rfl, rfl, rfl, trivial⟩
   ·refine AWP.exit (thn_exit ?_)
    have ej := Option.some.inj h
    subst ej
    refine thn_exit ⟨_, rfl, rfl, ?_⟩
    exact Sub.env ⟨rfl, rfl, trivial⟩
 ·intro e s hq
  rcases oo with u | x
  ·try dsimp only at h hq
   obtain ⟨rfl, hs⟩ := hq
   refine ⟨_, hs, ?_⟩
   refine inB_exit (thn_normal (.seq (.region (.move rfl rfl (S.len rfl rfl (fun hl37 => .move rfl rfl (S.len rfl rfl (fun hl39 => .lss rfl rfl rfl (.assign rfl rfl (.nil (thn_normal (.ret ?_))))))))))))
   have ej := Option.some.inj h
   subst ej
   exact Done.ret rfl rfl
  ·try dsimp only at h hq
   obtain ⟨rfl, hs⟩ := hq
   refine ⟨_, Sub.refl _ _, ?_⟩
   refine inB_ret (thn_ret ?_)
   have ej := Option.some.inj h
   subst ej
   exact hs
theorem law8_coin_ok {r : TOpenTask} (h : law8_coin = some r) : PureOk Try.prog 32 [] (.agg [int r.facts, row 1 intI r.init, row 1 intI r.goal, row 3 eTOpenOperator r.operators]) := by
 unfold PureOk
 refine FnOk.enter (rs := [.cell 0 25 4]) Try.func32 rfl Try.ntmps32 Try.results32 rfl ⟨rv _ rfl, trivial⟩ (by kernel_rfl) rfl ?_
 unfold law8_coin at h
 refine AWP.seq (.region (W.alloc rfl rfl rfl rfl (.nil (thn_normal (.seq (.region (S.lit (f := intI) (l := [0]) (ess := [[int 0]]) rfl rfl rfl rfl rfl rfl rfl ⟨⟨.inl rfl, trivial⟩, trivial⟩ rfl rfl rfl (S.lit (f := intI) (l := [0]) (ess := [[int 0]]) rfl rfl rfl rfl rfl rfl rfl ⟨⟨.inl rfl, trivial⟩, trivial⟩ rfl rfl rfl (W.build rfl rfl rfl rfl (W.build rfl rfl rfl rfl (.frzV (id := 2) (l := [0]) (env2 := [(0, .c (.ptr 0 0 0)), (1, .c (.own 1 0 ([0].length))), (3, .agg [row 1 intI [0], .imm (.val (.slice none 0 0)), int 1]), (4, .agg [.imm (.val (.slice none 0 0)), .imm (.val (.slice none 0 0)), int 2])]) (σ2 := [.one (.cells 4 [[int 0, .imm (.val (.slice none 0 0)), .imm (.val (.slice none 0 0)), .imm (.val (.slice none 0 0))]]), .one (vec 1 intI [0]), .dead]) rfl rfl (by exact ⟨⟨_, rfl, .inl ⟨rfl, rfl⟩⟩, ⟨_, rfl, .inl ⟨rfl, rfl⟩⟩, ⟨_, rfl, ⟨.inr ⟨_, rfl, rfl, rfl⟩, .inl ⟨rfl, rfl⟩, .inl ⟨rfl, rfl⟩, trivial⟩⟩, ⟨_, rfl, ⟨.inl ⟨rfl, rfl⟩, .inl ⟨rfl, rfl⟩, .inl ⟨rfl, rfl⟩, trivial⟩⟩, trivial⟩) rfl (by exact ⟨⟨rfl, .inl ⟨rfl, rfl⟩, .inl ⟨rfl, rfl⟩, .inl ⟨rfl, rfl⟩, .inl ⟨rfl, rfl⟩, trivial⟩, FrzB.vec, trivial, trivial⟩) (S.lit (f := eTOutcome) (l := [(⟨[0], [], 1⟩ : TOutcome), (⟨[], [], 2⟩ : TOutcome)]) (ess := [[row 1 intI [0], .imm (.val (.slice none 0 0)), int 1], [.imm (.val (.slice none 0 0)), .imm (.val (.slice none 0 0)), int 2]]) rfl rfl rfl rfl rfl rfl rfl ⟨⟨.inl rfl, .inr ⟨rfl, _, rfl⟩, .inl rfl, trivial⟩, ⟨.inr ⟨rfl, _, rfl⟩, .inr ⟨rfl, _, rfl⟩, .inl rfl, trivial⟩, trivial⟩ rfl rfl rfl (W.build rfl rfl rfl rfl (.frzV (id := 3) (l := [(⟨[0], [], 1⟩ : TOutcome), (⟨[], [], 2⟩ : TOutcome)]) (env2 := [(0, .c (.ptr 0 0 0)), (1, .c (.own 1 0 ([0].length))), (6, .agg [.imm (.val (.slice none 0 0)), row 3 eTOutcome ([(⟨[0], [], 1⟩ : TOutcome), (⟨[], [], 2⟩ : TOutcome)]), int 1])]) (σ2 := [.one (.cells 4 [[int 0, .imm (.val (.slice none 0 0)), .imm (.val (.slice none 0 0)), .imm (.val (.slice none 0 0))]]), .one (vec 1 intI [0]), .dead, .dead]) rfl rfl (by exact ⟨⟨_, rfl, .inl ⟨rfl, rfl⟩⟩, ⟨_, rfl, .inl ⟨rfl, rfl⟩⟩, ⟨_, rfl, ⟨.inl ⟨rfl, rfl⟩, .inr ⟨_, rfl, rfl, rfl⟩, .inl ⟨rfl, rfl⟩, trivial⟩⟩, trivial⟩) rfl (by exact ⟨⟨rfl, .inl ⟨rfl, rfl⟩, .inl ⟨rfl, rfl⟩, .inl ⟨rfl, rfl⟩, .inl ⟨rfl, rfl⟩, trivial⟩, FrzB.vec, trivial, trivial, trivial⟩) (S.lit (f := eTOpenOperator) (l := [(⟨[], [(⟨[0], [], 1⟩ : TOutcome), (⟨[], [], 2⟩ : TOutcome)], 1⟩ : TOpenOperator)]) (ess := [[.imm (.val (.slice none 0 0)), row 3 eTOutcome ([(⟨[0], [], 1⟩ : TOutcome), (⟨[], [], 2⟩ : TOutcome)]), int 1]]) rfl rfl rfl rfl rfl rfl rfl ⟨⟨.inr ⟨rfl, _, rfl⟩, .inl rfl, .inl rfl, trivial⟩, trivial⟩ rfl rfl rfl (W.build rfl rfl rfl rfl (W.storeAgg rfl rfl rfl rfl rfl rfl rfl (.nil (thn_normal (.frzV (id := 1) (l := [0]) (env2 := [(0, .c (.ptr 0 0 0))]) (σ2 := [.one (.cells 4 [[int 1, .imm (.val (.slice none 0 0)), row 1 intI [0], .own 4 0 (([(⟨[], [(⟨[0], [], 1⟩ : TOutcome), (⟨[], [], 2⟩ : TOutcome)], 1⟩ : TOpenOperator)]).length)]]), .dead, .dead, .dead, .one (vec 3 eTOpenOperator ([(⟨[], [(⟨[0], [], 1⟩ : TOutcome), (⟨[], [], 2⟩ : TOutcome)], 1⟩ : TOpenOperator)]))]) rfl rfl (by exact ⟨⟨_, rfl, .inl ⟨rfl, rfl⟩⟩, trivial⟩) rfl (by exact ⟨⟨rfl, .inl ⟨rfl, rfl⟩, .inl ⟨rfl, rfl⟩, .inr ⟨_, rfl, rfl, rfl⟩, .inl ⟨rfl, rfl⟩, trivial⟩, trivial, trivial, trivial, FrzB.vec, trivial⟩) (.frzV (id := 4) (l := [(⟨[], [(⟨[0], [], 1⟩ : TOutcome), (⟨[], [], 2⟩ : TOutcome)], 1⟩ : TOpenOperator)]) (env2 := [(0, .c (.ptr 0 0 0))]) (σ2 := [.one (.cells 4 [[int 1, .imm (.val (.slice none 0 0)), row 1 intI [0], row 3 eTOpenOperator ([(⟨[], [(⟨[0], [], 1⟩ : TOutcome), (⟨[], [], 2⟩ : TOutcome)], 1⟩ : TOpenOperator)])]]), .dead, .dead, .dead, .dead]) rfl rfl (by exact ⟨⟨_, rfl, .inl ⟨rfl, rfl⟩⟩, trivial⟩) rfl (by exact ⟨⟨rfl, .inl ⟨rfl, rfl⟩, .inl ⟨rfl, rfl⟩, .inl ⟨rfl, rfl⟩, .inr ⟨_, rfl, rfl, rfl⟩, trivial⟩, trivial, trivial, trivial, trivial, trivial⟩) (.nilB (b := 0) [int 1, row 1 intI [], row 1 intI [0], row 3 eTOpenOperator ([(⟨[], [(⟨[0], [], 1⟩ : TOutcome), (⟨[], [], 2⟩ : TOutcome)], 1⟩ : TOpenOperator)])] rfl (by exact ⟨.inl rfl, .inr ⟨rfl, _, rfl⟩, .inl rfl, .inl rfl, trivial⟩) rfl rfl (.ret ?_)))))))))))))))))))))))
 have ej := Option.some.inj h
 subst ej
 exact Done.ret rfl rfl
theorem slices_Equal_int_int_ok {s11 : List Int} {s22 : List Int} {r : Bool} (h : slices_Equal_int_int s11 s22 = some r) : PureOk Try.prog 63 [.c (row 1 intI s11), .c (row 1 intI s22)] (.c (bool r)) := by
 unfold PureOk
 refine FnOk.enter (rs := [.t 4]) Try.func63 rfl Try.ntmps63 Try.results63 rfl ⟨trivial, trivial⟩ (by kernel_rfl) rfl ?_
 unfold slices_Equal_int_int at h
 refine AWP.seq (.region (.assign rfl rfl (.nil (thn_normal (.seq (.seq (.region (.move rfl rfl (S.len rfl rfl (fun hl7 => .move rfl rfl (S.len rfl rfl (fun hl9 => .neq rfl rfl rfl (.nil (thn_normal (.iteN rfl h (fun hc3 h => ?_) (fun hc3 h => ?_))))))))))))))))
 ·refine AWP.seq (.region (.assign rfl rfl (.nil (thn_normal (.ret (thn_ret ?_))))))
  have ej := Option.some.inj h
  subst ej
  exact Done.ret rfl rfl
 ·refine AWP.skip (thn_normal (.seq (.seq (.region (.move rfl rfl (S.len rfl rfl (fun hl12 => .move rfl rfl (.nil (thn_normal (.block ?_))))))))))
  obtain ⟨oo, ho1, h⟩ := bind_some h
  refine AWP.rngS ho1 (fun t4 _ => ⟨[(0, .c (row 1 intI s11)), (1, .c (row 1 intI s22)), (12, .c (int (s11.length : Int))), (13, .c (int t4))], []⟩) (fun o e st => match o with | .inl _ => e = .exit 0 ∧ Sub [] st ⟨[], []⟩ | .inr x => e = .ret ∧ Done [.t 4] (fun t _ => t = .c (bool x)) .ret st) ?_ ?_ ?_ ?_
  ·try dsimp only
   exact Sub.env ⟨rfl, rfl, rfl, rfl, trivial⟩
  ·intro t4 s hlot4 hltt4 _
   try dsimp only
   refine AWP.seq (.region (.lss rfl rfl rfl (.nil (thn_normal (.seq (.condNP rfl hltt4 (.exit (thn_exit (thn_exit ⟨rfl, ?_⟩)))))))))
   exact Sub.env trivial
  ·intro t4 s o hlot4 hltt4 h
   unfold slices_Equal_int_int_l1 at h
   try dsimp only at h ⊢
   refine AWP.seq (.region (.lss rfl rfl rfl (.nil (thn_normal (.seq (.condP rfl hltt4 (.skip (thn_normal (.seq (.block (.seq (.region (.move rfl rfl (.assign rfl rfl (.nil (thn_normal (.seq ?_)))))))))))))))))
   obtain ⟨a18, ha18, h⟩ := bind_some h
   obtain ⟨a22, ha22, h⟩ := bind_some h
   refine AWP.drawI mixed rfl ?_
   apply DrawSeq.consF; exact rfl; intro E
   refine AOps.move rfl rfl (.nil ⟨rfl, rfl⟩)
   exact rfl
   apply DrawSeq.consF; exact rfl; intro E
   refine AOps.move rfl rfl (.nil ⟨rfl, rfl⟩)
   exact rfl
   apply DrawSeq.consF; exact rfl; intro E
   refine S.idx ha18 rfl rfl rfl rfl (.nil ⟨rfl, rfl⟩)
   exact rfl
   apply DrawSeq.consF; exact rfl; intro E
   refine AOps.loadI rfl rfl rfl rfl (.nil ⟨rfl, rfl⟩)
   exact rfl
   apply DrawSeq.consF; exact rfl; intro E
   refine AOps.move rfl rfl (.nil ⟨rfl, rfl⟩)
   exact rfl
   apply DrawSeq.consF; exact rfl; intro E
   refine AOps.move rfl rfl (.nil ⟨rfl, rfl⟩)
   exact rfl
   apply DrawSeq.consF; exact rfl; intro E
   refine S.idx ha22 rfl rfl rfl rfl (.nil ⟨rfl, rfl⟩)
   exact rfl
   apply DrawSeq.consF; exact rfl; intro E
   refine AOps.loadI rfl rfl rfl rfl (.nil ⟨rfl, rfl⟩)
   exact rfl
   apply DrawSeq.consF; exact rfl; intro E
   refine AOps.neq rfl rfl rfl (.nil ⟨rfl, rfl⟩)
   exact rfl
   refine DrawSeq.done ?_
   dsimp only [envEnd]
   refine thn_normal (.iteN rfl h (fun hc5 h => ?_) (fun hc5 h => ?_))
   ·refine AWP.seq (.region (.assign rfl rfl (.nil (thn_normal (.ret (inB_ret (thn_ret ?_)))))))
    have ej := Option.some.inj h
    subst ej
    refine thn_ret ⟨_, rfl, rfl, ?_⟩
    exact Done.ret rfl rfl
   ·refine AWP.skip (inB_normal (thn_normal (.region (.add rfl rfl rfl (by omega) (.move rfl rfl (.nil ?_))))))
    have ej := Option.some.inj h
    subst ej
    refine thn_normal ⟨_, rfl, ?_⟩
    exact Sub.env ⟨rfl, rfl, rfl, rfl, trivial⟩
  ·intro e s hq
   rcases oo with u | x
   ·try dsimp only at h hq
    obtain ⟨rfl, hs⟩ := hq
    refine ⟨_, hs, ?_⟩
    refine inB_exit (thn_normal (.seq (.region (.assign rfl rfl (.nil (thn_normal (.ret ?_)))))))
    have ej := Option.some.inj h
    subst ej
    exact Done.ret rfl rfl
   ·try dsimp only at h hq
    obtain ⟨rfl, hs⟩ := hq
    refine ⟨_, Sub.refl _ _, ?_⟩
    refine inB_ret (thn_ret ?_)
    have ej := Option.some.inj h
    subst ej
    exact hs
theorem slices_BinarySearchFunc_int_int_int_ok {xv : List (List Int)} {target : List Int} {cmp : (List Int) → (List Int) → Option Int} {r : Int × Bool} {fvcmp : FuncId} {cvcmp : List C} (hcvcmp : C.okL 0 cvcmp = true) (hcmp : ∀ {y1 : List Int} {y2 : List Int} {z : Int}, cmp y1 y2 = some z → PureOk Try.prog fvcmp ([.c (row 1 intI y1), .c (row 1 intI y2)] ++ cvcmp.map T.c) (.c (int z))) (h : slices_BinarySearchFunc_int_int_int xv target cmp = some r) : PureOk Try.prog 53 [.c (row 1 eLi64 xv), .c (row 1 intI target), .c (.fn fvcmp cvcmp)] (.tup [.c (int r.1), .c (bool r.2)]) := by
 unfold PureOk
 refine FnOk.enter (rs := [.t 6, .t 7]) Try.func53 rfl Try.ntmps53 Try.results53 rfl ⟨trivial, trivial, trivial⟩ (by kernel_rfl) rfl ?_
 unfold slices_BinarySearchFunc_int_int_int at h
 refine AWP.seq (.region (.assign rfl rfl (.assign rfl rfl (.nil (thn_normal (.seq (.region (.move rfl rfl (S.len rfl rfl (fun hl13 => .assign rfl rfl (.nil (thn_normal (.seq (.region (.move rfl rfl (.assign rfl rfl (.assign rfl rfl (.nil (thn_normal (.seq (.block ?_)))))))))))))))))))))
 obtain ⟨iv6, ho1, h⟩ := bind_some h
 refine AWP.loopS ho1 (fun (iv4, j5) => ⟨[(0, .c (row 1 eLi64 xv)), (1, .c (row 1 intI target)), (2, .c (.fn fvcmp cvcmp)), (8, .c (int (xv.length : Int))), (9, .c (int iv4)), (10, .c (int j5))], []⟩) (fun iv6 e st => e = .exit 0 ∧ Sub [] st ⟨[(0, .c (row 1 eLi64 xv)), (1, .c (row 1 intI target)), (2, .c (.fn fvcmp cvcmp)), (8, .c (int (xv.length : Int))), (9, .c (int iv6))], []⟩) ?_ ?_ ?_
 ·try dsimp only
  exact Sub.env ⟨rfl, rfl, rfl, rfl, rfl, rfl, trivial⟩
 ·intro s o h
  obtain ⟨iv4, j5⟩ := s
  unfold slices_BinarySearchFunc_int_int_int_l1 at h
  try dsimp only at h ⊢
  refine AWP.seq (.seq (.region (.move rfl rfl (.move rfl rfl (.lss rfl rfl rfl (.nil (thn_normal (.ite rfl h (fun hc7 h => ?_) (fun hc7 h => ?_)))))))))
  ·refine AWP.skip (thn_normal (.block (.seq (.region (.move rfl rfl (.move rfl rfl (S.add rfl rfl rfl (.convInt rfl rfl (.shr rfl rfl rfl (by decide) rfl (.convInt rfl rfl (.assign rfl rfl (.nil (thn_normal (.seq ?_))))))))))))))
   obtain ⟨a27, ha27, h⟩ := bind_some h
   obtain ⟨a30, ha30, h⟩ := bind_some h
   refine AWP.region (.move rfl rfl (.move rfl rfl (.move rfl rfl (S.idx ha27 rfl rfl rfl rfl (.loadI rfl rfl rfl rfl (.move rfl rfl (.callR rfl rfl (okL_app rfl hcvcmp) rfl (hcmp ha30) rfl (.lss rfl rfl rfl (.nil (thn_normal (.ite rfl h (fun hc8 h => ?_) (fun hc8 h => ?_))))))))))))
   ·refine AWP.region (.move rfl rfl (S.add rfl rfl rfl (.assign rfl rfl (.nil (inB_normal ?_)))))
    have ej := Option.some.inj h
    subst ej
    refine thn_normal ⟨_, rfl, ?_⟩
    exact Sub.env ⟨rfl, rfl, rfl, rfl, rfl, rfl, trivial⟩
   ·refine AWP.region (.move rfl rfl (.assign rfl rfl (.nil (inB_normal ?_))))
    have ej := Option.some.inj h
    subst ej
    refine thn_normal ⟨_, rfl, ?_⟩
    exact Sub.env ⟨rfl, rfl, rfl, rfl, rfl, rfl, trivial⟩
  ·refine AWP.exit (thn_exit ?_)
   have ej := Option.some.inj h
   subst ej
   refine thn_exit ⟨_, rfl, rfl, ?_⟩
   exact Sub.env ⟨rfl, rfl, rfl, rfl, rfl, trivial⟩
 ·intro e s hq
  obtain ⟨rfl, hs⟩ := hq
  refine ⟨_, hs, ?_⟩
  refine inB_exit (thn_normal ?_)
  obtain ⟨t9, hx10, h⟩ := bind_some h
  refine AWP.seqJ (⟨[(6, .c (int iv6)), (7, .c (bool t9))], []⟩) ?_ ?_
  ·rcases Bool.eq_false_or_eq_true (decide (iv6 < (xv.length : Int))) with hb11 | hb11
   ·replace hx10 := iteDT hb11 hx10
    obtain ⟨a43, ha43, hx10⟩ := bind_some hx10
    obtain ⟨a46, ha46, hx10⟩ := bind_some hx10
    refine AWP.region (.move rfl rfl (.move rfl rfl (.move rfl rfl (.lss rfl rfl rfl (.move rfl rfl (.guardT rfl rfl rfl hb11 (.move rfl rfl (.guardT rfl rfl rfl hb11 (.move rfl rfl (.guardT rfl rfl rfl hb11 (.move rfl rfl (.guardT rfl rfl rfl hb11 (S.idx ha43 rfl rfl rfl rfl (.guardT rfl rfl rfl hb11 (.loadI rfl rfl rfl rfl (.guardT rfl rfl rfl hb11 (.move rfl rfl (.guardT rfl rfl rfl hb11 (.callR rfl rfl (okL_app rfl hcvcmp) rfl (hcmp ha46) rfl (.guardT rfl rfl rfl hb11 (.eql rfl rfl rfl (.pickT rfl hb11 rfl rfl (.assign rfl rfl (.assign rfl rfl (.nil ?_)))))))))))))))))))))))))
    have ej := Option.some.inj hx10
    subst ej
    refine thn_normal (Sub.env ⟨rfl, rfl, trivial⟩)
   ·replace hx10 := iteDF hb11 hx10
    refine AWP.region (.move rfl rfl (.move rfl rfl (.move rfl rfl (.lss rfl rfl rfl (.move rfl rfl (.guardF rfl rfl rfl hb11 (.guardF rfl rfl rfl hb11 (.guardF rfl rfl rfl hb11 (.guardF rfl rfl rfl hb11 (.guardF rfl rfl rfl hb11 (.guardF rfl rfl rfl hb11 (.guardF rfl rfl rfl hb11 (.guardF rfl rfl rfl hb11 (.pickF rfl hb11 rfl rfl (.assign rfl rfl (.assign rfl rfl (.nil ?_)))))))))))))))))
    have ej := Option.some.inj hx10
    subst ej
    refine thn_normal (Sub.env ⟨rfl, rfl, trivial⟩)
  ·refine AWP.ret ?_
   have ej := Option.some.inj h
   subst ej
   exact Done.ret rfl rfl
theorem slices_CompactFunc_int_int_w_ok {l : List (List Int)} {r : (List (List Int))} (h : slices_CompactFunc_int_int_w l = some r) : FnOk Try.prog 62 [.c (.own 0 0 l.length), .c (.fn 63 [])] (slices_CompactFunc_int_int_w_s0 l) (fun tt ss => tt = .c (.own 1 0 r.length) ∧ ss = [.dead, .one (vec 1 eLi64 r)]) := by
 refine FnOk.enter (rs := [.t 4]) Try.func62 rfl Try.ntmps62 Try.results62 rfl ⟨trivial, trivial⟩ (by kernel_rfl) rfl ?_
 refine AWP.weak ?_
 unfold slices_CompactFunc_int_int_w at h
 refine AWP.move (env' := [(0, .c (.own 1 0 l.length)), (1, .c (.fn 63 []))]) (σ' := [.dead, .one (vec 1 eLi64 l)]) 1 0 rfl rfl rfl ⟨rfl, rfl, trivial⟩ rfl ⟨trivial, ⟨Blk.im_ok _ _ _, vec_mv rfl⟩, trivial⟩ (.seq (.region (.assign rfl rfl (.nil (thn_normal (.seq (.seq (.region (.move rfl rfl (S.lenO rfl rfl rfl (fun hl9 => .lss rfl rfl rfl (.nil (thn_normal (.ite rfl h (fun hc53 h => ?_) (fun hc53 h => ?_)))))))))))))))
 ·refine AWP.seq (.region (.move rfl rfl (.assign rfl rfl (.nil (thn_normal (.ret (thn_ret ?_)))))))
  have ej := Option.some.inj h
  subst ej
  exact ⟨⟨[(4, .c (.own 1 0 l.length))], [.dead, .one (vec 1 eLi64 l)]⟩, Sub.env ⟨rfl, trivial⟩, Done.ret rfl ⟨rfl, rfl⟩⟩
 ·refine AWP.skip (thn_normal (.seq (.seq (.region (.assign rfl rfl (.nil (thn_normal (.block ?_))))))))
  obtain ⟨oo, ho1, h⟩ := bind_some h
  refine AWP.rngS ho1 (fun kv54 _ => ⟨[(0, .c (.own 1 0 l.length)), (1, .c (.fn 63 [])), (5, .c (int kv54))], [.dead, .one (vec 1 eLi64 l)]⟩) (fun o e st => match o with | .inl _ => e = .exit 0 ∧ Sub (slices_CompactFunc_int_int_w_s0 l) st ⟨[(0, .c (.own 1 0 l.length))], [.dead, .one (vec 1 eLi64 l)]⟩ | .inr x => e = .ret ∧ ∃ J, Sub (slices_CompactFunc_int_int_w_s0 l) st J ∧ Done [.t 4] (fun tt ss => tt = .c (.own 1 0 x.length) ∧ ss = [.dead, .one (vec 1 eLi64 x)]) .ret J) ?_ ?_ ?_ ?_
  ·try dsimp only
   exact Sub.env ⟨rfl, rfl, rfl, trivial⟩
  ·intro kv54 s hlokv54 hltkv54 _
   try dsimp only
   refine AWP.seq (.seq (.region (.move rfl rfl (.move rfl rfl (S.lenO rfl rfl rfl (fun hl14 => .lss rfl rfl rfl (.nil (thn_normal (.condNP rfl hltkv54 (.exit (thn_exit (thn_exit ⟨rfl, ?_⟩))))))))))))
   exact Sub.env ⟨rfl, trivial⟩
  ·intro kv54 s o hlokv54 hltkv54 h
   unfold slices_CompactFunc_int_int_w_l1 at h
   try dsimp only at h ⊢
   refine AWP.seq (.seq (.region (.move rfl rfl (.move rfl rfl (S.lenO rfl rfl rfl (fun hl14 => .lss rfl rfl rfl (.nil (thn_normal (.condP rfl hltkv54 (.skip (thn_normal (.seq (.block (.seq ?_))))))))))))))
   obtain ⟨a21, ha21, h⟩ := bind_some h
   obtain ⟨a26, ha26, h⟩ := bind_some h
   obtain ⟨a28, ha28, h⟩ := bind_some h
   refine AWP.drawI mixed rfl ?_
   apply DrawSeq.consF; exact rfl; intro E
   refine AOps.move rfl rfl (.nil ⟨rfl, rfl⟩)
   exact rfl
   apply DrawSeq.consF; exact rfl; intro E
   refine AOps.move rfl rfl (.nil ⟨rfl, rfl⟩)
   exact rfl
   apply DrawSeq.consF; exact rfl; intro E
   refine AOps.move rfl rfl (.nil ⟨rfl, rfl⟩)
   exact rfl
   apply DrawSeq.consF; exact rfl; intro E
   refine S.idxO ha21 rfl rfl rfl rfl rfl (.nil ⟨rfl, rfl⟩)
   exact rfl
   apply DrawSeq.consF; exact rfl; intro E
   refine S.loadO ha21 rfl rfl rfl rfl rfl (.nil ⟨rfl, rfl⟩)
   exact rfl
   apply DrawSeq.consF; exact rfl; intro E
   refine AOps.move rfl rfl (.nil ⟨rfl, rfl⟩)
   exact rfl
   apply DrawSeq.consF; exact rfl; intro E
   refine AOps.move rfl rfl (.nil ⟨rfl, rfl⟩)
   exact rfl
   apply DrawSeq.consF; exact rfl; intro E
   refine AOps.sub' rfl rfl rfl (by omega) (.nil ⟨rfl, rfl⟩)
   exact rfl
   apply DrawSeq.consF; exact rfl; intro E
   refine S.idxO ha26 rfl rfl rfl rfl rfl (.nil ⟨rfl, rfl⟩)
   exact rfl
   apply DrawSeq.consF; exact rfl; intro E
   refine S.loadO ha26 rfl rfl rfl rfl rfl (.nil ⟨rfl, rfl⟩)
   exact rfl
   apply DrawSeq.consF; exact rfl; intro E
   refine AOps.callR rfl rfl rfl rfl (slices_Equal_int_int_ok ha28) rfl (.nil ⟨rfl, rfl⟩)
   exact rfl
   refine DrawSeq.done ?_
   dsimp only [envEnd]
   refine thn_normal (.iteB rfl h (fun hc55 h => ?_) (fun hc55 h => ?_))
   ·refine AWP.seq ?_
    obtain ⟨u31, hu31, h⟩ := bind_some h
    refine AWP.region (.move rfl rfl (.move rfl rfl (S.vFrom (vw_full l) hu31 rfl rfl rfl rfl rfl rfl (.assign rfl rfl (.nil (thn_normal (.seq (.seq (.region (.assign rfl rfl (.nil (thn_normal (.block ?_)))))))))))))
    obtain ⟨⟨c56, kv57⟩, ho2, h⟩ := bind_some h
    try dsimp only at h
    refine AWP.forS ho2 (fun k258 (c56, kv57) => ⟨[(0, .c (.own 1 0 c56.length)), (1, .c (.fn 63 [])), (5, .c (int kv57)), (6, .c (.own 1 ((0 + kv54).toNat) (((l.length : Int) - kv54).toNat))), (7, .c (int k258))], [.dead, .one (vec 1 eLi64 c56)]⟩) (fun (c56, kv57) e st => e = .exit 2 ∧ Sub (slices_CompactFunc_int_int_w_s0 l) st ⟨[(0, .c (.own 1 0 c56.length)), (5, .c (int kv57))], [.dead, .one (vec 1 eLi64 c56)]⟩) ?_ ?_ ?_ ?_
    ·try dsimp only
     exact Sub.env ⟨rfl, rfl, rfl, rfl, rfl, trivial⟩
    ·intro k258 s hlok258 hltk258 _
     obtain ⟨c56, kv57⟩ := s
     try dsimp only
     refine AWP.seq (.seq (.region (.move rfl rfl (.move rfl rfl (S.lenV (vw_get (vw_cut (vw_full l) hu31)).2.1 rfl rfl rfl (fun hl34 => .lss rfl rfl rfl (.nil (thn_normal (.condNP rfl hltk258 (.exit (thn_exit (thn_exit ⟨rfl, ?_⟩))))))))))))
     exact Sub.env ⟨rfl, rfl, trivial⟩
    ·intro k258 s o hlok258 hltk258 h
     obtain ⟨c56, kv57⟩ := s
     unfold slices_CompactFunc_int_int_w_l2 at h
     try dsimp only at h ⊢
     refine AWP.seq (.seq (.region (.move rfl rfl (.move rfl rfl (S.lenV (vw_get (vw_cut (vw_full l) hu31)).2.1 rfl rfl rfl (fun hl34 => .lss rfl rfl rfl (.nil (thn_normal (.condP rfl hltk258 (.skip (thn_normal ?_)))))))))))
     obtain ⟨⟨c59, kv60⟩, hx61, h⟩ := bind_some h
     refine AWP.seqJ (⟨[(0, .c (.own 1 0 c59.length)), (1, .c (.fn 63 [])), (5, .c (int kv60)), (6, .c (.own 1 ((0 + kv54).toNat) (((l.length : Int) - kv54).toNat))), (7, .c (int k258))], [.dead, .one (vec 1 eLi64 c59)]⟩) ?_ ?_
     ·refine AWP.block (.seq ?_)
      obtain ⟨a41, ha41, hx61⟩ := bind_some hx61
      obtain ⟨a46, ha46, hx61⟩ := bind_some hx61
      obtain ⟨a48, ha48, hx61⟩ := bind_some hx61
      refine AWP.drawI mixed rfl ?_
      apply DrawSeq.consF; exact rfl; intro E
      refine AOps.move rfl rfl (.nil ⟨rfl, rfl⟩)
      exact rfl
      apply DrawSeq.consF; exact rfl; intro E
      refine AOps.move rfl rfl (.nil ⟨rfl, rfl⟩)
      exact rfl
      apply DrawSeq.consF; exact rfl; intro E
      refine AOps.move rfl rfl (.nil ⟨rfl, rfl⟩)
      exact rfl
      apply DrawSeq.consF; exact rfl; intro E
      refine S.idxV ha41 rfl rfl rfl rfl (.nil ⟨rfl, rfl⟩)
      exact rfl
      apply DrawSeq.consF; exact rfl; intro E
      refine S.loadO (ixV_ix ha41) rfl rfl rfl rfl rfl (.nil ⟨rfl, rfl⟩)
      exact rfl
      apply DrawSeq.consF; exact rfl; intro E
      refine AOps.move rfl rfl (.nil ⟨rfl, rfl⟩)
      exact rfl
      apply DrawSeq.consF; exact rfl; intro E
      refine AOps.move rfl rfl (.nil ⟨rfl, rfl⟩)
      exact rfl
      apply DrawSeq.consF; exact rfl; intro E
      refine AOps.sub' rfl rfl rfl (by omega) (.nil ⟨rfl, rfl⟩)
      exact rfl
      apply DrawSeq.consF; exact rfl; intro E
      refine S.idxV ha46 rfl rfl rfl rfl (.nil ⟨rfl, rfl⟩)
      exact rfl
      apply DrawSeq.consF; exact rfl; intro E
      refine S.loadO (ixV_ix ha46) rfl rfl rfl rfl rfl (.nil ⟨rfl, rfl⟩)
      exact rfl
      apply DrawSeq.consF; exact rfl; intro E
      refine AOps.callR rfl rfl rfl rfl (slices_Equal_int_int_ok ha48) rfl (.nil ⟨rfl, rfl⟩)
      exact rfl
      apply DrawSeq.consF; exact rfl; intro E
      refine AOps.not rfl rfl (.nil ⟨rfl, rfl⟩)
      exact rfl
      refine DrawSeq.done ?_
      dsimp only [envEnd]
      refine thn_normal (.iteB rfl hx61 (fun hc62 hx61 => ?_) (fun hc62 hx61 => ?_))
      ·refine AWP.seq ?_
       obtain ⟨a54, ha54, hx61⟩ := bind_some hx61
       obtain ⟨a56, ha56, hx61⟩ := bind_some hx61
       refine AWP.region (.move rfl rfl (.move rfl rfl (.move rfl rfl (.move rfl rfl (S.idxV ha54 rfl rfl rfl rfl (S.loadO (ixV_ix ha54) rfl rfl rfl rfl rfl (S.idxO ha56 rfl rfl rfl rfl rfl (S.storeO1 (f := eLi64) (a' := a54) (ix_lt ha56) (fun _ => ⟨_, rfl⟩) rfl rfl rfl rfl rfl ?_))))))))
       refine AOps.nil (thn_normal (.region (.move rfl rfl (S.add rfl rfl rfl (.assign rfl rfl (.nil (inB_normal ?_)))))))
       have ej := Option.some.inj hx61
       simp only [Prod.mk.injEq] at ej
       obtain ⟨ej0, ej1⟩ := ej
       subst ej0
       subst ej1
       refine thn_normal (Sub.env ⟨(own_len (by first | rfl | simp only [List.length_set])), rfl, rfl, rfl, rfl, trivial⟩)
      ·refine AWP.skip (inB_normal ?_)
       have ej := Option.some.inj hx61
       simp only [Prod.mk.injEq] at ej
       obtain ⟨ej0, ej1⟩ := ej
       subst ej0
       subst ej1
       refine thn_normal (Sub.env ⟨rfl, rfl, rfl, rfl, rfl, trivial⟩)
     ·try dsimp only at h
      refine AWP.region (.move rfl rfl (.add rfl rfl rfl (by omega) (.assign rfl rfl (.nil ?_))))
      have ej := Option.some.inj h
      subst ej
      refine thn_normal (Sub.env ⟨rfl, rfl, rfl, rfl, rfl, trivial⟩)
    ·intro e s hq
     obtain ⟨rfl, hs⟩ := hq
     refine ⟨_, hs, ?_⟩
     refine inB_exit (thn_normal (.seq ?_))
     obtain ⟨u61, hu61, h⟩ := bind_some h
     refine AWP.region (.move rfl rfl (.move rfl rfl (S.vFrom (vw_full c56) hu61 rfl rfl rfl rfl rfl rfl (S.clear (a0 := []) rfl rfl rfl (fun _ _ _ _ => .imm .slNil) (vw_cut (vw_full c56) hu61) rfl rfl rfl rfl rfl ?_))))
     refine AOps.nil (thn_normal (.seq ?_))
     obtain ⟨u64, hu64, h⟩ := bind_some h
     refine AWP.region (.move rfl rfl (.move rfl rfl ?_))
     refine S.vTo (vw_full (clrL c56 (0 + kv57) ((c56.length : Int) - kv57) [])) hu64 rfl rfl (by rw [Int.toNat_natCast]; exact (clrL_len (vw_cut (vw_full c56) hu61)).symm) rfl rfl rfl ?_
     refine AOps.assign rfl rfl (.nil (thn_normal (.reown (env' := [(4, .c (.own 2 0 ((viewL (clrL c56 (0 + kv57) ((c56.length : Int) - kv57) []) 0 kv57).length)))]) 4 (vw_to (vw_full (clrL c56 (0 + kv57) ((c56.length : Int) - kv57) [])) hu64) rfl rfl rfl rfl rfl rfl rfl rfl (by exact ⟨.inl ⟨rfl, rfl⟩, trivial⟩) (.ret (inB_ret (thn_ret ?_))))))
     have ej := Option.some.inj h
     subst ej
     refine thn_ret ⟨_, rfl, rfl, ?_⟩
     exact ⟨⟨[(4, .c (.own 1 0 ((viewL (clrL c56 (0 + kv57) ((c56.length : Int) - kv57) []) 0 kv57).length)))], [.dead, .one (vec 1 eLi64 (viewL (clrL c56 (0 + kv57) ((c56.length : Int) - kv57) []) 0 kv57))]⟩, (Sub.move (env' := [(4, .c (.own 1 0 ((viewL (clrL c56 (0 + kv57) ((c56.length : Int) - kv57) []) 0 kv57).length)))]) (σ' := [.dead, .one (vec 1 eLi64 (viewL (clrL c56 (0 + kv57) ((c56.length : Int) - kv57) []) 0 kv57))]) 1 2 rfl rfl rfl ⟨rfl, trivial⟩ rfl ⟨trivial, ⟨Blk.im_ok _ _ _, vec_mv rfl⟩, trivial⟩).trans (Sub.env ⟨rfl, trivial⟩), Done.ret rfl ⟨rfl, rfl⟩⟩
   ·refine AWP.skip (inB_normal (thn_normal (.region (.move rfl rfl (.add rfl rfl rfl (by omega) (.assign rfl rfl (.nil ?_)))))))
    have ej := Option.some.inj h
    subst ej
    refine thn_normal ⟨_, rfl, ?_⟩
    exact Sub.env ⟨rfl, rfl, rfl, trivial⟩
  ·intro e s hq
   rcases oo with u | x
   ·try dsimp only at h hq
    obtain ⟨rfl, hs⟩ := hq
    refine ⟨_, hs, ?_⟩
    refine inB_exit (thn_normal (.seq (.region (.move rfl rfl (.assign rfl rfl (.nil (thn_normal (.ret ?_))))))))
    have ej := Option.some.inj h
    subst ej
    exact ⟨⟨[(4, .c (.own 1 0 l.length))], [.dead, .one (vec 1 eLi64 l)]⟩, Sub.env ⟨rfl, trivial⟩, Done.ret rfl ⟨rfl, rfl⟩⟩
   ·try dsimp only at h hq
    obtain ⟨rfl, hs⟩ := hq
    refine ⟨_, Sub.refl _ _, ?_⟩
    refine inB_ret (thn_ret ?_)
    have ej := Option.some.inj h
    subst ej
    exact hs
theorem belief_Normal_w_ok {l : List (List Int)} {r : (List (List Int))} (h : belief_Normal_w l = some r) : FnOk Try.prog 51 [.c (.own 0 0 l.length)] (belief_Normal_w_s0 l) (fun tt ss => tt = .c (.own 2 0 r.length) ∧ ss = [.dead, .dead, .one (vec 1 eLi64 r)]) := by
 refine FnOk.enter (rs := [.t 2]) Try.func51 rfl Try.ntmps51 Try.results51 rfl ⟨trivial, trivial⟩ (by kernel_rfl) rfl ?_
 refine AWP.weak ?_
 unfold belief_Normal_w at h
 refine AWP.move (env' := [(0, .c (.own 1 0 l.length))]) (σ' := [.dead, .one (vec 1 eLi64 l)]) 1 0 rfl rfl rfl ⟨rfl, trivial⟩ rfl ⟨trivial, ⟨Blk.im_ok _ _ _, vec_mv rfl⟩, trivial⟩ (.seq (.region (.assign rfl rfl (.nil (thn_normal (.seq ?_))))))
 obtain ⟨a4, ha4, h⟩ := bind_some h
 refine AWP.region (.move rfl rfl (S.sortF (fun x => .sl 1 (List.map intI x)) ha4 rfl (fun hy => slices_Compare_int_int_ok hy) sortF_LLi64_ok (⟨_, Try.func30, rfl, rfl⟩) rfl rfl rfl rfl rfl rfl ?_))
 refine AOps.nil (thn_normal (.seq ?_))
 obtain ⟨a6, ha6, h⟩ := bind_some h
 refine AWP.region (.move rfl rfl ?_)
 refine AOps.callF (r2 := .c (.own 2 0 a6.length)) (σ'' := [.dead, .dead, .one (vec 1 eLi64 a6)]) rfl rfl rfl (FnOk.lend [1] (slices_CompactFunc_int_int_w_ok ha6) rfl rfl rfl rfl rfl rfl (by exact ⟨.vec, trivial⟩) (by rw [(sortFL_len ha4)] <;> rfl) (by exact ⟨(.live rfl .vec), trivial⟩) rfl rfl (by exact ⟨.dead, .dead, (.new 1 rfl rfl .vec), trivial⟩)) ?_
 refine AOps.assign rfl rfl (.nil (thn_normal (.ret ?_)))
 have ej := Option.some.inj h
 subst ej
 exact ⟨⟨[(2, .c (.own 2 0 a6.length))], [.dead, .dead, .one (vec 1 eLi64 a6)]⟩, Sub.env ⟨rfl, trivial⟩, Done.ret rfl ⟨rfl, rfl⟩⟩
theorem open_Results_ok {ov : TOpenTask} {sv : List Int} {op : Int} {r : (List (List Int)) × (List Int)} (h : open_Results ov sv op = some r) : PureOk Try.prog 37 [.agg [int ov.facts, row 1 intI ov.init, row 1 intI ov.goal, row 3 eTOpenOperator ov.operators], .c (row 1 intI sv), .c (int op)] (.tup [.c (row 1 eLi64 r.1), .c (row 1 intI r.2)]) := by
 unfold PureOk
 refine FnOk.enter (rs := [.t 6, .t 7]) Try.func37 rfl Try.ntmps37 Try.results37 rfl ⟨trivial, trivial, trivial⟩ (by kernel_rfl) rfl ?_
 unfold open_Results at h
 refine AWP.seq (.region (W.box rfl rfl rfl rfl rfl rfl (.assign rfl rfl (.assign rfl rfl (.nil (thn_normal (.seq (.region (.assign rfl rfl (.nil (thn_normal (.seq (.seq ?_)))))))))))))
 obtain ⟨a20, ha20, h⟩ := bind_some h
 refine AWP.region (W.fieldAddr rfl rfl rfl rfl (.load rfl rfl rfl rfl rfl rfl (.move rfl rfl (S.idx ha20 rfl rfl rfl rfl (W.fieldAddrI rfl rfl rfl rfl (.loadI rfl rfl rfl rfl (S.len rfl rfl (fun hl23 => .move rfl rfl (.nil (thn_normal (.block (.virtV 1 eLi64 8 rfl rfl rfl ?_))))))))))))
 obtain ⟨c4, ho1, h⟩ := bind_some h
 refine AWP.forS ho1 (fun t5 c4 => ⟨[(1, .c (row 1 intI sv)), (2, .c (int op)), (3, .c (.ptr 0 0 0)), (8, .c (.own 1 0 c4.length)), (22, .c (row 3 eTOutcome a20.outcomes)), (23, .c (int (a20.outcomes.length : Int))), (24, .c (int t5))], [.one (.cells 4 [[int ov.facts, row 1 intI ov.init, row 1 intI ov.goal, row 3 eTOpenOperator ov.operators]]), .one (vec 1 eLi64 c4)]⟩) (fun c4 e st => e = .exit 0 ∧ Sub [] st ⟨[(2, .c (int op)), (3, .c (.ptr 0 0 0)), (8, .c (.own 1 0 c4.length))], [.one (.cells 4 [[int ov.facts, row 1 intI ov.init, row 1 intI ov.goal, row 3 eTOpenOperator ov.operators]]), .one (vec 1 eLi64 c4)]⟩) ?_ ?_ ?_ ?_
 ·try dsimp only
  exact Sub.env ⟨rfl, rfl, rfl, (own_len (by first | rfl | simp only [List.length_set])), rfl, rfl, rfl, trivial⟩
 ·intro t5 c4 hlot5 hltt5 _
  try dsimp only
  refine AWP.seq (.region (.lss rfl rfl rfl (.nil (thn_normal (.seq (.condNP rfl hltt5 (.exit (thn_exit (thn_exit ⟨rfl, ?_⟩)))))))))
  exact Sub.env ⟨rfl, rfl, rfl, trivial⟩
 ·intro t5 c4 o hlot5 hltt5 h
  unfold open_Results_l1 at h
  try dsimp only at h ⊢
  refine AWP.seq (.region (.lss rfl rfl rfl (.nil (thn_normal (.seq (.condP rfl hltt5 (.skip (thn_normal (.seq (.block (.seq ?_)))))))))))
  obtain ⟨a26, ha26, h⟩ := bind_some h
  refine AWP.region (S.idx ha26 rfl rfl rfl rfl (W.loadIAgg rfl rfl rfl rfl rfl (W.alloc rfl rfl rfl rfl (W.storeAgg rfl rfl rfl rfl rfl rfl rfl (.nil (thn_normal ?_))))))
  obtain ⟨a34, ha34, h⟩ := bind_some h
  obtain ⟨a36, ha36, h⟩ := bind_some h
  refine AWP.region (.move rfl rfl (.move rfl rfl (W.fieldAddr rfl rfl rfl rfl (.load rfl rfl rfl rfl rfl rfl (W.fieldAddr rfl rfl rfl rfl (.load rfl rfl rfl rfl rfl rfl (S.fresh rfl rfl rfl rfl (strips_Update_ok ha34) rfl rfl (.frzV (id := 3) (l := a34) (env2 := [(1, .c (row 1 intI sv)), (2, .c (int op)), (3, .c (.ptr 0 0 0)), (22, .c (row 3 eTOutcome a20.outcomes)), (23, .c (int (a20.outcomes.length : Int))), (24, .c (int t5)), (28, .c (.own 1 0 c4.length)), (34, .c (row 1 intI a34))]) (σ2 := [.one (.cells 4 [[int ov.facts, row 1 intI ov.init, row 1 intI ov.goal, row 3 eTOpenOperator ov.operators]]), .one (vec 1 eLi64 c4), .one (.cells 3 [[row 1 intI a26.add, row 1 intI a26.del, int a26.weight]]), .dead]) rfl rfl (by exact ⟨⟨_, rfl, .inl ⟨rfl, rfl⟩⟩, ⟨_, rfl, .inl ⟨rfl, rfl⟩⟩, ⟨_, rfl, .inl ⟨rfl, rfl⟩⟩, ⟨_, rfl, .inl ⟨rfl, rfl⟩⟩, ⟨_, rfl, .inl ⟨rfl, rfl⟩⟩, ⟨_, rfl, .inl ⟨rfl, rfl⟩⟩, ⟨_, rfl, .inl ⟨rfl, rfl⟩⟩, ⟨_, rfl, .inr ⟨_, rfl, rfl, rfl⟩⟩, trivial⟩) rfl (by exact ⟨⟨rfl, .inl ⟨rfl, rfl⟩, .inl ⟨rfl, rfl⟩, .inl ⟨rfl, rfl⟩, .inl ⟨rfl, rfl⟩, trivial⟩, FrzB.vec, ⟨rfl, .inl ⟨rfl, rfl⟩, .inl ⟨rfl, rfl⟩, .inl ⟨rfl, rfl⟩, trivial⟩, trivial, trivial⟩) (S.lit (f := eLi64) (l := [a34]) (ess := [[row 1 intI a34]]) rfl rfl rfl rfl rfl rfl rfl ⟨⟨.inl rfl, trivial⟩, trivial⟩ rfl rfl rfl (S.append (f := eLi64) ha36 rfl rfl rfl rfl rfl rfl (.own rfl rfl) rfl rfl rfl rfl (.assign rfl rfl (.nil (inB_normal (thn_normal (.move (env' := [(1, .c (row 1 intI sv)), (2, .c (int op)), (3, .c (.ptr 0 0 0)), (8, .c (.own 1 0 a36.length)), (22, .c (row 3 eTOutcome a20.outcomes)), (23, .c (int (a20.outcomes.length : Int))), (24, .c (int t5))]) (σ' := [.one (.cells 4 [[int ov.facts, row 1 intI ov.init, row 1 intI ov.goal, row 3 eTOpenOperator ov.operators]]), .one (vec 1 eLi64 a36), .one (.cells 3 [[row 1 intI a26.add, row 1 intI a26.del, int a26.weight]]), .dead, .one (vec 1 eLi64 [a34])]) 1 5 rfl rfl rfl ⟨rfl, rfl, rfl, rfl, rfl, rfl, rfl, trivial⟩ rfl ⟨⟨rfl, rfl⟩, ⟨Blk.im_ok _ _ _, vec_mv rfl⟩, ⟨rfl, rfl⟩, trivial, ⟨Blk.im_ok _ _ _, vec_mv rfl⟩, trivial⟩ (.region (.add rfl rfl rfl (by omega) (.move rfl rfl (.nil ?_)))))))))))))))))))
  have ej := Option.some.inj h
  subst ej
  refine thn_normal (Sub.cut ⟨rfl, rfl, rfl, rfl, rfl, rfl, rfl, trivial⟩ rfl ⟨.one rfl, .vec, trivial⟩ rfl)
 ·intro e s hq
  obtain ⟨rfl, hs⟩ := hq
  refine ⟨_, hs, ?_⟩
  refine inB_exit (thn_normal (.seq ?_))
  obtain ⟨a39, ha39, h⟩ := bind_some h
  obtain ⟨a40, ha40, h⟩ := bind_some h
  refine AWP.region (.move rfl rfl (.frzV (id := 1) (l := c4) (env2 := [(2, .c (int op)), (3, .c (.ptr 0 0 0)), (8, .c (row 1 eLi64 c4)), (38, .c (row 1 eLi64 c4))]) (σ2 := [.one (.cells 4 [[int ov.facts, row 1 intI ov.init, row 1 intI ov.goal, row 3 eTOpenOperator ov.operators]]), .dead]) rfl rfl (by exact ⟨⟨_, rfl, .inl ⟨rfl, rfl⟩⟩, ⟨_, rfl, .inl ⟨rfl, rfl⟩⟩, ⟨_, rfl, .inr ⟨_, rfl, rfl, rfl⟩⟩, ⟨_, rfl, .inr ⟨_, rfl, rfl, rfl⟩⟩, trivial⟩) rfl (by exact ⟨⟨rfl, .inl ⟨rfl, rfl⟩, .inl ⟨rfl, rfl⟩, .inl ⟨rfl, rfl⟩, .inl ⟨rfl, rfl⟩, trivial⟩, trivial, trivial⟩) (S.fresh rfl rfl rfl rfl (slices_Clone_Lint_int_ok ha39) rfl rfl (.callF (r2 := .c (.own 4 0 a40.length)) (σ'' := [.one (.cells 4 [[int ov.facts, row 1 intI ov.init, row 1 intI ov.goal, row 3 eTOpenOperator ov.operators]]), .dead, .dead, .dead, .one (vec 1 eLi64 a40)]) rfl rfl rfl (FnOk.lend [2] (belief_Normal_w_ok ha40) rfl rfl rfl rfl rfl rfl (by exact ⟨.vec, trivial⟩) rfl (by exact ⟨(.live rfl .vec), trivial⟩) rfl rfl (by exact ⟨(.old rfl rfl rfl), .dead, .dead, .dead, (.new 2 rfl rfl .vec), trivial⟩)) (.assign rfl rfl (.nil (thn_normal (.seq ?_))))))))
  obtain ⟨a43, ha43, h⟩ := bind_some h
  refine AWP.region (.move rfl rfl (S.lenO rfl rfl rfl (fun hl42 => S.make (f := intI) ha43 (.val .nil) rfl rfl rfl rfl rfl rfl (.assign rfl rfl (.nil (thn_normal (.seq (.seq ?_))))))))
  obtain ⟨a47, ha47, h⟩ := bind_some h
  refine AWP.region (W.fieldAddr rfl rfl rfl rfl (.load rfl rfl rfl rfl rfl rfl (.move rfl rfl (S.idx ha47 rfl rfl rfl rfl (W.fieldAddrI rfl rfl rfl rfl (.loadI rfl rfl rfl rfl (S.len rfl rfl (fun hl50 => .move rfl rfl (.nil (thn_normal (.block ?_)))))))))))
  obtain ⟨c6, ho2, h⟩ := bind_some h
  refine AWP.forS ho2 (fun t7 c6 => ⟨[(8, .c (row 1 eLi64 c4)), (11, .c (.own 4 0 a40.length)), (12, .c (.own 5 0 c6.length)), (49, .c (row 3 eTOutcome a47.outcomes)), (50, .c (int (a47.outcomes.length : Int))), (51, .c (int t7))], [.dead, .dead, .dead, .dead, .one (vec 1 eLi64 a40), .one (vec 1 intI c6)]⟩) (fun c6 e st => e = .exit 2 ∧ Sub [] st ⟨[(11, .c (.own 4 0 a40.length)), (12, .c (.own 5 0 c6.length))], [.dead, .dead, .dead, .dead, .one (vec 1 eLi64 a40), .one (vec 1 intI c6)]⟩) ?_ ?_ ?_ ?_
  ·try dsimp only
   exact Sub.cut ⟨rfl, rfl, rfl, rfl, rfl, rfl, trivial⟩ rfl ⟨.dead, .dead, .dead, .dead, .vec, .vec, trivial⟩ rfl
  ·intro t7 c6 hlot7 hltt7 _
   try dsimp only
   refine AWP.seq (.region (.lss rfl rfl rfl (.nil (thn_normal (.seq (.condNP rfl hltt7 (.exit (thn_exit (thn_exit ⟨rfl, ?_⟩)))))))))
   exact Sub.env ⟨rfl, rfl, trivial⟩
  ·intro t7 c6 o hlot7 hltt7 h
   unfold open_Results_l2 at h
   try dsimp only at h ⊢
   refine AWP.seq (.region (.lss rfl rfl rfl (.nil (thn_normal (.seq (.condP rfl hltt7 (.skip (thn_normal (.seq (.block (.seq ?_)))))))))))
   obtain ⟨a54, ha54, h⟩ := bind_some h
   refine AWP.region (.move rfl rfl (S.idx ha54 rfl rfl rfl rfl (W.loadIAgg rfl rfl rfl rfl rfl (W.alloc rfl rfl rfl rfl (.assign rfl rfl (W.storeAgg rfl rfl rfl rfl rfl rfl rfl (.nil (thn_normal (.seq ?_)))))))))
   obtain ⟨a60, ha60, h⟩ := bind_some h
   obtain ⟨a62, ha62, h⟩ := bind_some h
   refine AWP.region (.move rfl rfl (.move rfl rfl (.move rfl rfl (S.idx ha60 rfl rfl rfl rfl (.loadI rfl rfl rfl rfl (.callL rfl rfl (.cons (.c (.own rfl rfl)) (.cons (.c .imm) (.cons (.c (.fn .nil)) .nil))) rfl (slices_BinarySearchFunc_int_int_int_ok rfl (fun hy => slices_Compare_int_int_ok hy) ha62) rfl ?_))))))
   refine AOps.move rfl rfl (.extract rfl rfl rfl (.extract rfl rfl rfl (.assign rfl rfl (.assign rfl rfl (.nil (thn_normal ?_))))))
   obtain ⟨a67, ha67, h⟩ := bind_some h
   obtain ⟨a72, ha72, h⟩ := bind_some h
   refine AWP.drawEI [8] mixed rfl rfl rfl ?_
   apply DrawSeqE.consN; exact rfl; exact rfl; intro E
   refine AOps.move rfl rfl (.nil ⟨rfl, rfl⟩)
   exact rfl
   apply DrawSeqE.consN; exact rfl; exact rfl; intro E
   refine AOps.move rfl rfl (.nil ⟨rfl, rfl⟩)
   exact rfl
   apply DrawSeqE.consN; exact rfl; exact rfl; intro E
   refine S.idxO ha67 rfl rfl rfl rfl rfl (.nil ⟨rfl, rfl⟩)
   exact rfl
   apply DrawSeqE.consN; exact rfl; exact rfl; intro E
   refine S.loadO ha67 rfl rfl rfl rfl rfl (.nil ⟨rfl, rfl⟩)
   exact rfl
   apply DrawSeqE.consN; exact rfl; exact rfl; intro E
   refine W.fieldAddr rfl rfl rfl rfl (.nil ⟨rfl, rfl⟩)
   exact rfl
   apply DrawSeqE.consN; exact rfl; exact rfl; intro E
   refine AOps.load rfl rfl rfl rfl rfl rfl (.nil ⟨rfl, rfl⟩)
   exact rfl
   apply DrawSeqE.consN; exact rfl; exact rfl; intro E
   refine S.add rfl rfl rfl (.nil ⟨rfl, rfl⟩)
   exact rfl
   apply DrawSeqE.consN; exact rfl; exact rfl; intro E
   refine S.idxO ha72 rfl rfl rfl rfl rfl (.nil ⟨rfl, rfl⟩)
   exact rfl
   apply DrawSeqE.consE (v := .undef); exact rfl; exact rfl; intro E
   refine S.storeO1 (f := intI) (a' := w64 (a67 + a54.weight)) (ix_lt ha72) (fun _ => ⟨_, rfl⟩) rfl rfl rfl rfl rfl ?_
   exact AOps.nil ⟨rfl, rfl⟩
   exact rfl
   exact rfl
   refine DrawSeqE.done rfl ?_ ?_
   ·apply RestI.cons; exact rfl; exact rfl
    first | refine RestK.skip rfl ?_ | (apply RestK.go; exact rfl; exact rfl; intro E; (refine AOps.move rfl rfl ?_); exact AOps.nil ⟨rfl, rfl⟩)
    first | refine RestK.skip rfl ?_ | (apply RestK.go; exact rfl; exact rfl; intro E; (refine AOps.move rfl rfl ?_); exact AOps.nil ⟨rfl, rfl⟩)
    exact RestK.nil
    apply RestI.cons; exact rfl; exact rfl
    first | refine RestK.skip rfl ?_ | (apply RestK.go; exact rfl; exact rfl; intro E; (refine AOps.move rfl rfl ?_); exact AOps.nil ⟨rfl, rfl⟩)
    first | refine RestK.skip rfl ?_ | (apply RestK.go; exact rfl; exact rfl; intro E; (refine AOps.move rfl rfl ?_); exact AOps.nil ⟨rfl, rfl⟩)
    exact RestK.nil
    apply RestI.cons; exact rfl; exact rfl
    first | refine RestK.skip rfl ?_ | (apply RestK.go; exact rfl; exact rfl; intro E; (refine S.idxO ha67 rfl rfl rfl rfl rfl ?_); exact AOps.nil ⟨rfl, rfl⟩)
    first | refine RestK.skip rfl ?_ | (apply RestK.go; exact rfl; exact rfl; intro E; (refine S.idxO ha67 rfl rfl rfl rfl rfl ?_); exact AOps.nil ⟨rfl, rfl⟩)
    exact RestK.nil
    apply RestI.cons; exact rfl; exact rfl
    first | refine RestK.skip rfl ?_ | (apply RestK.go; exact rfl; exact rfl; intro E; (refine S.loadO ha67 rfl rfl rfl rfl rfl ?_); exact AOps.nil ⟨rfl, rfl⟩)
    first | refine RestK.skip rfl ?_ | (apply RestK.go; exact rfl; exact rfl; intro E; (refine S.loadO ha67 rfl rfl rfl rfl rfl ?_); exact AOps.nil ⟨rfl, rfl⟩)
    exact RestK.nil
    apply RestI.cons; exact rfl; exact rfl
    first | refine RestK.skip rfl ?_ | (apply RestK.go; exact rfl; exact rfl; intro E; (refine W.fieldAddr rfl rfl rfl rfl ?_); exact AOps.nil ⟨rfl, rfl⟩)
    first | refine RestK.skip rfl ?_ | (apply RestK.go; exact rfl; exact rfl; intro E; (refine W.fieldAddr rfl rfl rfl rfl ?_); exact AOps.nil ⟨rfl, rfl⟩)
    exact RestK.nil
    apply RestI.cons; exact rfl; exact rfl
    first | refine RestK.skip rfl ?_ | (apply RestK.go; exact rfl; exact rfl; intro E; (refine AOps.load rfl rfl rfl rfl rfl rfl ?_); exact AOps.nil ⟨rfl, rfl⟩)
    first | refine RestK.skip rfl ?_ | (apply RestK.go; exact rfl; exact rfl; intro E; (refine AOps.load rfl rfl rfl rfl rfl rfl ?_); exact AOps.nil ⟨rfl, rfl⟩)
    exact RestK.nil
    apply RestI.cons; exact rfl; exact rfl
    first | refine RestK.skip rfl ?_ | (apply RestK.go; exact rfl; exact rfl; intro E; (refine S.add rfl rfl rfl ?_); exact AOps.nil ⟨rfl, rfl⟩)
    first | refine RestK.skip rfl ?_ | (apply RestK.go; exact rfl; exact rfl; intro E; (refine S.add rfl rfl rfl ?_); exact AOps.nil ⟨rfl, rfl⟩)
    exact RestK.nil
    apply RestI.cons; exact rfl; exact rfl
    first | refine RestK.skip rfl ?_ | (apply RestK.go; exact rfl; exact rfl; intro E; (refine S.idxO ha72 rfl rfl rfl rfl rfl ?_); exact AOps.nil ⟨rfl, rfl⟩)
    first | refine RestK.skip rfl ?_ | (apply RestK.go; exact rfl; exact rfl; intro E; (refine S.idxO ha72 rfl rfl rfl rfl rfl ?_); exact AOps.nil ⟨rfl, rfl⟩)
    exact RestK.nil
    refine RestI.skip rfl (RestI.nil)
   dsimp only [envEnd]
   refine inB_normal (thn_normal (.region (.add rfl rfl rfl (by omega) (.move rfl rfl (.nil ?_)))))
   have ej := Option.some.inj h
   subst ej
   refine thn_normal (Sub.cut ⟨rfl, rfl, (own_len (by first | rfl | simp only [List.length_set])), rfl, rfl, rfl, trivial⟩ rfl ⟨.dead, .dead, .dead, .dead, .vec, .vec, trivial⟩ rfl)
  ·intro e s hq
   obtain ⟨rfl, hs⟩ := hq
   refine ⟨_, hs, ?_⟩
   refine inB_exit (thn_normal (.seq (.region (.move rfl rfl (.move rfl rfl (.assign rfl rfl (.assign rfl rfl (.nil (thn_normal (.frzV (id := 4) (l := a40) (env2 := [(6, .c (row 1 eLi64 a40)), (7, .c (.own 5 0 c6.length))]) (σ2 := [.dead, .dead, .dead, .dead, .dead, .one (vec 1 intI c6)]) rfl rfl (by exact ⟨⟨_, rfl, .inr ⟨_, rfl, rfl, rfl⟩⟩, ⟨_, rfl, .inl ⟨rfl, rfl⟩⟩, trivial⟩) rfl (by exact ⟨trivial, trivial, trivial, trivial, trivial, FrzB.vec, trivial⟩) (.frzV (id := 5) (l := c6) (env2 := [(6, .c (row 1 eLi64 a40)), (7, .c (row 1 intI c6))]) (σ2 := [.dead, .dead, .dead, .dead, .dead, .dead]) rfl rfl (by exact ⟨⟨_, rfl, .inl ⟨rfl, rfl⟩⟩, ⟨_, rfl, .inr ⟨_, rfl, rfl, rfl⟩⟩, trivial⟩) rfl (by exact ⟨trivial, trivial, trivial, trivial, trivial, trivial, trivial⟩) (.ret ?_))))))))))))
   have ej := Option.some.inj h
   subst ej
   exact Done.ret rfl rfl
theorem open_Outcomes_ok {ov : TOpenTask} {sv : List Int} {op : Int} {r : (List (List Int)) × (List Int) × TFault} (h : open_Outcomes ov sv op = some r) : PureOk Try.prog 14 [.agg [int ov.facts, row 1 intI ov.init, row 1 intI ov.goal, row 3 eTOpenOperator ov.operators], .c (row 1 intI sv), .c (int op)] (.tup [.c (row 1 eLi64 r.1), .c (row 1 intI r.2.1), .agg [int r.2.2.code, int r.2.2.index]]) := by
 unfold PureOk
 refine FnOk.enter (rs := [.t 6, .t 7, .cell 8 29 2]) Try.func14 rfl Try.ntmps14 Try.results14 rfl ⟨trivial, trivial, rv _ rfl, trivial⟩ (by kernel_rfl) rfl ?_
 unfold open_Outcomes at h
 refine AWP.seq (.region (W.box rfl rfl rfl rfl rfl rfl (.assign rfl rfl (.assign rfl rfl (W.alloc rfl rfl rfl rfl (.nil (thn_normal (.seq (.seq ?_)))))))))
 obtain ⟨a13, ha13, h⟩ := bind_some h
 refine AWP.region (W.loadAgg rfl rfl rfl rfl rfl rfl rfl (.callR rfl rfl rfl rfl (open_Validate_ok ha13) rfl (W.alloc rfl rfl rfl rfl (W.storeAgg rfl rfl rfl rfl rfl rfl rfl (.nil (thn_normal (.seq (.region (W.loadAgg rfl rfl rfl rfl rfl rfl rfl (W.build rfl rfl rfl rfl (.neqP rfl rfl rfl rfl rfl rfl rfl (.nil (thn_normal (.iteB rfl h (fun hc4 h => ?_) (fun hc4 h => ?_)))))))))))))))
 ·refine AWP.seq (.drawEI [3] mixed rfl rfl rfl ?_)
  apply DrawSeqE.consN; exact rfl; exact rfl; intro E
  refine W.loadAgg rfl rfl rfl rfl rfl rfl rfl (.nil ⟨rfl, rfl⟩)
  exact rfl
  apply DrawSeqE.consN; exact rfl; exact rfl; intro E
  refine AOps.assign rfl rfl (.nil ⟨rfl, rfl⟩)
  exact rfl
  apply DrawSeqE.consN; exact rfl; exact rfl; intro E
  refine AOps.assign rfl rfl (.nil ⟨rfl, rfl⟩)
  exact rfl
  apply DrawSeqE.consE (v := .undef); exact rfl; exact rfl; intro E
  refine W.storeAgg rfl rfl rfl rfl rfl rfl rfl (.nil ⟨rfl, rfl⟩)
  exact rfl
  exact rfl
  refine DrawSeqE.done rfl ?_ ?_
  ·apply RestI.cons; exact rfl; exact rfl
   first | refine RestK.skip rfl ?_ | (apply RestK.go; exact rfl; exact rfl; intro E; (refine W.loadAgg rfl rfl rfl rfl rfl rfl rfl ?_); exact AOps.nil ⟨rfl, rfl⟩)
   first | refine RestK.skip rfl ?_ | (apply RestK.go; exact rfl; exact rfl; intro E; (refine W.loadAgg rfl rfl rfl rfl rfl rfl rfl ?_); exact AOps.nil ⟨rfl, rfl⟩)
   exact RestK.nil
   apply RestI.cons; exact rfl; exact rfl
   first | refine RestK.skip rfl ?_ | (apply RestK.go; exact rfl; exact rfl; intro E; (refine AOps.assign rfl rfl ?_); exact AOps.nil ⟨rfl, rfl⟩)
   first | refine RestK.skip rfl ?_ | (apply RestK.go; exact rfl; exact rfl; intro E; (refine AOps.assign rfl rfl ?_); exact AOps.nil ⟨rfl, rfl⟩)
   exact RestK.nil
   apply RestI.cons; exact rfl; exact rfl
   first | refine RestK.skip rfl ?_ | (apply RestK.go; exact rfl; exact rfl; intro E; (refine AOps.assign rfl rfl ?_); exact AOps.nil ⟨rfl, rfl⟩)
   first | refine RestK.skip rfl ?_ | (apply RestK.go; exact rfl; exact rfl; intro E; (refine AOps.assign rfl rfl ?_); exact AOps.nil ⟨rfl, rfl⟩)
   exact RestK.nil
   refine RestI.skip rfl (RestI.nil)
  dsimp only [envEnd]
  refine thn_normal (.nilrow 1 6 rfl (.nilrow 1 7 rfl (.ret (thn_ret ?_))))
  have ej := Option.some.inj h
  subst ej
  exact Done.ret rfl rfl
 ·refine AWP.skip (thn_normal (.seq (.block (.seq ?_))))
  obtain ⟨a22, ha22, h⟩ := bind_some h
  refine AWP.region (.move rfl rfl (W.fieldAddr rfl rfl rfl rfl (.load rfl rfl rfl rfl rfl rfl (.callR rfl rfl rfl rfl (strips_IsSet_ok ha22) rfl (.not rfl rfl (.assign rfl rfl (.nil (thn_normal (.iteB rfl h (fun hc5 h => ?_) (fun hc5 h => ?_))))))))))
  ·refine AWP.seq (.region (W.build rfl rfl rfl rfl (.assign rfl rfl (.assign rfl rfl (W.storeAgg rfl rfl rfl rfl rfl rfl rfl (.nil (thn_normal (.nilrow 1 6 rfl (.nilrow 1 7 rfl (.ret (inB_ret (thn_ret ?_))))))))))))
   have ej := Option.some.inj h
   subst ej
   exact Done.ret rfl rfl
  ·refine AWP.seqJ (⟨[(1, .c (row 1 intI sv)), (2, .c (int op)), (3, .c (.ptr 0 0 0)), (8, .c (.ptr 1 0 0)), (25, .c (bool ((decide (op < 0)) || (decide ((ov.operators.length : Int) ≤ op)))))], [.one (.cells 4 [[int ov.facts, row 1 intI ov.init, row 1 intI ov.goal, row 3 eTOpenOperator ov.operators]]), .one (.cells 2 [[int 0, int 0]]), .one (.cells 2 [[int a13.code, int a13.index]])]⟩) ?_ ?_
   ·rcases Bool.eq_false_or_eq_true (decide (op < 0)) with hb1 | hb1
    ·refine AWP.region (.move rfl rfl (.lss rfl rfl rfl (.move rfl rfl (.guardF rfl rfl rfl hb1 (.guardF rfl rfl rfl hb1 (.guardF rfl rfl rfl hb1 (.guardF rfl rfl rfl hb1 (.guardF rfl rfl rfl hb1 (.pickT rfl hb1 rfl rfl (.assign rfl rfl (.nil (thn_normal ?_))))))))))))
     simp only [and_t hb1, or_t hb1, Bool.false_or, Bool.true_or, Bool.false_and, Bool.true_and]
     exact Sub.env ⟨rfl, rfl, rfl, rfl, rfl, trivial⟩
    ·refine AWP.region (.move rfl rfl (.lss rfl rfl rfl (.move rfl rfl (.guardT rfl rfl rfl hb1 (.move rfl rfl (.guardT rfl rfl rfl hb1 (W.fieldAddr rfl rfl rfl rfl (.guardT rfl rfl rfl hb1 (.load rfl rfl rfl rfl rfl rfl ?_)))))))))
     refine AOps.guardT rfl rfl rfl hb1 ?_; refine S.len rfl rfl (fun hl32 => ?_)
     refine AOps.guardT rfl rfl rfl hb1 (.geq rfl rfl rfl (.pickF rfl hb1 rfl rfl (.assign rfl rfl (.nil (thn_normal ?_)))))
     simp only [and_f hb1, or_f hb1, Bool.false_or, Bool.true_or, Bool.false_and, Bool.true_and]
     exact Sub.env ⟨rfl, rfl, rfl, rfl, rfl, trivial⟩
   ·refine AWP.iteB rfl h (fun hc6 h => ?_) (fun hc6 h => ?_)
    ·refine AWP.seq (.region (W.build rfl rfl rfl rfl (.assign rfl rfl (.assign rfl rfl (W.storeAgg rfl rfl rfl rfl rfl rfl rfl (.nil (thn_normal (.nilrow 1 6 rfl (.nilrow 1 7 rfl (.ret (inB_ret (thn_ret ?_))))))))))))
     have ej := Option.some.inj h
     subst ej
     exact Done.ret rfl rfl
    ·refine AWP.seq ?_
     obtain ⟨a40, ha40, h⟩ := bind_some h
     refine AWP.region (W.loadAgg rfl rfl rfl rfl rfl rfl rfl (.move rfl rfl (.move rfl rfl (.callR rfl rfl rfl rfl (open_Can_ok ha40) rfl (.not rfl rfl (.assign rfl rfl (.nil (thn_normal (.iteB rfl h (fun hc7 h => ?_) (fun hc7 h => ?_))))))))))
     ·refine AWP.seq (.region (.move rfl rfl (W.build rfl rfl rfl rfl (.assign rfl rfl (.assign rfl rfl (W.storeAgg rfl rfl rfl rfl rfl rfl rfl (.nil (thn_normal (.nilrow 1 6 rfl (.nilrow 1 7 rfl (.ret (inB_ret (thn_ret ?_)))))))))))))
      have ej := Option.some.inj h
      subst ej
      exact Done.ret rfl rfl
     ·refine AWP.skip (inB_normal (thn_normal (.seq ?_)))
      obtain ⟨a48, ha48, h⟩ := bind_some h
      refine AWP.region (W.loadAgg rfl rfl rfl rfl rfl rfl rfl (.move rfl rfl (.move rfl rfl (.callR rfl rfl rfl rfl (open_Results_ok ha48) rfl (.move rfl rfl (.extract rfl rfl rfl (.extract rfl rfl rfl (.assign rfl rfl (.assign rfl rfl (.nil (thn_normal (.seq (.region (.move rfl rfl (.move rfl rfl (W.build rfl rfl rfl rfl (.assign rfl rfl (.assign rfl rfl (W.storeAgg rfl rfl rfl rfl rfl rfl rfl (.nil (thn_normal (.ret ?_))))))))))))))))))))))
      have ej := Option.some.inj h
      subst ej
      exact Done.ret rfl rfl
theorem equal_Numbers_ok {av : List Int} {bv : List Int} {r : Bool} (h : equal_Numbers av bv = some r) : PureOk Try.prog 33 [.c (row 1 intI av), .c (row 1 intI bv)] (.c (bool r)) := by
 unfold PureOk
 refine FnOk.enter (rs := [.t 4]) Try.func33 rfl Try.ntmps33 Try.results33 rfl ⟨trivial, trivial⟩ (by kernel_rfl) rfl ?_
 unfold equal_Numbers at h
 refine AWP.seq (.region (.assign rfl rfl (.nil (thn_normal (.seq (.seq (.region (.move rfl rfl (S.len rfl rfl (fun hl7 => .move rfl rfl (S.len rfl rfl (fun hl9 => .neq rfl rfl rfl (.nil (thn_normal (.iteN rfl h (fun hc3 h => ?_) (fun hc3 h => ?_))))))))))))))))
 ·refine AWP.seq (.region (.assign rfl rfl (.nil (thn_normal (.ret (thn_ret ?_))))))
  have ej := Option.some.inj h
  subst ej
  exact Done.ret rfl rfl
 ·refine AWP.skip (thn_normal (.seq (.seq (.region (.assign rfl rfl (.nil (thn_normal (.block ?_))))))))
  obtain ⟨oo, ho1, h⟩ := bind_some h
  refine AWP.rngS ho1 (fun iv4 _ => ⟨[(0, .c (row 1 intI av)), (1, .c (row 1 intI bv)), (5, .c (int iv4))], []⟩) (fun o e st => match o with | .inl _ => e = .exit 0 ∧ Sub [] st ⟨[], []⟩ | .inr x => e = .ret ∧ Done [.t 4] (fun t _ => t = .c (bool x)) .ret st) ?_ ?_ ?_ ?_
  ·try dsimp only
   exact Sub.env ⟨rfl, rfl, rfl, trivial⟩
  ·intro iv4 s hloiv4 hltiv4 _
   try dsimp only
   refine AWP.seq (.seq (.region (.move rfl rfl (.move rfl rfl (S.len rfl rfl (fun hl13 => .lss rfl rfl rfl (.nil (thn_normal (.condNP rfl hltiv4 (.exit (thn_exit (thn_exit ⟨rfl, ?_⟩))))))))))))
   exact Sub.env trivial
  ·intro iv4 s o hloiv4 hltiv4 h
   unfold equal_Numbers_l1 at h
   try dsimp only at h ⊢
   refine AWP.seq (.seq (.region (.move rfl rfl (.move rfl rfl (S.len rfl rfl (fun hl13 => .lss rfl rfl rfl (.nil (thn_normal (.condP rfl hltiv4 (.skip (thn_normal (.seq (.block (.seq ?_))))))))))))))
   obtain ⟨a19, ha19, h⟩ := bind_some h
   obtain ⟨a23, ha23, h⟩ := bind_some h
   refine AWP.drawI mixed rfl ?_
   apply DrawSeq.consF; exact rfl; intro E
   refine AOps.move rfl rfl (.nil ⟨rfl, rfl⟩)
   exact rfl
   apply DrawSeq.consF; exact rfl; intro E
   refine AOps.move rfl rfl (.nil ⟨rfl, rfl⟩)
   exact rfl
   apply DrawSeq.consF; exact rfl; intro E
   refine S.idx ha19 rfl rfl rfl rfl (.nil ⟨rfl, rfl⟩)
   exact rfl
   apply DrawSeq.consF; exact rfl; intro E
   refine AOps.loadI rfl rfl rfl rfl (.nil ⟨rfl, rfl⟩)
   exact rfl
   apply DrawSeq.consF; exact rfl; intro E
   refine AOps.move rfl rfl (.nil ⟨rfl, rfl⟩)
   exact rfl
   apply DrawSeq.consF; exact rfl; intro E
   refine AOps.move rfl rfl (.nil ⟨rfl, rfl⟩)
   exact rfl
   apply DrawSeq.consF; exact rfl; intro E
   refine S.idx ha23 rfl rfl rfl rfl (.nil ⟨rfl, rfl⟩)
   exact rfl
   apply DrawSeq.consF; exact rfl; intro E
   refine AOps.loadI rfl rfl rfl rfl (.nil ⟨rfl, rfl⟩)
   exact rfl
   apply DrawSeq.consF; exact rfl; intro E
   refine AOps.neq rfl rfl rfl (.nil ⟨rfl, rfl⟩)
   exact rfl
   refine DrawSeq.done ?_
   dsimp only [envEnd]
   refine thn_normal (.iteN rfl h (fun hc5 h => ?_) (fun hc5 h => ?_))
   ·refine AWP.seq (.region (.assign rfl rfl (.nil (thn_normal (.ret (inB_ret (thn_ret ?_)))))))
    have ej := Option.some.inj h
    subst ej
    refine thn_ret ⟨_, rfl, rfl, ?_⟩
    exact Done.ret rfl rfl
   ·refine AWP.skip (inB_normal (thn_normal (.region (.move rfl rfl (.add rfl rfl rfl (by omega) (.assign rfl rfl (.nil ?_)))))))
    have ej := Option.some.inj h
    subst ej
    refine thn_normal ⟨_, rfl, ?_⟩
    exact Sub.env ⟨rfl, rfl, rfl, trivial⟩
  ·intro e s hq
   rcases oo with u | x
   ·try dsimp only at h hq
    obtain ⟨rfl, hs⟩ := hq
    refine ⟨_, hs, ?_⟩
    refine inB_exit (thn_normal (.seq (.region (.assign rfl rfl (.nil (thn_normal (.ret ?_)))))))
    have ej := Option.some.inj h
    subst ej
    exact Done.ret rfl rfl
   ·try dsimp only at h hq
    obtain ⟨rfl, hs⟩ := hq
    refine ⟨_, Sub.refl _ _, ?_⟩
    refine inB_ret (thn_ret ?_)
    have ej := Option.some.inj h
    subst ej
    exact hs
theorem equal_Sets_ok {av : List (List Int)} {bv : List (List Int)} {r : Bool} (h : equal_Sets av bv = some r) : PureOk Try.prog 11 [.c (row 1 eLi64 av), .c (row 1 eLi64 bv)] (.c (bool r)) := by
 unfold PureOk
 refine FnOk.enter (rs := [.t 4]) Try.func11 rfl Try.ntmps11 Try.results11 rfl ⟨trivial, trivial⟩ (by kernel_rfl) rfl ?_
 unfold equal_Sets at h
 refine AWP.seq (.region (.assign rfl rfl (.nil (thn_normal (.seq (.seq (.region (.move rfl rfl (S.len rfl rfl (fun hl7 => .move rfl rfl (S.len rfl rfl (fun hl9 => .neq rfl rfl rfl (.nil (thn_normal (.iteN rfl h (fun hc3 h => ?_) (fun hc3 h => ?_))))))))))))))))
 ·refine AWP.seq (.region (.assign rfl rfl (.nil (thn_normal (.ret (thn_ret ?_))))))
  have ej := Option.some.inj h
  subst ej
  exact Done.ret rfl rfl
 ·refine AWP.skip (thn_normal (.seq (.seq (.region (.assign rfl rfl (.nil (thn_normal (.block ?_))))))))
  obtain ⟨oo, ho1, h⟩ := bind_some h
  refine AWP.rngS ho1 (fun iv4 _ => ⟨[(0, .c (row 1 eLi64 av)), (1, .c (row 1 eLi64 bv)), (5, .c (int iv4))], []⟩) (fun o e st => match o with | .inl _ => e = .exit 0 ∧ Sub [] st ⟨[], []⟩ | .inr x => e = .ret ∧ Done [.t 4] (fun t _ => t = .c (bool x)) .ret st) ?_ ?_ ?_ ?_
  ·try dsimp only
   exact Sub.env ⟨rfl, rfl, rfl, trivial⟩
  ·intro iv4 s hloiv4 hltiv4 _
   try dsimp only
   refine AWP.seq (.seq (.region (.move rfl rfl (.move rfl rfl (S.len rfl rfl (fun hl13 => .lss rfl rfl rfl (.nil (thn_normal (.condNP rfl hltiv4 (.exit (thn_exit (thn_exit ⟨rfl, ?_⟩))))))))))))
   exact Sub.env trivial
  ·intro iv4 s o hloiv4 hltiv4 h
   unfold equal_Sets_l1 at h
   try dsimp only at h ⊢
   refine AWP.seq (.seq (.region (.move rfl rfl (.move rfl rfl (S.len rfl rfl (fun hl13 => .lss rfl rfl rfl (.nil (thn_normal (.condP rfl hltiv4 (.skip (thn_normal (.seq (.block (.seq ?_))))))))))))))
   obtain ⟨a19, ha19, h⟩ := bind_some h
   obtain ⟨a23, ha23, h⟩ := bind_some h
   obtain ⟨a25, ha25, h⟩ := bind_some h
   refine AWP.drawI mixed rfl ?_
   apply DrawSeq.consF; exact rfl; intro E
   refine AOps.move rfl rfl (.nil ⟨rfl, rfl⟩)
   exact rfl
   apply DrawSeq.consF; exact rfl; intro E
   refine AOps.move rfl rfl (.nil ⟨rfl, rfl⟩)
   exact rfl
   apply DrawSeq.consF; exact rfl; intro E
   refine S.idx ha19 rfl rfl rfl rfl (.nil ⟨rfl, rfl⟩)
   exact rfl
   apply DrawSeq.consF; exact rfl; intro E
   refine AOps.loadI rfl rfl rfl rfl (.nil ⟨rfl, rfl⟩)
   exact rfl
   apply DrawSeq.consF; exact rfl; intro E
   refine AOps.move rfl rfl (.nil ⟨rfl, rfl⟩)
   exact rfl
   apply DrawSeq.consF; exact rfl; intro E
   refine AOps.move rfl rfl (.nil ⟨rfl, rfl⟩)
   exact rfl
   apply DrawSeq.consF; exact rfl; intro E
   refine S.idx ha23 rfl rfl rfl rfl (.nil ⟨rfl, rfl⟩)
   exact rfl
   apply DrawSeq.consF; exact rfl; intro E
   refine AOps.loadI rfl rfl rfl rfl (.nil ⟨rfl, rfl⟩)
   exact rfl
   apply DrawSeq.consF; exact rfl; intro E
   refine AOps.callR rfl rfl rfl rfl (equal_Numbers_ok ha25) rfl (.nil ⟨rfl, rfl⟩)
   exact rfl
   apply DrawSeq.consF; exact rfl; intro E
   refine AOps.not rfl rfl (.nil ⟨rfl, rfl⟩)
   exact rfl
   refine DrawSeq.done ?_
   dsimp only [envEnd]
   refine thn_normal (.iteB rfl h (fun hc5 h => ?_) (fun hc5 h => ?_))
   ·refine AWP.seq (.region (.assign rfl rfl (.nil (thn_normal (.ret (inB_ret (thn_ret ?_)))))))
    have ej := Option.some.inj h
    subst ej
    refine thn_ret ⟨_, rfl, rfl, ?_⟩
    exact Done.ret rfl rfl
   ·refine AWP.skip (inB_normal (thn_normal (.region (.move rfl rfl (.add rfl rfl rfl (by omega) (.assign rfl rfl (.nil ?_)))))))
    have ej := Option.some.inj h
    subst ej
    refine thn_normal ⟨_, rfl, ?_⟩
    exact Sub.env ⟨rfl, rfl, rfl, trivial⟩
  ·intro e s hq
   rcases oo with u | x
   ·try dsimp only at h hq
    obtain ⟨rfl, hs⟩ := hq
    refine ⟨_, hs, ?_⟩
    refine inB_exit (thn_normal (.seq (.region (.assign rfl rfl (.nil (thn_normal (.ret ?_)))))))
    have ej := Option.some.inj h
    subst ej
    exact Done.ret rfl rfl
   ·try dsimp only at h hq
    obtain ⟨rfl, hs⟩ := hq
    refine ⟨_, Sub.refl _ _, ?_⟩
    refine inB_ret (thn_ret ?_)
    have ej := Option.some.inj h
    subst ej
    exact hs
theorem law8_tossed_ok {r : Bool} (h : law8_tossed = some r) : PureOk Try.prog 9 [] (.c (bool r)) := by
 unfold PureOk
 refine FnOk.enter (rs := [.t 0]) Try.func9 rfl Try.ntmps9 Try.results9 rfl ⟨trivial, trivial⟩ (by kernel_rfl) rfl ?_
 unfold law8_tossed at h
 refine AWP.seq (.region (.assign rfl rfl (.nil (thn_normal (.seq ?_)))))
 obtain ⟨a5, ha5, h⟩ := bind_some h
 obtain ⟨a6, ha6, h⟩ := bind_some h
 refine AWP.region (.callR rfl rfl rfl rfl (law8_coin_ok ha5) rfl (.callR rfl rfl rfl rfl (PureOk.nil (by exact ⟨⟨(.inl rfl), (.inl rfl), (.inl rfl), (.inl rfl), trivial⟩, (.inr ⟨rfl, _, rfl⟩), (.inl rfl), trivial⟩) (open_Outcomes_ok ha6)) rfl (.move rfl rfl (.extract rfl rfl rfl (.extract rfl rfl rfl (.extract rfl rfl rfl (W.alloc rfl rfl rfl rfl (.assign rfl rfl (.assign rfl rfl (W.storeAgg rfl rfl rfl rfl rfl rfl rfl (.nil (thn_normal ?_))))))))))))
 obtain ⟨t1, hx2, h⟩ := bind_some h
 refine AWP.seqJ (⟨[(0, .c (bool t1))], []⟩) ?_ ?_
 ·rcases Bool.eq_false_or_eq_true (decide (a6.2.2.code = 0)) with hb3 | hb3
  ·replace hx2 := iteDT hb3 hx2
   obtain ⟨a17, ha17, hx2⟩ := bind_some hx2
   rcases Bool.eq_false_or_eq_true (a17) with hb4 | hb4
   ·replace hx2 := iteBT hb4 hx2
    obtain ⟨a22, ha22, hx2⟩ := bind_some hx2
    refine AWP.region (W.fieldAddr rfl rfl rfl rfl (.load rfl rfl rfl rfl rfl rfl (.eql rfl rfl rfl (.move rfl rfl (.guardT rfl rfl rfl hb3 (.move rfl rfl (.guardT rfl rfl rfl hb3 (S.lit (f := intI) (l := [0]) (ess := [[int 0]]) rfl rfl rfl rfl rfl rfl rfl ⟨⟨.inl rfl, trivial⟩, trivial⟩ rfl rfl rfl ?_))))))))
    refine AOps.guardT rfl rfl rfl hb3 ?_; refine AOps.frzV (id := 1) (l := [0]) (env2 := [(2, .c (row 1 intI a6.2.1)), (13, .c (bool (decide (a6.2.2.code = 0)))), (14, .c (row 1 eLi64 a6.1)), (15, .c (row 1 intI [0]))]) (σ2 := [.one (.cells 2 [[int a6.2.2.code, int a6.2.2.index]]), .dead]) rfl rfl (by exact ⟨⟨_, rfl, .inl ⟨rfl, rfl⟩⟩, ⟨_, rfl, .inl ⟨rfl, rfl⟩⟩, ⟨_, rfl, .inl ⟨rfl, rfl⟩⟩, ⟨_, rfl, .inr ⟨_, rfl, rfl, rfl⟩⟩, trivial⟩) rfl (by exact ⟨⟨rfl, .inl ⟨rfl, rfl⟩, .inl ⟨rfl, rfl⟩, trivial⟩, trivial, trivial⟩) ?_; refine S.lit (f := eLi64) (l := [[], [0]]) (ess := [[.imm (.val (.slice none 0 0))], [row 1 intI [0]]]) rfl rfl rfl rfl rfl rfl rfl ⟨⟨.inr ⟨rfl, _, rfl⟩, trivial⟩, ⟨.inl rfl, trivial⟩, trivial⟩ rfl rfl rfl ?_
    refine AOps.guardT rfl rfl rfl hb3 (.callL rfl rfl (.cons (.c .imm) (.cons (.c (.own rfl rfl)) .nil)) rfl (equal_Sets_ok ha17) rfl (.pickT rfl hb3 rfl rfl (.move rfl rfl (.guardT rfl rfl rfl hb4 (.move rfl rfl (.guardT rfl rfl rfl hb4 (S.lit (f := intI) (l := [2, 1]) (ess := [[int 2], [int 1]]) rfl rfl rfl rfl rfl rfl rfl ⟨⟨.inl rfl, trivial⟩, ⟨.inl rfl, trivial⟩, trivial⟩ rfl rfl rfl (.guardT rfl rfl rfl hb4 (.callL rfl rfl (.cons (.c .imm) (.cons (.c (.own rfl rfl)) .nil)) rfl (equal_Numbers_ok ha22) rfl (.pickT rfl hb4 rfl rfl (.assign rfl rfl (.nil ?_))))))))))))
    have ej := Option.some.inj hx2
    subst ej
    refine thn_normal (Sub.cut ⟨rfl, trivial⟩ rfl trivial rfl)
   ·replace hx2 := iteBF hb4 hx2
    refine AWP.region (W.fieldAddr rfl rfl rfl rfl (.load rfl rfl rfl rfl rfl rfl (.eql rfl rfl rfl (.move rfl rfl (.guardT rfl rfl rfl hb3 (.move rfl rfl (.guardT rfl rfl rfl hb3 (S.lit (f := intI) (l := [0]) (ess := [[int 0]]) rfl rfl rfl rfl rfl rfl rfl ⟨⟨.inl rfl, trivial⟩, trivial⟩ rfl rfl rfl ?_))))))))
    refine AOps.guardT rfl rfl rfl hb3 ?_; refine AOps.frzV (id := 1) (l := [0]) (env2 := [(2, .c (row 1 intI a6.2.1)), (13, .c (bool (decide (a6.2.2.code = 0)))), (14, .c (row 1 eLi64 a6.1)), (15, .c (row 1 intI [0]))]) (σ2 := [.one (.cells 2 [[int a6.2.2.code, int a6.2.2.index]]), .dead]) rfl rfl (by exact ⟨⟨_, rfl, .inl ⟨rfl, rfl⟩⟩, ⟨_, rfl, .inl ⟨rfl, rfl⟩⟩, ⟨_, rfl, .inl ⟨rfl, rfl⟩⟩, ⟨_, rfl, .inr ⟨_, rfl, rfl, rfl⟩⟩, trivial⟩) rfl (by exact ⟨⟨rfl, .inl ⟨rfl, rfl⟩, .inl ⟨rfl, rfl⟩, trivial⟩, trivial, trivial⟩) ?_; refine S.lit (f := eLi64) (l := [[], [0]]) (ess := [[.imm (.val (.slice none 0 0))], [row 1 intI [0]]]) rfl rfl rfl rfl rfl rfl rfl ⟨⟨.inr ⟨rfl, _, rfl⟩, trivial⟩, ⟨.inl rfl, trivial⟩, trivial⟩ rfl rfl rfl ?_
    refine AOps.guardT rfl rfl rfl hb3 (.callL rfl rfl (.cons (.c .imm) (.cons (.c (.own rfl rfl)) .nil)) rfl (equal_Sets_ok ha17) rfl (.pickT rfl hb3 rfl rfl (.move rfl rfl (.guardF rfl rfl rfl hb4 (.guardF rfl rfl rfl hb4 (.guardF rfl rfl rfl hb4 (.pickF rfl hb4 rfl rfl (.assign rfl rfl (.nil ?_)))))))))
    have ej := Option.some.inj hx2
    subst ej
    refine thn_normal (Sub.cut ⟨rfl, trivial⟩ rfl trivial rfl)
  ·replace hx2 := iteDF hb3 hx2
   refine AWP.region (W.fieldAddr rfl rfl rfl rfl (.load rfl rfl rfl rfl rfl rfl (.eql rfl rfl rfl (.move rfl rfl (.guardF rfl rfl rfl hb3 (.guardF rfl rfl rfl hb3 (.guardF rfl rfl rfl hb3 (.guardF rfl rfl rfl hb3 (.pickF rfl hb3 rfl rfl (.move rfl rfl (.guardF rfl rfl rfl rfl (.guardF rfl rfl rfl rfl (.guardF rfl rfl rfl rfl (.pickF rfl rfl rfl rfl (.assign rfl rfl (.nil ?_))))))))))))))))
   have ej := Option.some.inj hx2
   subst ej
   refine thn_normal (Sub.cut ⟨rfl, trivial⟩ rfl trivial rfl)
 ·refine AWP.ret ?_
  have ej := Option.some.inj h
  subst ej
  exact Done.ret rfl rfl
theorem ref1_Ints_ok {av : List Int} {bv : List Int} {r : Bool} (h : ref1_Ints av bv = some r) : PureOk Try.prog 36 [.c (row 1 intI av), .c (row 1 intI bv)] (.c (bool r)) := by
 unfold PureOk
 refine FnOk.enter (rs := [.t 4]) Try.func36 rfl Try.ntmps36 Try.results36 rfl ⟨trivial, trivial⟩ (by kernel_rfl) rfl ?_
 unfold ref1_Ints at h
 refine AWP.seq (.region (.assign rfl rfl (.nil (thn_normal (.seq (.seq (.region (.move rfl rfl (S.len rfl rfl (fun hl7 => .move rfl rfl (S.len rfl rfl (fun hl9 => .neq rfl rfl rfl (.nil (thn_normal (.iteN rfl h (fun hc3 h => ?_) (fun hc3 h => ?_))))))))))))))))
 ·refine AWP.seq (.region (.assign rfl rfl (.nil (thn_normal (.ret (thn_ret ?_))))))
  have ej := Option.some.inj h
  subst ej
  exact Done.ret rfl rfl
 ·refine AWP.skip (thn_normal (.seq (.seq (.region (.assign rfl rfl (.nil (thn_normal (.block ?_))))))))
  obtain ⟨oo, ho1, h⟩ := bind_some h
  refine AWP.rngS ho1 (fun iv4 _ => ⟨[(0, .c (row 1 intI av)), (1, .c (row 1 intI bv)), (5, .c (int iv4))], []⟩) (fun o e st => match o with | .inl _ => e = .exit 0 ∧ Sub [] st ⟨[], []⟩ | .inr x => e = .ret ∧ Done [.t 4] (fun t _ => t = .c (bool x)) .ret st) ?_ ?_ ?_ ?_
  ·try dsimp only
   exact Sub.env ⟨rfl, rfl, rfl, trivial⟩
  ·intro iv4 s hloiv4 hltiv4 _
   try dsimp only
   refine AWP.seq (.seq (.region (.move rfl rfl (.move rfl rfl (S.len rfl rfl (fun hl13 => .lss rfl rfl rfl (.nil (thn_normal (.condNP rfl hltiv4 (.exit (thn_exit (thn_exit ⟨rfl, ?_⟩))))))))))))
   exact Sub.env trivial
  ·intro iv4 s o hloiv4 hltiv4 h
   unfold ref1_Ints_l1 at h
   try dsimp only at h ⊢
   refine AWP.seq (.seq (.region (.move rfl rfl (.move rfl rfl (S.len rfl rfl (fun hl13 => .lss rfl rfl rfl (.nil (thn_normal (.condP rfl hltiv4 (.skip (thn_normal (.seq (.block (.seq ?_))))))))))))))
   obtain ⟨a19, ha19, h⟩ := bind_some h
   obtain ⟨a23, ha23, h⟩ := bind_some h
   refine AWP.drawI mixed rfl ?_
   apply DrawSeq.consF; exact rfl; intro E
   refine AOps.move rfl rfl (.nil ⟨rfl, rfl⟩)
   exact rfl
   apply DrawSeq.consF; exact rfl; intro E
   refine AOps.move rfl rfl (.nil ⟨rfl, rfl⟩)
   exact rfl
   apply DrawSeq.consF; exact rfl; intro E
   refine S.idx ha19 rfl rfl rfl rfl (.nil ⟨rfl, rfl⟩)
   exact rfl
   apply DrawSeq.consF; exact rfl; intro E
   refine AOps.loadI rfl rfl rfl rfl (.nil ⟨rfl, rfl⟩)
   exact rfl
   apply DrawSeq.consF; exact rfl; intro E
   refine AOps.move rfl rfl (.nil ⟨rfl, rfl⟩)
   exact rfl
   apply DrawSeq.consF; exact rfl; intro E
   refine AOps.move rfl rfl (.nil ⟨rfl, rfl⟩)
   exact rfl
   apply DrawSeq.consF; exact rfl; intro E
   refine S.idx ha23 rfl rfl rfl rfl (.nil ⟨rfl, rfl⟩)
   exact rfl
   apply DrawSeq.consF; exact rfl; intro E
   refine AOps.loadI rfl rfl rfl rfl (.nil ⟨rfl, rfl⟩)
   exact rfl
   apply DrawSeq.consF; exact rfl; intro E
   refine AOps.neq rfl rfl rfl (.nil ⟨rfl, rfl⟩)
   exact rfl
   refine DrawSeq.done ?_
   dsimp only [envEnd]
   refine thn_normal (.iteN rfl h (fun hc5 h => ?_) (fun hc5 h => ?_))
   ·refine AWP.seq (.region (.assign rfl rfl (.nil (thn_normal (.ret (inB_ret (thn_ret ?_)))))))
    have ej := Option.some.inj h
    subst ej
    refine thn_ret ⟨_, rfl, rfl, ?_⟩
    exact Done.ret rfl rfl
   ·refine AWP.skip (inB_normal (thn_normal (.region (.move rfl rfl (.add rfl rfl rfl (by omega) (.assign rfl rfl (.nil ?_)))))))
    have ej := Option.some.inj h
    subst ej
    refine thn_normal ⟨_, rfl, ?_⟩
    exact Sub.env ⟨rfl, rfl, rfl, trivial⟩
  ·intro e s hq
   rcases oo with u | x
   ·try dsimp only at h hq
    obtain ⟨rfl, hs⟩ := hq
    refine ⟨_, hs, ?_⟩
    refine inB_exit (thn_normal (.seq (.region (.assign rfl rfl (.nil (thn_normal (.ret ?_)))))))
    have ej := Option.some.inj h
    subst ej
    exact Done.ret rfl rfl
   ·try dsimp only at h hq
    obtain ⟨rfl, hs⟩ := hq
    refine ⟨_, Sub.refl _ _, ?_⟩
    refine inB_ret (thn_ret ?_)
    have ej := Option.some.inj h
    subst ej
    exact hs
end Ab
end
