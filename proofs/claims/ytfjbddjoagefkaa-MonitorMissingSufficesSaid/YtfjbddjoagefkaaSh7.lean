/-
  CALLS of Sort and Compact as steps.
-/
import Derived.Test.YtfjbddjoagefkaaSg
namespace Ab
open Go

/-- Sorted; so long a list as Sort's contract allows. -/
def sortL (l : List Int) : Option (List Int) := if l.length < 4611686018427387904 then some (srt l) else none
/-- Runs of equal elements replaced by one. -/
def compactL (l : List Int) : List Int := Go.Lib.compact l

theorem sortL_len {l l' : List Int} (h : sortL l = some l') : l.length = l'.length := by
  unfold sortL at h
  split at h
  · cases h; simp [srt]
  · cases h

def SortOk (P : Program) (f : FuncId) : Prop := ∀ {σ : Store} {id : Id} {l : List Int}, σ[id]? = some (some (vec 1 intI l)) → l.length < 4611686018427387904 →
    FnOk P f [.c (.own id 0 l.length)] σ fun r σ' => r = .tup [] ∧ σ'.length = σ.length ∧ ∀ i : Id, σ'[i]? = (σ.put id (some (vec 1 intI (srt l))))[i]?
def CompactOk (P : Program) (f : FuncId) : Prop := ∀ {σ : Store} {id : Id} {l : List Int}, σ[id]? = some (some (vec 1 intI l)) →
    FnOk P f [.c (.own id 0 l.length)] σ fun r σ' => r = .c (.own (σ.length, []) 0 (Go.Lib.compact l).length) ∧ σ' = σ.put id none ++ [.one (vec 1 intI (Go.Lib.compact l))]

section
variable {P : Program} {σ0 : Store} {sz : Nat} {Q : Post} {env : Env} {σv σ' : Store} {ops : Array Oper} {rest : List Oper} {dst : Option Nat} {ty : TypeId} {pos : String} {after : Array Edge}

theorem S.sort {x : Operand} {al : List Operand} {ats : Array TypeId} {f : FuncId} {id : Id} {n : Nat} {l l' : List Int} (hs : sortL l = some l') (hf : SortOk P f) (hx : ev env x = some (.c (.fn f []))) (ha : evs env al = some [.c (.own id 0 n)]) (hn : n = l.length) (hσ : σv[id]? = some (some (vec 1 intI l)))
    (hd : dstOk sz dst = true) (hσ' : putF σv id (some (vec 1 intI l')) = some σ') (h : AOps P σ0 sz ops Q rest (St.mk (putE env dst (.tup [])) σ')) :
    AOps P σ0 sz ops Q (⟨dst, .call ⟨.value x, al.toArray, ats⟩, ty, pos, after, none⟩ :: rest) (St.mk env σv) := by
  have h2 := putF_get hσ'
  subst h2 hn
  unfold sortL at hs
  split at hs
  · cases hs
    refine AOps.callS hx ha hd (hf hσ ‹_›) ?_
    rintro r σ2 ⟨rfl, hl, he⟩
    refine AOps.sub (s' := ⟨putE env dst (.tup []), σv.put id (some (vec 1 intI (srt l)))⟩) ?_ h
    have := Sub.same (σ0 := σ0) (env := putE env dst (.tup [])) (σ1 := σ2) (σ2 := σv.put id (some (vec 1 intI (srt l)))) (by rw [Store.length_put, hl]) he
    cases dst <;> exact this
  · cases hs

theorem S.compact {x : Operand} {al : List Operand} {ats : Array TypeId} {f : FuncId} {id n' : Id} {n : Nat} {l : List Int} {σ1 : Store} (hf : CompactOk P f) (hx : ev env x = some (.c (.fn f []))) (ha : evs env al = some [.c (.own id 0 n)]) (hn : n = l.length) (hσ : σv[id]? = some (some (vec 1 intI l)))
    (hd : dstOk sz dst = true) (hid : newF σv = some n') (h1 : putF σv id none = some σ1) (hσ' : snocF σ1 (.one (vec 1 intI (compactL l))) = some σ') (h : AOps P σ0 sz ops Q rest (St.mk (putE env dst (.c (.own n' 0 (compactL l).length))) σ')) :
    AOps P σ0 sz ops Q (⟨dst, .call ⟨.value x, al.toArray, ats⟩, ty, pos, after, none⟩ :: rest) (St.mk env σv) := by
  have h2 := putF_get h1
  have h3 := newF_eq hid; have h4 := snocF_eq hσ'
  subst hn h2 h3 h4
  refine AOps.callS hx ha hd (hf hσ) ?_
  rintro r σ2 ⟨rfl, rfl⟩
  cases dst <;> exact h
end
end Ab
