/-
  FURTHER RULES: shifts and bits whose result is shown by the caller; copying.
-/
import Derived.Test.YtfjbddjoagefkaaAb18
namespace Ab
open Go

section
variable {P : Program} {σ0 : Store} {sz : Nat} {Q : Post} {env : Env} {σv : Store} {ops : Array Oper} {rest : List Oper} {dst : Option Nat} {ty : TypeId} {pos : String} {after : Array Edge}

theorem AOps.shr {t t' : TypeId} {x y : Operand} {k k' : IntKind} {a b c : Int} (hx : ev env x = some (.c (.imm (.val (.int k a))))) (hy : ev env y = some (.c (.imm (.val (.int k' b))))) (hd : dstOk sz dst = true) (hb : ¬ b < 0) (hr : a.fdiv (2 ^ (min b.toNat k.bits)) = c)
    (h : AOps P σ0 sz ops Q rest (St.mk (putE env dst (.c (.imm (.val (.int k c))))) σv)) : AOps P σ0 sz ops Q (⟨dst, .binOp .shr t x y t', ty, pos, after, none⟩ :: rest) (St.mk env σv) :=
  .bin hx hy hd rfl (fun w => by simp [go_sem]) (fun w => by subst hr; simp [binOp, Op.shift, hb]) h

theorem AOps.andE {t t' : TypeId} {x y : Operand} {k : IntKind} {a b c : Int} (hx : ev env x = some (.c (.imm (.val (.int k a))))) (hy : ev env y = some (.c (.imm (.val (.int k b))))) (hd : dstOk sz dst = true) (hr : Go.bits .and k a b = c)
    (h : AOps P σ0 sz ops Q rest (St.mk (putE env dst (.c (.imm (.val (.int k c))))) σv)) : AOps P σ0 sz ops Q (⟨dst, .binOp .and t x y t', ty, pos, after, none⟩ :: rest) (St.mk env σv) :=
  .bits hx hy hd (.inl rfl) (by rw [hr]; exact h)

theorem AOps.mulE {t t' : TypeId} {x y : Operand} {k : IntKind} {a b c : Int} (hx : ev env x = some (.c (.imm (.val (.int k a))))) (hy : ev env y = some (.c (.imm (.val (.int k b))))) (hd : dstOk sz dst = true) (hr : k.wrap (a * b) = c)
    (h : AOps P σ0 sz ops Q rest (St.mk (putE env dst (.c (.imm (.val (.int k c))))) σv)) : AOps P σ0 sz ops Q (⟨dst, .binOp .mul t x y t', ty, pos, after, none⟩ :: rest) (St.mk env σv) :=
  .mulW hx hy hd (by rw [hr]; exact h)

theorem AOps.addE {t t' : TypeId} {x y : Operand} {k : IntKind} {a b c : Int} (hx : ev env x = some (.c (.imm (.val (.int k a))))) (hy : ev env y = some (.c (.imm (.val (.int k b))))) (hd : dstOk sz dst = true) (hr : k.wrap (a + b) = c)
    (h : AOps P σ0 sz ops Q rest (St.mk (putE env dst (.c (.imm (.val (.int k c))))) σv)) : AOps P σ0 sz ops Q (⟨dst, .binOp .add t x y t', ty, pos, after, none⟩ :: rest) (St.mk env σv) :=
  .addW hx hy hd (by rw [hr]; exact h)

/-- Copying into an own slice that is not empty; cells of one place each. -/
theorem AOps.copy1 {x y : Operand} {t t' e : TypeId} {bytes : Nat} {z : Value} {id : Id} {j n : Nat} {es new : List (List C)} {v : T} [ht : TyD P t (.slice e)] [hs : TyS P e 1 bytes z]
    (hx : ev env x = some (.c (.own id j n))) (hσ : σv[id]? = some (some (.cells 1 es))) (hn0 : 0 < n) (hy : ev env y = some v) (hsrc : Src σv 1 v new) (hd : dstOk sz dst = true)
    (h : AOps P σ0 sz ops Q rest (St.mk (putE env dst (.c (int ((Nat.min new.length n : Nat) : Int)))) (σv.put id (some (.cells 1 (es.take j ++ new.take (Nat.min new.length n) ++ es.drop (j + (new.take (Nat.min new.length n)).length))))))) :
    AOps P σ0 sz ops Q (⟨dst, .call ⟨.builtin .copy, #[x, y], #[t, t']⟩, ty, pos, after, none⟩ :: rest) (St.mk env σv) :=
  .valueW rfl hd _ _ (fun Γ φ a w hR => by
    obtain ⟨b', cap', us', hy1, hy2⟩ := hsrc.shows hR hy
    have hv := own_inv (ev_rel hR hx) hσ
    rcases hv with ⟨_, _, _, h4⟩ | ⟨b, base, cap, arr, ety, ad, hp, hv, had, hcap, hmax, hjn, hbk, hsz⟩
    · omega
    have := had (by omega)
    subst this
    obtain ⟨arr2, ety2, hb2, hsz2, hk2, hc2⟩ := own_cells hR hσ hp
    rw [hbk] at hb2; cases hb2
    generalize hm : Nat.min new.length n = m
    have hmn : m ≤ n := by rw [← hm]; exact Nat.min_le_right _ _
    have hml : m ≤ new.length := by rw [← hm]; exact Nat.min_le_left _ _
    have hul : us'.length = new.length := by rw [hy2.len, Nat.mul_one]
    have hf : (Builtin.firstCells 1 m (.slice b' new.length cap')).run P w = .ok (us'.take m).toArray w := by
      cases b' with
      | none =>
        have hnil : new = [] := hy2.none rfl
        have hm0 : m = 0 := by rw [hnil] at hml; simpa using hml
        subst hm0
        simp [Builtin.firstCells]
      | some ad => exact run_firstCells_some w 1 m ad new.length cap' (us'.take m) (by simp; omega) (fun i u hi => by
          rw [List.getElem?_take] at hi
          split at hi
          · exact hy2.cell ad rfl i u hi
          · cases hi)
    have hone : ∀ u ∈ us'.take m, u.oneCell' = true := fun u hu => hy2.one u (List.mem_of_mem_take hu)
    have hst := run_storeCells_at P b (base + j * 1) ety (us'.take m) 0 arr w hbk (by simp; omega) hone
    simp only [Nat.add_zero, Nat.mul_one] at hst
    have htl : (us'.take m).length = m := by simp; omega
    have hnl : (new.take m).length = m := by simp; omega
    rw [hnl]
    have hsp : ∀ i : Nat, (es.take j ++ new.take m ++ es.drop (j + m))[i]? = if j ≤ i ∧ i < j + m then (new.take m)[i - j]? else es[i]? := fun i => by
      have := getElem?_splice es (new.take m) j i (by omega)
      rwa [hnl] at this
    have hW := Rs.write (k := 1) (es' := es.take j ++ new.take m ++ es.drop (j + m)) (arr' := (arr.toList.take (base + j) ++ us'.take m ++ arr.toList.drop (base + j + (us'.take m).length)).toArray) hR.toRs hσ hp hbk (by simp; omega) (by simp; omega) (fun i e' he => by
        rw [hsp] at he
        split at he
        · rw [List.getElem?_take] at he
          split at he
          · exact hy2.hk _ _ he
          · cases he
        · exact hk2 _ _ he) hsz2 (fun i e' o x' he hx' => by
        rw [hsp] at he
        simp only [List.getElem?_toArray]
        rw [getElem?_splice arr.toList (us'.take m) (base + j) (base + (i * 1 + o)) (by simp; omega)]
        have ho : o = 0 := by
          have hlen : e'.length = 1 := by
            split at he
            · rw [List.getElem?_take] at he
              split at he
              · exact hy2.hk _ _ he
              · cases he
            · exact hk2 _ _ he
          have := (List.getElem?_eq_some_iff.1 hx').1
          omega
        subst ho
        rw [htl]
        by_cases hi : j ≤ i ∧ i < j + m
        · rw [if_pos hi] at he
          rw [if_pos (by omega)]
          rw [List.getElem?_take, if_pos (by omega)] at he
          obtain ⟨u, hu, hr⟩ := hy2.rel _ _ _ _ he hx'
          refine ⟨u, ?_, hr⟩
          rw [List.getElem?_take, if_pos (by omega), ← hu]
          congr 1
          omega
        · rw [if_neg hi] at he
          rw [if_neg (by omega)]
          obtain ⟨u, hu, hr⟩ := hc2 _ _ _ _ he hx'
          exact ⟨u, by simpa using hu, hr⟩)
    refine ⟨.int .i64 m, _, φ, ?_, .c (.imm (.val rfl)), hR.of hW.1 hW.2⟩
    have hz := run_sizeOf (P := P) (t := e) w
    simp [execOp, resolve, invoke, builtin, hv, hy1, Builtin.copy_, run_underlying ht.h, hz, Builtin.lenOf, hm, hf, hst]
    rfl) h

theorem AOps.copyE {x y : Operand} {t t' e : TypeId} {bytes : Nat} {z : Value} {id : Id} {j n m : Nat} {es es' new : List (List C)} {v : T} {σ' : Store} [ht : TyD P t (.slice e)] [hs : TyS P e 1 bytes z]
    (hx : ev env x = some (.c (.own id j n))) (hσ : σv[id]? = some (some (.cells 1 es))) (hn0 : 0 < n) (hy : ev env y = some v) (hsrc : Src σv 1 v new) (hd : dstOk sz dst = true) (hm : Nat.min new.length n = m) (he : es.take j ++ new.take m ++ es.drop (j + m) = es') (hσ' : σv.put id (some (.cells 1 es')) = σ')
    (h : AOps P σ0 sz ops Q rest (St.mk (putE env dst (.c (int (m : Int)))) σ')) :
    AOps P σ0 sz ops Q (⟨dst, .call ⟨.builtin .copy, #[x, y], #[t, t']⟩, ty, pos, after, none⟩ :: rest) (St.mk env σv) := by
  subst hσ'
  subst he
  refine .copy1 hx hσ hn0 hy hsrc hd ?_
  rw [hm]
  have : (new.take m).length = m := by
    rw [List.length_take]
    have : m ≤ new.length := by rw [← hm]; exact Nat.min_le_left _ _
    omega
  rw [this]
  exact h

theorem AOps.convE {x : Operand} {src d : TypeId} {k k' : IntKind} {n c : Int} {dd : TypeDesc} [h1 : TyD P src dd] [h2 : TyD P d (.int k')] (hx : ev env x = some (.c (.imm (.val (.int k n))))) (hd : dstOk sz dst = true) (hr : k'.wrap n = c)
    (h : AOps P σ0 sz ops Q rest (St.mk (putE env dst (.c (.imm (.val (.int k' c))))) σv)) : AOps P σ0 sz ops Q (⟨dst, .convert src d x, ty, pos, after, none⟩ :: rest) (St.mk env σv) :=
  .convInt hx hd (by rw [hr]; exact h)

theorem sliceOwn_gen {o : Oper} (hg : o.guard = none) {x : Operand} {k lo hi : Nat} {id : Id} {j n : Nat} {es : List (List C)} (hx : ev env x = some (.c (.own id j n))) (hσ : σv[id]? = some (some (.cells k es))) (hb : lo ≤ hi ∧ hi ≤ n) (hd : dstOk sz o.dst = true)
    (key : ∀ (a : Act) (w : World) (φ : Phi) (Γ : Cx), R Γ sz (St.mk env σv) φ a w → ∀ (b : Option Addr) (cap : Nat), a.eval x = .slice b n cap → n ≤ cap → (execOp a.eval o).run P w = .ok (.value (.slice (if cap = lo then b else b.map (·.add (lo * k))) (hi - lo) (cap - lo))) w)
    (h : AOps P σ0 sz ops Q rest (St.mk (putE env o.dst (.c (.own id (j + lo) (hi - lo)))) σv)) : AOps P σ0 sz ops Q (o :: rest) (St.mk env σv) :=
  .value hg hd _ (fun Γ φ a w hR => by
    have hrel := ev_rel hR hx
    have hid : id.1 < σv.length := Store.lt_of hσ
    have hv := own_inv hrel hσ
    have key := key a w φ Γ hR
    generalize hu : a.eval x = u at hv key
    rcases hv with ⟨h1, h2, h3, h4⟩ | ⟨b, base, cap, arr, ety, ad, hp, hv, had, hcap, hmax, hjn, hbk, hsz⟩
    · subst h3 h4
      have h0 : hi = 0 := by omega
      have h1' : lo = 0 := by omega
      subst h0 h1'
      refine ⟨.slice none 0 0, by rw [key none 0 h2 (by omega)]; simp, .c (.own hid rfl fun k' es' he => ?_)⟩
      exact .inl ⟨h1, rfl, rfl, rfl⟩
    · rw [key _ _ hv (by omega)]
      refine ⟨_, rfl, .c (.own hid rfl fun k' es' he => ?_)⟩
      rw [hσ] at he; cases he
      have fin : ∀ ad' : Addr, (lo < cap → ad' = ad.add (lo * k)) → OwnView w (φ id) k es.length (j + lo) (hi - lo) (.slice (some ad') (hi - lo) (cap - lo)) := fun ad' h' => by
        refine .inr ⟨b, base, cap - lo, arr, ety, ad', hp, rfl, fun hc => ?_, by omega, by omega, by omega, hbk, ?_⟩
        · rw [h' (by omega), had (by omega), add_none, Nat.add_mul, Nat.add_assoc]
        · rw [show j + lo + (cap - lo) = j + cap by omega]; exact hsz
      by_cases hcl : cap = lo
      · rw [if_pos hcl]; exact fin ad (fun h => by omega)
      · rw [if_neg hcl]; exact fin _ (fun _ => rfl)) h

theorem AOps.sliceOwnTo {x r : Operand} {t e : TypeId} {k bytes : Nat} {z : Value} {kk' : IntKind} {hi : Nat} {id : Id} {j n : Nat} {es : List (List C)} [ht : TyD P t (.slice e)] [hs : TyS P e k bytes z]
    (hx : ev env x = some (.c (.own id j n))) (hσ : σv[id]? = some (some (.cells k es))) (hr : ev env r = some (.c (.imm (.val (.int kk' (hi : Int)))))) (hb : hi ≤ n) (hd : dstOk sz dst = true)
    (h : AOps P σ0 sz ops Q rest (St.mk (putE env dst (.c (.own id j hi))) σv)) : AOps P σ0 sz ops Q (⟨dst, .slice t x none (some r) none, ty, pos, after, none⟩ :: rest) (St.mk env σv) :=
  sliceOwn_gen (lo := 0) (hi := hi) rfl hx hσ ⟨Nat.zero_le _, hb⟩ hd (fun a w φ Γ hR b cap hu hcap => by
    have hb1 := run_bound (P := P) w (y := cap) (c := .sliceAcap) (kk := kk') (i := (hi : Int)) (by omega)
    simp [execOp, hu, ev_val hR hr, Instr.sliceAt, Instr.slice, Instr.sliceBounds, run_underlying ht.h, run_sizeOf (t := e), hb1]
    done) (by simpa using h)

theorem AOps.sliceOwnFrom {x l : Operand} {t e : TypeId} {k bytes : Nat} {z : Value} {kk : IntKind} {lo : Nat} {id : Id} {j n : Nat} {es : List (List C)} [ht : TyD P t (.slice e)] [hs : TyS P e k bytes z]
    (hx : ev env x = some (.c (.own id j n))) (hσ : σv[id]? = some (some (.cells k es))) (hl : ev env l = some (.c (.imm (.val (.int kk (lo : Int)))))) (hb : lo ≤ n) (hd : dstOk sz dst = true)
    (h : AOps P σ0 sz ops Q rest (St.mk (putE env dst (.c (.own id (j + lo) (n - lo)))) σv)) : AOps P σ0 sz ops Q (⟨dst, .slice t x (some l) none none, ty, pos, after, none⟩ :: rest) (St.mk env σv) :=
  sliceOwn_gen (lo := lo) (hi := n) rfl hx hσ ⟨hb, Nat.le_refl _⟩ hd (fun a w φ Γ hR b cap hu hcap => by
    have hb2 := run_bound (P := P) w (y := n) (c := .sliceB) (kk := kk) (i := (lo : Int)) (by omega)
    simp [execOp, hu, ev_val hR hl, Instr.sliceAt, Instr.slice, Instr.sliceBounds, run_underlying ht.h, run_sizeOf (t := e), hb2]
    done) h
end
end Ab
