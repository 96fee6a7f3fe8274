/-
  LITERALS of slices; new rows at once read as data.
-/
import Derived.Test.YtfjbddjoagefkaaSh3
namespace Ab
open Go

theorem flat_get {α : Type} {k : Nat} : ∀ {l : List (List α)}, (∀ e ∈ l, e.length = k) → ∀ (j : Nat) (e : List α) (o : Nat) (x : α), l[j]? = some e → e[o]? = some x → l.flatten[j * k + o]? = some x
  | [], _, j, e, o, x, h, _ => by simp at h
  | a :: l, hk, 0, e, o, x, h, hx => by
    simp only [List.getElem?_cons_zero, Option.some.injEq] at h
    subst h
    rw [List.flatten_cons, Nat.zero_mul, Nat.zero_add, List.getElem?_append_left (List.getElem?_eq_some_iff.1 hx).1]
    exact hx
  | a :: l, hk, j + 1, e, o, x, h, hx => by
    have ha := hk a (by simp)
    have := flat_get (l := l) (fun e he => hk e (List.mem_cons_of_mem _ he)) j e o x (by simpa using h) hx
    rw [List.flatten_cons, Nat.add_mul, Nat.one_mul, List.getElem?_append_right (by rw [ha]; omega), ha]
    rw [show j * k + k + o - k = j * k + o by omega]
    exact this

theorem zrep_get {α : Type} {zc : List α} (hz : 0 < zc.length) : ∀ (n i : Nat), i < n * zc.length → (List.replicate n zc).flatten[i]? = zc[i % zc.length]?
  | 0, i, h => by simp at h
  | n + 1, i, h => by
    rw [List.replicate_succ, List.flatten_cons]
    by_cases hi : i < zc.length
    · rw [List.getElem?_append_left hi, Nat.mod_eq_of_lt hi]
    · rw [List.getElem?_append_right (by omega), zrep_get hz n _ (by rw [Nat.add_mul] at h; omega)]
      congr 1
      rw [← Nat.mod_eq_sub_mod (by omega)]

def NilLL : List (List C) → List (List C) → Prop
  | [], [] => True
  | c :: l, c' :: l' => NilL c c' ∧ NilLL l l'
  | _, _ => False
theorem NilLL.get : ∀ {l l' : List (List C)}, NilLL l l' → l'.length = l.length ∧ ∀ (i : Nat) (c' : List C), l'[i]? = some c' → ∃ c, l[i]? = some c ∧ NilL c c'
  | [], [], _ => ⟨rfl, fun i c h => by simp at h⟩
  | [], _ :: _, h => h.elim
  | _ :: _, [], h => h.elim
  | c :: l, c' :: l', h => ⟨by simp [(NilLL.get h.2).1], fun i x hi => by
      cases i with
      | zero =>
        simp only [List.getElem?_cons_zero, Option.some.injEq] at hi
        subst hi
        exact ⟨c, rfl, h.1⟩
      | succ i => simpa using (NilLL.get h.2).2 i x (by simpa using hi)⟩
theorem NilL.len : ∀ {l l' : List C}, NilL l l' → l'.length = l.length
  | [], [], _ => rfl
  | [], _ :: _, h => h.elim
  | _ :: _, [], h => h.elim
  | c :: l, c' :: l', h => by simp [NilL.len h.2]
def lens (k : Nat) : List (List C) → Bool
  | [] => true
  | e :: r => Nat.beq e.length k && lens k r
theorem lens_mem {k : Nat} : ∀ {l : List (List C)}, lens k l = true → ∀ e ∈ l, e.length = k
  | [], _, e, h => by simp at h
  | a :: l, h, e, he => by
    simp only [lens, Bool.and_eq_true] at h
    simp only [List.mem_cons] at he
    rcases he with rfl | he
    · exact Nat.eq_of_beq_eq_true h.1
    · exact lens_mem h.2 e he

section
variable {P : Program} {σ0 : Store} {sz : Nat} {Q : Post} {env env' : Env} {σv σ' : Store} {ops : Array Oper} {rest : List Oper} {dst : Option Nat} {ty : TypeId} {pos : String} {after : Array Edge}

theorem S.lit {α : Type} {f : α → List I} {l : List α} {t e : TypeId} {id : Id} {k bytes n : Nat} {z : Value} {zc : List C} {parts : List (Nat × Operand)} {ps : List (Nat × T)} {ess : List (List C)} [ht : TyD P t (.slice e)] [hs : TyS P e k bytes z] [hz : TyZ P e zc]
    (hl : Nat.beq zc.length k = true) (hkp : Nat.blt 0 k = true) (hsm : Nat.ble (n * k) 16777216 = true) (hps : evP env parts = some ps) (hf : fillC (fun i => some (i * k, k)) (List.replicate n zc).flatten ps = some ess.flatten) (hlen : lens k ess = true) (hn : Nat.beq ess.length n = true)
    (hnil : NilLL ess ((l.map f).map (·.map .imm))) (hid : newF σv = some id) (hσ : snocF σv (.one (vec k f l)) = some σ') (hd : dstOk sz dst = true)
    (h : AOps P σ0 sz ops Q rest (St.mk (putE env dst (.c (.own id 0 l.length))) σ')) : AOps P σ0 sz ops Q (⟨dst, .buildSlice t n parts.toArray, ty, pos, after, none⟩ :: rest) (St.mk env σv) := by
  have g1 := newF_eq hid; have g2 := snocF_eq hσ
  subst g1 g2
  have hl' : zc.length = k := Nat.eq_of_beq_eq_true hl
  have hk0 : 0 < k := by simpa using hkp
  have hn' : ess.length = n := Nat.eq_of_beq_eq_true hn
  have hsm' : ¬ (16777216 < n * k) := by have : n * k ≤ 16777216 := Nat.le_of_ble_eq_true hsm
                                         omega
  have hle := lens_mem hlen
  obtain ⟨nl1, nl2⟩ := hnil.get
  have hll : l.length = n := by simpa [hn'] using nl1
  have main : AOps P σ0 sz ops Q rest (St.mk (putE env dst (.c (.own (σv.length, []) 0 n))) (σv ++ [.one (.cells k ess)])) := by
    have hset : Store.put (σv ++ [.one (Blk.cells k ess)]) (σv.length, []) (some (.cells k ((l.map f).map (·.map .imm)))) = σv ++ [.one (vec k f l)] := Store.put_last _ _ σv
    have hsub := Sub.blk (σ0 := σ0) (env := putE env dst (.c (.own (σv.length, []) 0 n))) (σv := σv ++ [.one (Blk.cells k ess)]) (id := (σv.length, [])) (k := k) (es := ess) (es' := (l.map f).map (·.map .imm)) (Store.get_last _ _) nl1
      (fun j e he => by
        obtain ⟨c, hc, hh⟩ := nl2 j e he
        rw [hh.len, hle c (List.mem_of_getElem? hc)]) (fun j e o x he hx => by
        obtain ⟨c, hc, hh⟩ := nl2 j e he
        have hh' : ∀ w φ σ A, _ := fun w φ σ A => (NilL.get (w := w) (φ := φ) (σ := σ) (A := A) hh).2 o x hx
        have ho : o < c.length := by rw [← hh.len]; exact (List.getElem?_eq_some_iff.1 hx).1
        refine ⟨c, c[o], hc, List.getElem?_eq_getElem ho, fun w φ σ A u hu => ?_⟩
        obtain ⟨c0, h1, h2⟩ := hh' w φ σ A
        rw [List.getElem?_eq_getElem ho] at h1
        cases h1
        exact h2 u hu)
    rw [hset] at hsub
    rw [hll] at h
    exact AOps.sub hsub h
  refine AOps.valueW rfl hd (.c (.own (σv.length, []) 0 n)) (σv ++ [.one (.cells k ess)]) (fun Γ φ a w hR => ?_) (by cases dst <;> exact main)
  obtain ⟨e1, e2⟩ := evP_rel hR hps
  obtain ⟨size', bytes', z', v, hs', k1, k2⟩ := hz.h
  have hzz : z' = z := by
    obtain ⟨i, a1, _, _, a4⟩ := hs.h
    obtain ⟨i', b1, _, _, b4⟩ := hs'.h
    rw [a1] at b1; cases b1
    rw [a4] at b4; cases b4; rfl
  subst hzz
  obtain ⟨zr1, zr2⟩ := cellsT_rel (w := w) (φ := φ) (σ := σv) (A := Al Γ.N φ σv) (constT_rel k1) k2
  have hbase : ∀ base, base = (Array.range (n * k)).map (fun i => (if n * k = 0 then (#[] : Array Value) else z'.cells)[i % (if n * k = 0 then (#[] : Array Value) else z'.cells).size]!) → RelL w φ σv (Al Γ.N φ σv) (List.replicate n zc).flatten base := by
    rintro base rfl
    refine ⟨by simp [hl'], fun i c hi => ?_⟩
    have hin : i < n * k := by
      have := (List.getElem?_eq_some_iff.1 hi).1
      simpa [hl'] using this
    have hne : ¬ n * k = 0 := by omega
    rw [zrep_get (by omega) n i (by rw [hl']; exact hin), hl'] at hi
    obtain ⟨u, hu, hr⟩ := zr2 _ c hi
    refine ⟨u, ?_, hr⟩
    have hzs : z'.cells.size = k := by rw [zr1, hl']
    have hlt : i % k < z'.cells.size := by rw [hzs]; exact Nat.mod_lt _ hk0
    simp only [if_neg hne, Array.getElem?_map, Array.getElem?_range, hzs, hin, if_true, Option.map_some]
    rw [Array.getElem?_eq_getElem hlt] at hu
    simp [getElem!_pos, hlt, Option.some.inj hu]
  obtain ⟨arr', f1, f2⟩ := fill_rel (w := w) e1 e2 (hbase _ rfl) hf
  have hfl : ess.flatten.length = n * k := by
    rw [List.length_flatten]
    have : ess.map List.length = List.replicate n k := by
      rw [← hn']
      apply List.ext_getElem?
      intro i
      rw [List.getElem?_map, List.getElem?_replicate]
      by_cases hi : i < ess.length
      · rw [if_pos hi, List.getElem?_eq_getElem hi]
        simp only [Option.map_some]
        rw [hle _ (List.getElem_mem hi)]
      · rw [if_neg hi, List.getElem?_eq_none (by omega)]; rfl
    rw [this, List.sum_replicate_nat]
  have hA := Rs.alloc (k := k) (es := ess) (arr := arr') (ety := e) hR.toRs (fun j e he => hle e (List.mem_of_getElem? he)) (by rw [f2.1, hfl, hn']; exact Nat.le_refl _) (fun j e o x he hx => f2.2 _ x (flat_get hle j e o x he hx))
  have hnm : n ≤ maxLen := by
    have : n * 1 ≤ n * k := Nat.mul_le_mul_left _ hk0
    simp only [maxLen]; omega
  have hnle : 0 + n ≤ ess.length := by omega
  refine ⟨.slice (some ⟨w.heap.size, 0, none⟩) n n, _, _, ?_, cellOwn (k := k) (es := ess) (Store.get_last _ _) rfl (.inr ⟨w.heap.size, 0, n, arr', e, ⟨w.heap.size, 0, none⟩, by simp [phiNew], rfl, fun _ => by simp, Nat.le_refl _, hnm, hnle, heap_alloc_new w _, by rw [f2.1, hfl]; simp⟩), hR.of hA.1 hA.2⟩
  have e3 : (execOp a.eval ⟨dst, .buildSlice t n parts.toArray, ty, pos, after, none⟩).run P w = ((Instr.buildSlice t n (parts.map fun p => (p.1, a.eval p.2)).toArray).run P w).andThen fun v w => .ok (.value v) w := by
    simp [execOp]
  rw [e3]
  by_cases h0 : n * k = 0
  · simp only [h0, if_true] at f1
    simp [Instr.buildSlice, run_underlying ht.h, run_sizeOf (t := e), h0, newRow]
    simp at f1
    rw [f1]
    simp
  · simp only [if_neg h0] at f1
    have hz2 : (zeroValue e).run P w = .ok z' w := run_zero (t := e) w
    simp [Instr.buildSlice, run_underlying ht.h, run_sizeOf (t := e), hz2, h0, hsm', newRow]
    try simp at f1
    rw [f1]
    simp
end
end Ab
