/-
  APPEND, make, a slice of a slice: the rules.
-/
import Derived.Test.YtfjbddjoagefkaaAb8
namespace Ab
open Go

section
variable {P : Program} (w : World)

theorem run_first {size n cap : Nat} {b : Option Addr} {us : List Value} (hl : us.length = n * size) (hn : b = none → us = []) (hc : ∀ ad, b = some ad → ∀ (j : Nat) (u : Value), us[j]? = some u → w.cell? (ad.add j) = some u) :
    (Builtin.firstCells size n (.slice b n cap)).run P w = .ok us.toArray w := by
  cases b with
  | none => rw [hn rfl]; simp [Builtin.firstCells]
  | some ad => exact run_firstCells_some w size n ad n cap us hl (hc ad rfl)

theorem run_append_room' {t ty e : TypeId} {k bytes : Nat} {z : Value} [ht : TyD P t (.slice e)] [hs : TyS P e k bytes z] {g off sLen sCap : Nat} {cur : Array Value} {ety : TypeId} (hg : w.heap[g]? = some (.cells cur ety (0, 0)))
    {b : Option Addr} {m c : Nat} {us : List Value} (hl : us.length = m * k) (hn : b = none → us = []) (hc : ∀ ad, b = some ad → ∀ (j : Nat) (u : Value), us[j]? = some u → w.cell? (ad.add j) = some u) (h1 : ∀ u ∈ us, u.oneCell' = true)
    (hroom : sLen + m ≤ sCap) (hfit : off + sCap * k ≤ cur.size) :
    (Builtin.append_ #[t, t] ty #[.slice (some ⟨g, off, none⟩) sLen sCap, .slice b m c]).run P w =
      .ok (.slice (some ⟨g, off, none⟩) (sLen + m) sCap) (w.setRow g (cur.toList.take (off + sLen * k) ++ us ++ cur.toList.drop (off + sLen * k + us.length)).toArray) := by
  have hf := run_first (P := P) w (size := k) (cap := c) hl hn hc
  have hmk : (sLen + m) * k ≤ sCap * k := Nat.mul_le_mul_right _ hroom
  rw [Nat.add_mul] at hmk
  have hst := run_storeCells_at P g (off + sLen * k) ety us 0 cur w hg (by omega) h1
  simp only [Nat.add_zero] at hst
  have hsz := run_sizeOf (P := P) (t := e) w
  simp [Builtin.append_, run_underlying ht.h, hsz, Builtin.lenOf, hroom, hf, add_none, hst]

theorem run_append_grow' {t ty e : TypeId} {k bytes : Nat} {z : Value} [ht : TyD P t (.slice e)] [hs : TyS P e k bytes z] {b0 : Option Addr} {sLen sCap : Nat} {olds : List Value} (hlo : olds.length = sLen * k) (hno : b0 = none → olds = []) (hco : ∀ ad, b0 = some ad → ∀ (j : Nat) (u : Value), olds[j]? = some u → w.cell? (ad.add j) = some u)
    {b : Option Addr} {m c : Nat} {us : List Value} (hl : us.length = m * k) (hn : b = none → us = []) (hc : ∀ ad, b = some ad → ∀ (j : Nat) (u : Value), us[j]? = some u → w.cell? (ad.add j) = some u)
    (hg : sCap < sLen + m) (hb : (sLen + m) * bytes ≤ 140737488355328) (hmax : sLen + m ≤ 9223372036854775807) :
    (Builtin.append_ #[t, t] ty #[.slice b0 sLen sCap, .slice b m c]).run P w =
      .ok (.slice (some ⟨w.heap.size, 0, none⟩) (sLen + m) (grownCap w (sLen + m) sCap e)) (w.drew.alloc (.cells (olds.toArray ++ us.toArray ++ Builtin.zeroCells z.cells (grownCap w (sLen + m) sCap e - (sLen + m))) e)) := by
  obtain ⟨i, hi1, hi2, hi3, hi4⟩ := hs.h
  subst hi2 hi3
  have hfit := growslice_fits hg hb
  have h48 : ¬ (281474976710656 < Builtin.nextslicecap (sLen + m) sCap * i.bytes) := by omega
  have h63 : ¬ (9223372036854775807 < ((sLen : Int) + (m : Int))) := by omega
  have hnr : ¬ (sLen + m ≤ sCap) := by omega
  have hf := run_first (P := P) w.drew (size := i.size) (cap := c) hl hn (fun ad h j u hu => by simpa using hc ad h j u hu)
  have hfo := run_first (P := P) w.drew (size := i.size) (cap := sCap) hlo hno (fun ad h j u hu => by simpa using hco ad h j u hu)
  simp [Builtin.append_, run_underlying ht.h, Go.sizeOf, typeInfo, zeroValue, hi1, hi4, Builtin.lenOf, hnr, h63, h48, Question.forced, hf, hfo, newRow, grownCap]
  rw [← Array.append_assoc, List.append_toArray olds us]
end

section
variable {P : Program} {σ0 : Store} {sz : Nat} {Q : Post} {env : Env} {σv : Store} {ops : Array Oper} {rest : List Oper} {dst : Option Nat} {ty : TypeId} {pos : String} {after : Array Edge}

theorem cellOwn {w : World} {φ : Phi} {σ : Store} {A : Nat → Prop} {id : Id} {k n : Nat} {es : List (List C)} {v : Value} (hid : σ[id]? = some (some (.cells k es))) (h1 : v.oneCell' = true) (h : OwnView w (φ id) k es.length 0 n v) : RelT w φ σ A (.c (.own id 0 n)) v :=
  .c (.own (Store.lt_of hid) h1 fun k' es' he => by rw [hid] at he; cases he; exact h)

/-- Into an array that is made anew. -/
theorem append_new {Γ : Cx} {φ : Phi} {a : Act} {w : World} (hR : R Γ sz (St.mk env σv) φ a w) {k : Nat} {t ty' e : TypeId} {bytes : Nat} {z : Value} [ht : TyD P t (.slice e)] [hs : TyS P e k bytes z] (hzk : (z.cells.size == k) = true)
    {b0 : Option Addr} {n cap0 : Nat} {old : List (List C)} {us0 : List Value} (ho : Shows w φ σv (Al Γ.N φ σv) k old b0 us0) (hon : old.length = n)
    {b : Option Addr} {c : Nat} {new : List (List C)} {us : List Value} (hn : Shows w φ σv (Al Γ.N φ σv) k new b us) (hg : cap0 < n + new.length) (hb : (n + new.length) * bytes ≤ 140737488355328) (hmax : n + new.length ≤ maxLen) (σ1 : Store)
    (hkill : ∀ (φ : Phi) (w : World), Rs Γ σv φ w → Kept w w φ φ σv σ1 (Al Γ.N φ σv) (Al Γ.N φ σ1) ∧ Rs Γ σ1 φ w) (hl1 : σ1.length = σv.length) :
    ∃ v' w' φ', (Builtin.append_ #[t, t] ty' #[.slice b0 n cap0, .slice b new.length c]).run P w = .ok v' w' ∧
      RelT w' φ' (σ1 ++ [.one (.cells k (old ++ new))]) (Al Γ.N φ' (σ1 ++ [.one (.cells k (old ++ new))])) (.c (.own (σv.length, []) 0 (n + new.length))) v' ∧ R Γ sz ⟨env, σ1 ++ [.one (.cells k (old ++ new))]⟩ φ' a w' := by
  have hmax' : n + new.length ≤ 9223372036854775807 := by simpa [maxLen] using hmax
  have hrun := run_append_grow' (P := P) (t := t) (ty := ty') w (by rw [ho.len, hon]) (fun h => by rw [ho.none h] at ho; exact List.eq_nil_of_length_eq_zero (by simpa using ho.len)) ho.cell (c := c) hn.len (fun h => by rw [hn.none h] at hn; exact List.eq_nil_of_length_eq_zero (by simpa using hn.len)) hn.cell hg hb hmax'
  have hge := grownCap_ge w (n + new.length) cap0 e
  have hcm : grownCap w (n + new.length) cap0 e ≤ maxLen := grownCap_le_maxLen w (n + new.length) cap0 e hmax
  obtain ⟨hK1, hR1⟩ := hkill φ w.drew hR.toRs.drew
  have hK0 := Kept.drew w φ σv (Al Γ.N φ σv)
  have hK01 := Kept.trans (show w.heap.size ≤ w.drew.heap.size from Nat.le_refl _) hK0 hK1
  have hap := app_rel ho hn
  have hz : z.cells.size = k := by simpa using hzk
  generalize hcap : grownCap w (n + new.length) cap0 e = cap at *
  have hsize : (us0.toArray ++ us.toArray ++ Builtin.zeroCells z.cells (cap - (n + new.length))).size = cap * k := by
    simp only [Array.size_append, List.size_toArray, size_zeroCells, hz, ho.len, hn.len, hon, ← Nat.add_mul]
    congr 1
    omega
  have hA := Rs.alloc (k := k) (es := old ++ new) (arr := us0.toArray ++ us.toArray ++ Builtin.zeroCells z.cells (cap - (n + new.length))) (ety := e) hR1 hap.1 (by
      rw [hsize, List.length_append, hon]
      exact Nat.mul_le_mul_right _ hge) (fun j e' o x he hx => by
      obtain ⟨u, hu, hr⟩ := hap.2 j e' o x he hx
      refine ⟨u, ?_, hr.mono hK01⟩
      rw [Array.getElem?_append_left (by
        have := (List.getElem?_eq_some_iff.1 hu).1
        simpa using this)]
      simpa using hu)
  rw [hl1] at hA
  refine ⟨_, _, phiNew σv.length φ w.heap.size, hrun, cellOwn (k := k) (es := old ++ new) (by rw [← hl1]; exact Store.get_last _ _) rfl (.inr ⟨w.heap.size, 0, cap, _, e, _, by simp [phiNew], rfl, fun _ => by simp, hge, hcm, by simp [hon], heap_alloc_new w.drew _, by rw [hsize]; simp⟩), ?_⟩
  exact hR.of (Kept.trans (show w.heap.size ≤ w.drew.heap.size from Nat.le_refl _) hK01 hA.1) hA.2

theorem AOps.append {x y : Operand} {t e : TypeId} {k bytes : Nat} {z : Value} {id : Id} {j n : Nat} {es new : List (List C)} {v : T} [ht : TyD P t (.slice e)] [hs : TyS P e k bytes z] (hzk : (z.cells.size == k) = true) (hbp : Nat.blt 0 bytes = true)
    (hx : ev env x = some (.c (.own id j n))) (hσ : σv[id]? = some (some (.cells k es))) (hy : ev env y = some v) (hsrc : Src σv k v new) (hb : (n + new.length) * bytes ≤ 140737488355328) (hd : dstOk sz dst = true)
    (h : AOps P σ0 sz ops Q rest ((St.mk env (σv.put id none ++ [.one (.cells k ((es.drop j).take n ++ new))])).put dst (.c (.own (σv.length, []) 0 (n + new.length))))) :
    AOps P σ0 sz ops Q (⟨dst, .call ⟨.builtin .append, #[x, y], #[t, t]⟩, ty, pos, after, none⟩ :: rest) (St.mk env σv) :=
  .valueW rfl hd _ _ (fun Γ φ a w hR => by
    obtain ⟨b', cap', us', hy1, hy2⟩ := hsrc.shows hR hy
    have hv := own_inv (ev_rel hR hx) hσ
    obtain ⟨b0, cap0, us0, hx1, hx2, hx3⟩ := view_shows hR hσ hv
    have ex : (execOp a.eval ⟨dst, .call ⟨.builtin .append, #[x, y], #[t, t]⟩, ty, pos, after, none⟩).run P w = ((Builtin.append_ #[t, t] ty #[.slice b0 n cap0, .slice b' new.length cap']).run P w).andThen fun v w => .ok (.value v) w := by
      simp [execOp, resolve, invoke, builtin, hx1, hy1]
    rw [ex]
    by_cases hroom : n + new.length ≤ cap0
    · rcases hv with ⟨h1, h2, h3, h4⟩ | ⟨b, base, cap, arr, ety, ad, hp, hv, had, hcap, hmax, hjn, hbk, hsz⟩
      · -- nil, and nothing is appended
        rw [hx1] at h2
        cases h2
        have hnew : new = [] := List.eq_nil_of_length_eq_zero (by omega)
        subst hnew
        subst h3
        obtain ⟨hK1, hR1⟩ := hR.toRs.kill id
        obtain ⟨hK2, hR2⟩ := hR1.virt k
        have hrun : (Builtin.append_ #[t, t] ty #[.slice none 0 0, .slice b' 0 cap']).run P w = .ok (.slice none 0 0) w := by
          have hf := run_first (P := P) w (size := k) (cap := cap') (b := b') (n := 0) (us := us') hy2.len (fun h => List.eq_nil_of_length_eq_zero (by simpa using hy2.len)) hy2.cell
          simp [Builtin.append_, run_underlying ht.h, run_sizeOf (t := e), Builtin.lenOf, hf]
        refine ⟨.slice none 0 0, w, (fun i => if i = (σv.length, []) then none else φ i), by rw [show ([] : List (List C)).length = 0 from rfl, hrun]; rfl, ?_, ?_⟩
        · simp only [List.take_zero, List.append_nil]
          exact cellOwn (k := k) (es := []) (by rw [← Store.length_put σv id none]; exact Store.get_last _ _) rfl (.inl ⟨by simp, rfl, rfl, rfl⟩)
        · simp only [List.take_zero, List.append_nil]
          rw [Store.length_put] at hK2 hR2
          exact hR.of (Kept.trans (Nat.le_refl _) hK1 hK2) hR2
      · rw [hx1] at hv
        cases hv
        have hpos : 0 < n + new.length ∨ n + new.length = 0 := by omega
        by_cases hc0 : 0 < cap0
        · have := had hc0
          subst this
          have hfit : base + j * k + cap0 * k ≤ arr.size := by rw [Nat.add_mul] at hsz; omega
          have hrun := run_append_room' (P := P) (t := t) (ty := ty) w (sLen := n) (sCap := cap0) hbk (c := cap') hy2.len (fun h => by rw [hy2.none h] at hy2; exact List.eq_nil_of_length_eq_zero (by simpa using hy2.len)) hy2.cell hy2.one hroom hfit
          have hap := app_rel hx3 hy2
          have hmk : (n + new.length) * k ≤ cap0 * k := Nat.mul_le_mul_right _ hroom
          rw [Nat.add_mul] at hmk
          have hus : us'.length = new.length * k := hy2.len
          have hus0 : us0.length = n * k := by rw [hx3.len, hx2]
          have hA := Rs.reown (k := k) (base' := base + j * k) (es' := (es.drop j).take n ++ new) (arr' := (arr.toList.take (base + j * k + n * k) ++ us' ++ arr.toList.drop (base + j * k + n * k + us'.length)).toArray) hR.toRs hσ hp hbk hap.1 (by simp only [List.length_append, hx2, List.size_toArray, List.length_take, List.length_drop, Array.length_toList, Nat.add_mul]; omega) (fun i e' o x' he hx' => by
            obtain ⟨u, hu, hr⟩ := hap.2 i e' o x' he hx'
            refine ⟨u, ?_, hr⟩
            have hsp := getElem?_splice arr.toList us' (base + j * k + n * k) (base + j * k + (i * k + o)) (by simp; omega)
            simp only [List.getElem?_toArray]
            rw [hsp]
            by_cases hio : i * k + o < n * k
            · rw [if_neg (by omega)]
              rw [List.getElem?_append_left (by omega)] at hu
              -- what stood there
              obtain ⟨arr2, ety2, hb2, _, hkk, hcs⟩ := own_cells hR hσ hp
              rw [hbk] at hb2; cases hb2
              have hi : i < n := by
                rcases Nat.lt_or_ge i n with h | h
                · exact h
                · have := Nat.mul_le_mul_right k h; omega
              have hcell := hx3.cell _ rfl _ u hu
              rw [add_none, cell_of hbk] at hcell
              simpa using hcell
            · rw [List.getElem?_append_right (by omega)] at hu
              have hlt := (List.getElem?_eq_some_iff.1 hu).1
              rw [if_pos (by omega), show base + j * k + (i * k + o) - (base + j * k + n * k) = i * k + o - us0.length by omega]
              exact hu)
          refine ⟨_, _, _, by rw [hrun]; rfl, ?_, hR.of hA.1 hA.2⟩
          refine cellOwn (k := k) (es := (es.drop j).take n ++ new) (by rw [← Store.length_put σv id none]; exact Store.get_last _ _) rfl (.inr ⟨b, base + j * k, cap0, _, ety, _, by simp, rfl, fun _ => by simp, hroom, hmax, by simp [hx2], setRow_heap w b arr _ ety (0, 0) hbk, ?_⟩)
          simp only [List.size_toArray, List.length_append, List.length_take, List.length_drop, Array.length_toList, Nat.zero_add]
          omega
        · -- no room at all, and nothing is appended
          have h0 : cap0 = 0 := by omega
          subst h0
          have hn0 : n = 0 := by omega
          have hnew : new = [] := List.eq_nil_of_length_eq_zero (by omega)
          subst hnew
          subst hn0
          have hrun : (Builtin.append_ #[t, t] ty #[.slice (some ad) 0 0, .slice b' 0 cap']).run P w = .ok (.slice (some ad) 0 0) w := by
            have hf := run_first (P := P) w (size := k) (cap := cap') (b := b') (n := 0) (us := us') hy2.len (fun h => List.eq_nil_of_length_eq_zero (by simpa using hy2.len)) hy2.cell
            have hus : us' = [] := List.eq_nil_of_length_eq_zero (by simpa using hy2.len)
            subst hus
            simp [Builtin.append_, run_underlying ht.h, run_sizeOf (t := e), Builtin.lenOf, hf, storeCells]
          have hA := Rs.reown (k := k) (base' := base + j * k) (es' := []) (arr' := arr) hR.toRs hσ hp hbk (fun i e' he => by simp at he) (by simp; rw [Nat.add_mul] at hsz; omega) (fun i e' o x' he => by simp at he)
          rw [setRow_self w b arr ety (0, 0) hbk] at hA
          refine ⟨.slice (some ad) 0 0, w, (fun i => if i = (σv.length, []) then some (b, base + j * k) else φ i), by rw [show ([] : List (List C)).length = 0 from rfl, hrun]; rfl, ?_, ?_⟩
          · simp only [List.take_zero, List.append_nil]
            exact cellOwn (k := k) (es := []) (by rw [← Store.length_put σv id none]; exact Store.get_last _ _) rfl (.inr ⟨b, base + j * k, 0, arr, ety, ad, by simp, rfl, fun h => by omega, by simp, by simp [maxLen], by simp, hbk, by simp; rw [Nat.add_mul] at hsz; omega⟩)
          · simp only [List.take_zero, List.append_nil]
            exact hR.of hA.1 hA.2
    · have hmax : n + new.length ≤ maxLen := by
        have hb0 : 0 < bytes := by simpa using hbp
        have : n + new.length ≤ (n + new.length) * bytes := Nat.le_mul_of_pos_right _ hb0
        simp only [maxLen]; omega
      obtain ⟨v', w', φ', g1, g2, g3⟩ := append_new (P := P) (t := t) (e := e) (ty' := ty) hR hzk (cap0 := cap0) hx3 hx2 (c := cap') hy2 (Nat.not_le.1 hroom) hb hmax (σv.put id none) (fun φ w h => h.kill id) (by simp)
      exact ⟨v', w', φ', by rw [g1]; rfl, g2, g3⟩) h
end
end Ab
