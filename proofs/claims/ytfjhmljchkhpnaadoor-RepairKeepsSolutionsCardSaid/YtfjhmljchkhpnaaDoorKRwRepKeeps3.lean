/-
  Texts that the proof stands on.
-/
import Derived.Test.YtfjhmljchkhpnaaDoorKRwRepKeeps2
import Derived.Lib.AppendStr
import Derived.Laws.BytesArg
import Derived.Sort.Grow
import Derived.Shelf.Slices.CompactI
import Derived.Shelf.SlSortCmp.Whole1
import Derived.Laws.CopyRow
import Derived.Laws.Cover3
import Derived.Shelf.Small.Bits
import Derived.Shelf.Strconv.Itoa0
import Derived.Shelf.Sort.Plain
import Derived.Shelf.Slices.Reverse
import Derived.Shelf.Slices.Equal
import Derived.Ground.Names2Prog
import Derived.Shelf.Slices.Clone
import Derived.Shelf.Slices.SearchI
import Derived.Shelf.Slices.Cells
import Derived.Shelf.Slices.In.SortNone
import Derived.Shelf.Slices.Empties
import Derived.Shelf.Slices.Empties2
import Derived.Ground.SlsfProg
import Derived.Shelf.SlSortCmp.Insertion
import Derived.Shelf.SlSortCmp.SiftDown1
import Derived.Shelf.SlSortCmp.HeapSort1
import Derived.Shelf.SlSortCmp.Insertion1
import Derived.Shelf.SlSortCmp.Median1
import Derived.Shelf.SlSortCmp.Pivot1
import Derived.Shelf.SlSortCmp.ReverseRange1
import Derived.Shelf.SlSortCmp.PartialInsertion1
import Derived.Shelf.SlSortCmp.PartitionEqual1
import Derived.Shelf.SlSortCmp.Partition1
import Derived.Shelf.SlSortCmp.Pdq1
import Derived.Shelf.SlSortCmp.NoneTotal
import Derived.Test.YtfjhmljchkhpnaaDoorProg
set_option linter.all false
section
namespace Ab
open Go
def strL (s : ByteArray) : List Int := s.data.toList.map fun b => (b.toNat : Int)
def strB (l : List Int) : ByteArray := ⟨(l.map fun n => UInt8.ofNat n.toNat).toArray⟩
def subS (s : ByteArray) (lo hi : Int) : Option ByteArray := if 0 ≤ lo ∧ lo ≤ hi ∧ hi ≤ s.size then some (s.extract lo.toNat hi.toNat) else none
theorem strL_len (s : ByteArray) : (strL s).length = s.size := by
  simp [strL]
theorem strCells_eq (s : ByteArray) : Lib.strCells s = (strL s).map fun n => Value.int .u8 n := by
  simp [Lib.strCells, strL]
structure ShowsS (w : World) (φ : Phi) (σ : Store) (A : Nat → Prop) (k : Nat) (es : List (List C)) (us : List Value) : Prop where
  len : us.length = es.length * k
  one : ∀ u ∈ us, u.oneCell' = true
  hk : ∀ (j : Nat) (e : List C), es[j]? = some e → e.length = k
  rel : ∀ (j : Nat) (e : List C) (o : Nat) (x : C), es[j]? = some e → e[o]? = some x → ∃ u, us[j * k + o]? = some u ∧ RelC w φ σ A x u
def strE (s : ByteArray) : List (List C) := (strL s).map fun n => [C.imm (.val (.int .u8 n))]
theorem str_shows (w : World) (φ : Phi) (σ : Store) (A : Nat → Prop) (s : ByteArray) : ShowsS w φ σ A 1 (strE s) (Lib.strCells s) := by
  refine ⟨by simp [strE, strL, Lib.strCells], Lib.strCells_oneCell s, fun j e he => ?_, fun j e o x he hx => ?_⟩
  · simp only [strE, List.getElem?_map, Option.map_eq_some_iff] at he
    obtain ⟨n, _, rfl⟩ := he
    rfl
  · simp only [strE, List.getElem?_map, Option.map_eq_some_iff] at he
    obtain ⟨n, h1, rfl⟩ := he
    cases o with
    | succ o => simp at hx
    | zero =>
      simp only [List.getElem?_cons_zero, Option.some.injEq] at hx
      subst hx
      refine ⟨.int .u8 n, ?_, .imm (.val rfl)⟩
      rw [strCells_eq, List.getElem?_map, Nat.mul_one, Nat.add_zero, h1]
      rfl
theorem app_relS {w : World} {φ : Phi} {σ : Store} {A : Nat → Prop} {k : Nat} {es new : List (List C)} {b : Option Addr} {us vs : List Value} (h : Shows w φ σ A k es b us) (g : ShowsS w φ σ A k new vs) :
    (∀ (j : Nat) (e : List C), (es ++ new)[j]? = some e → e.length = k) ∧ ∀ (j : Nat) (e : List C) (o : Nat) (x : C), (es ++ new)[j]? = some e → e[o]? = some x → ∃ u, (us ++ vs)[j * k + o]? = some u ∧ RelC w φ σ A x u := by
  refine ⟨fun j e he => ?_, fun j e o x he hx => ?_⟩
  · rw [List.getElem?_append] at he
    split at he
    · exact h.hk _ _ he
    · exact g.hk _ _ he
  · rw [List.getElem?_append] at he
    split at he
    · rename_i hj
      obtain ⟨u, hu, hr⟩ := h.rel j e o x he hx
      exact ⟨u, by rw [List.getElem?_append_left (List.getElem?_eq_some_iff.1 hu).1]; exact hu, hr⟩
    · rename_i hj
      obtain ⟨u, hu, hr⟩ := g.rel _ e o x he hx
      refine ⟨u, ?_, hr⟩
      have : us.length ≤ j * k + o := by
        rw [h.len]
        have := Nat.mul_le_mul_right k (Nat.not_lt.1 hj)
        omega
      rw [List.getElem?_append_right this, h.len]
      rw [Nat.sub_mul] at hu
      have := Nat.mul_le_mul_right k (Nat.not_lt.1 hj)
      rw [show j * k + o - es.length * k = j * k - es.length * k + o by omega]
      exact hu
section
variable {P : Program} (w : World)
theorem run_append_roomS {t u ty e : TypeId} {k bytes : Nat} {z : Value} [ht : TyD P t (.slice e)] [hu : TyD P u .string] [hs : TyS P e k bytes z] {g off sLen sCap : Nat} {cur : Array Value} {ety : TypeId} (hg : w.heap[g]? = some (.cells cur ety (0, 0)))
    (s : ByteArray) (hk1 : k = 1)
    (hroom : sLen + s.size ≤ sCap) (hfit : off + sCap * k ≤ cur.size) :
    (Builtin.append_ #[t, u] ty #[.slice (some ⟨g, off, none⟩) sLen sCap, .string s]).run P w =
      .ok (.slice (some ⟨g, off, none⟩) (sLen + s.size) sCap) (w.setRow g (cur.toList.take (off + sLen * k) ++ (Lib.strCells s) ++ cur.toList.drop (off + sLen * k + (Lib.strCells s).length)).toArray) := by
  have hl : (Lib.strCells s).length = s.size * k := by rw [Lib.strCells_length, hk1, Nat.mul_one]
  have h1 := Lib.strCells_oneCell s
  have hf := Lib.run_firstCells_string (P := P) w k s
  have hmk : (sLen + s.size) * k ≤ sCap * k := Nat.mul_le_mul_right _ hroom
  rw [Nat.add_mul] at hmk
  have hst := run_storeCells_at P g (off + sLen * k) ety (Lib.strCells s) 0 cur w hg (by omega) h1
  simp only [Nat.add_zero] at hst
  have hsz := run_sizeOf (P := P) (t := e) w
  simp [Builtin.append_, run_underlying ht.h, run_underlying hu.h, hsz, Builtin.lenOf, hroom, hf, add_none, hst]
theorem run_append_growS {t u ty e : TypeId} {k bytes : Nat} {z : Value} [ht : TyD P t (.slice e)] [hu : TyD P u .string] [hs : TyS P e k bytes z] {b0 : Option Addr} {sLen sCap : Nat} {olds : List Value} (hlo : olds.length = sLen * k) (hno : b0 = none → olds = []) (hco : ∀ ad, b0 = some ad → ∀ (j : Nat) (u : Value), olds[j]? = some u → w.cell? (ad.add j) = some u)
    (s : ByteArray) (hk1 : k = 1)
    (hg : sCap < sLen + s.size) (hb : (sLen + s.size) * bytes ≤ 140737488355328) (hmax : sLen + s.size ≤ 9223372036854775807) :
    (Builtin.append_ #[t, u] ty #[.slice b0 sLen sCap, .string s]).run P w =
      .ok (.slice (some ⟨w.heap.size, 0, none⟩) (sLen + s.size) (grownCap w (sLen + s.size) sCap e)) (w.drew.alloc (.cells (olds.toArray ++ (Lib.strCells s).toArray ++ Builtin.zeroCells z.cells (grownCap w (sLen + s.size) sCap e - (sLen + s.size))) e)) := by
  obtain ⟨i, hi1, hi2, hi3, hi4⟩ := hs.h
  subst hi2 hi3
  have hfit := growslice_fits hg hb
  have h48 : ¬ (281474976710656 < Builtin.nextslicecap (sLen + s.size) sCap * i.bytes) := by omega
  have h63 : ¬ (9223372036854775807 < ((sLen : Int) + (s.size : Int))) := by omega
  have hnr : ¬ (sLen + s.size ≤ sCap) := by omega
  have hf := Lib.run_firstCells_string (P := P) w.drew i.size s
  have hfo := run_first (P := P) w.drew (size := i.size) (cap := sCap) hlo hno (fun ad h j u hu => by simpa using hco ad h j u hu)
  simp [Builtin.append_, run_underlying ht.h, run_underlying hu.h, Go.sizeOf, typeInfo, zeroValue, hi1, hi4, Builtin.lenOf, hnr, h63, h48, Question.forced, hf, hfo, newRow, grownCap]
  rw [← Array.append_assoc, List.append_toArray olds (Lib.strCells s)]
end
section
variable {P : Program} {σ0 : Store} {sz : Nat} {Q : Post} {env : Env} {σv : Store} {ops : Array Oper} {rest : List Oper} {dst : Option Nat} {ty : TypeId} {pos : String} {after : Array Edge}
theorem append_newS {Γ : Cx} {φ : Phi} {a : Act} {w : World} (hR : R Γ sz (St.mk env σv) φ a w) {k : Nat} {t u ty' e : TypeId} {bytes : Nat} {z : Value} [ht : TyD P t (.slice e)] [hu : TyD P u .string] [hs : TyS P e k bytes z] (hzk : (z.cells.size == k) = true)
    {b0 : Option Addr} {n cap0 : Nat} {old : List (List C)} {us0 : List Value} (ho : Shows w φ σv (Al Γ.N φ σv) k old b0 us0) (hon : old.length = n)
    {new : List (List C)} (s : ByteArray) (hk1 : k = 1) (hns : new.length = s.size) (hn : ShowsS w φ σv (Al Γ.N φ σv) k new (Lib.strCells s)) (hg : cap0 < n + new.length) (hb : (n + new.length) * bytes ≤ 140737488355328) (hmax : n + new.length ≤ maxLen) (σ1 : Store)
    (hkill : ∀ (φ : Phi) (w : World), Rs Γ σv φ w → Kept w w φ φ σv σ1 (Al Γ.N φ σv) (Al Γ.N φ σ1) ∧ Rs Γ σ1 φ w) (hl1 : σ1.length = σv.length) :
    ∃ v' w' φ', (Builtin.append_ #[t, u] ty' #[.slice b0 n cap0, .string s]).run P w = .ok v' w' ∧
      RelT w' φ' (σ1 ++ [.one (.cells k (old ++ new))]) (Al Γ.N φ' (σ1 ++ [.one (.cells k (old ++ new))])) (.c (.own (σv.length, []) 0 (n + new.length))) v' ∧ R Γ sz ⟨env, σ1 ++ [.one (.cells k (old ++ new))]⟩ φ' a w' := by
  have hmax' : n + new.length ≤ 9223372036854775807 := by simpa [maxLen] using hmax
  have hrun := run_append_growS (P := P) (t := t) (u := u) (ty := ty') (sLen := n) (sCap := cap0) w (by rw [ho.len, hon]) (fun h => by rw [ho.none h] at ho; exact List.eq_nil_of_length_eq_zero (by simpa using ho.len)) ho.cell s hk1 (by omega) (by rw [← hns]; exact hb) (by omega)
  rw [← hns] at hrun
  have hge := grownCap_ge w (n + new.length) cap0 e
  have hcm : grownCap w (n + new.length) cap0 e ≤ maxLen := grownCap_le_maxLen w (n + new.length) cap0 e hmax
  obtain ⟨hK1, hR1⟩ := hkill φ w.drew hR.toRs.drew
  have hK0 := Kept.drew w φ σv (Al Γ.N φ σv)
  have hK01 := Kept.trans (show w.heap.size ≤ w.drew.heap.size from Nat.le_refl _) hK0 hK1
  have hap := app_relS ho hn
  have hz : z.cells.size = k := by simpa using hzk
  generalize hcap : grownCap w (n + new.length) cap0 e = cap at *
  have hsize : (us0.toArray ++ (Lib.strCells s).toArray ++ Builtin.zeroCells z.cells (cap - (n + new.length))).size = cap * k := by
    simp only [Array.size_append, List.size_toArray, size_zeroCells, hz, ho.len, hn.len, hon, ← Nat.add_mul]
    congr 1
    omega
  have hA := Rs.alloc (k := k) (es := old ++ new) (arr := us0.toArray ++ (Lib.strCells s).toArray ++ Builtin.zeroCells z.cells (cap - (n + new.length))) (ety := e) hR1 hap.1 (by
      rw [hsize, List.length_append, hon]
      exact Nat.mul_le_mul_right _ hge) (fun j e' o x he hx => by
      obtain ⟨u, hu, hr⟩ := hap.2 j e' o x he hx
      refine ⟨u, ?_, hr.mono hK01⟩
      rw [Array.getElem?_append_left (by
        have := (List.getElem?_eq_some_iff.1 hu).1
        simpa using this)]
      simpa using hu)
  rw [hl1] at hA
  refine ⟨_, _, phiNew σv.length φ w.heap.size, hrun, cellOwn (k := k) (es := old ++ new) (by rw [← hl1]; exact Store.get_last _ _) rfl (.inr ⟨w.heap.size, 0, cap, _, e, _, by simp [phiNew], rfl, fun _ => by simp, hge, hcm, by simp [hon], heap_alloc_new w.drew _, by rw [hsize]; simp⟩), ?_⟩
  exact hR.of (Kept.trans (show w.heap.size ≤ w.drew.heap.size from Nat.le_refl _) hK01 hA.1) hA.2
theorem AOps.appendStr {x y : Operand} {t u e : TypeId} {k bytes : Nat} {z : Value} {id : Id} {j n : Nat} {es : List (List C)} {s : ByteArray} (hk1 : k = 1) [ht : TyD P t (.slice e)] [hu : TyD P u .string] [hs : TyS P e k bytes z] (hzk : (z.cells.size == k) = true) (hbp : Nat.blt 0 bytes = true)
    (hx : ev env x = some (.c (.own id j n))) (hσ : σv[id]? = some (some (.cells k es))) (hy : ev env y = some (.c (.imm (.val (.string s))))) (hb : (n + s.size) * bytes ≤ 140737488355328) (hd : dstOk sz dst = true)
    (h : AOps P σ0 sz ops Q rest ((St.mk env (σv.put id none ++ [.one (.cells k ((es.drop j).take n ++ strE s))])).put dst (.c (.own (σv.length, []) 0 (n + s.size))))) :
    AOps P σ0 sz ops Q (⟨dst, .call ⟨.builtin .append, #[x, y], #[t, u]⟩, ty, pos, after, none⟩ :: rest) (St.mk env σv) :=
  .valueW rfl hd _ _ (fun Γ φ a w hR => by
    have hy1 : a.eval y = .string s := (valM_inv (ev_rel hR hy)).1
    have hy2 : ShowsS w φ σv (Al Γ.N φ σv) k (strE s) (Lib.strCells s) := by subst hk1; exact str_shows _ _ _ _ s
    have hns : (strE s).length = s.size := by simp [strE, strL_len]
    rw [← hns] at hb ⊢
    generalize hnw : strE s = new at hb hy2 hns ⊢
    generalize hus' : Lib.strCells s = us' at hy2
    have hv := own_inv (ev_rel hR hx) hσ
    obtain ⟨b0, cap0, us0, hx1, hx2, hx3⟩ := view_shows hR hσ hv
    have ex : (execOp a.eval ⟨dst, .call ⟨.builtin .append, #[x, y], #[t, u]⟩, ty, pos, after, none⟩).run P w = ((Builtin.append_ #[t, u] ty #[.slice b0 n cap0, .string s]).run P w).andThen fun v w => .ok (.value v) w := by
      simp [execOp, resolve, invoke, builtin, hx1, hy1]
    rw [ex]
    by_cases hroom : n + new.length ≤ cap0
    · rcases hv with ⟨h1, h2, h3, h4⟩ | ⟨b, base, cap, arr, ety, ad, hp, hv, had, hcap, hmax, hjn, hbk, hsz⟩
      · -- nil, and nothing is appended
        rw [hx1] at h2
        cases h2
        have hnew : new = [] := List.eq_nil_of_length_eq_zero (by omega)
        subst hnew
        subst h3
        obtain ⟨hK1, hR1⟩ := hR.toRs.kill id
        obtain ⟨hK2, hR2⟩ := hR1.virt k
        have hrun : (Builtin.append_ #[t, u] ty #[.slice none 0 0, .string s]).run P w = .ok (.slice none 0 0) w := by
          have hs0 : s.size = 0 := by rw [← hns]; rfl
          have hc0 : us' = [] := List.eq_nil_of_length_eq_zero (by simpa using hy2.len)
          have hf := Lib.run_firstCells_string (P := P) w k s
          rw [hs0, hus', hc0] at hf
          simp [Builtin.append_, run_underlying ht.h, run_underlying hu.h, run_sizeOf (t := e), Builtin.lenOf, hs0, hf]
        refine ⟨.slice none 0 0, w, (fun i => if i = (σv.length, []) then none else φ i), by rw [hrun]; rfl, ?_, ?_⟩
        · simp only [List.take_zero, List.append_nil]
          exact cellOwn (k := k) (es := []) (by rw [← Store.length_put σv id none]; exact Store.get_last _ _) rfl (.inl ⟨by simp, rfl, rfl, rfl⟩)
        · simp only [List.take_zero, List.append_nil]
          rw [Store.length_put] at hK2 hR2
          exact hR.of (Kept.trans (Nat.le_refl _) hK1 hK2) hR2
      · rw [hx1] at hv
        cases hv
        have hpos : 0 < n + new.length ∨ n + new.length = 0 := by omega
        by_cases hc0 : 0 < cap0
        · have := had hc0
          subst this
          have hfit : base + j * k + cap0 * k ≤ arr.size := by rw [Nat.add_mul] at hsz; omega
          have hrun := run_append_roomS (P := P) (t := t) (u := u) (ty := ty) w (sLen := n) (sCap := cap0) hbk s hk1 (by omega) hfit
          rw [← hns, hus'] at hrun
          have hap := app_relS hx3 hy2
          have hmk : (n + new.length) * k ≤ cap0 * k := Nat.mul_le_mul_right _ hroom
          rw [Nat.add_mul] at hmk
          have hus : us'.length = new.length * k := hy2.len
          have hus0 : us0.length = n * k := by rw [hx3.len, hx2]
          have hA := Rs.reown (k := k) (base' := base + j * k) (es' := (es.drop j).take n ++ new) (arr' := (arr.toList.take (base + j * k + n * k) ++ us' ++ arr.toList.drop (base + j * k + n * k + us'.length)).toArray) hR.toRs hσ hp hbk hap.1 (by simp only [List.length_append, hx2, List.size_toArray, List.length_take, List.length_drop, Array.length_toList, Nat.add_mul]; omega) (fun i e' o x' he hx' => by
            obtain ⟨u, hu, hr⟩ := hap.2 i e' o x' he hx'
            refine ⟨u, ?_, hr⟩
            have hsp := getElem?_splice arr.toList us' (base + j * k + n * k) (base + j * k + (i * k + o)) (by simp; omega)
            simp only [List.getElem?_toArray]
            rw [hsp]
            by_cases hio : i * k + o < n * k
            · rw [if_neg (by omega)]
              rw [List.getElem?_append_left (by omega)] at hu
              -- what stood there
              obtain ⟨arr2, ety2, hb2, _, hkk, hcs⟩ := own_cells hR hσ hp
              rw [hbk] at hb2; cases hb2
              have hi : i < n := by
                rcases Nat.lt_or_ge i n with h | h
                · exact h
                · have := Nat.mul_le_mul_right k h; omega
              have hcell := hx3.cell _ rfl _ u hu
              rw [add_none, cell_of hbk] at hcell
              simpa using hcell
            · rw [List.getElem?_append_right (by omega)] at hu
              have hlt := (List.getElem?_eq_some_iff.1 hu).1
              rw [if_pos (by omega), show base + j * k + (i * k + o) - (base + j * k + n * k) = i * k + o - us0.length by omega]
              exact hu)
          refine ⟨_, _, _, by rw [hrun]; rfl, ?_, hR.of hA.1 hA.2⟩
          refine cellOwn (k := k) (es := (es.drop j).take n ++ new) (by rw [← Store.length_put σv id none]; exact Store.get_last _ _) rfl (.inr ⟨b, base + j * k, cap0, _, ety, _, by simp, rfl, fun _ => by simp, hroom, hmax, by simp [hx2], setRow_heap w b arr _ ety (0, 0) hbk, ?_⟩)
          simp only [List.size_toArray, List.length_append, List.length_take, List.length_drop, Array.length_toList, Nat.zero_add]
          omega
        · -- no room at all, and nothing is appended
          have h0 : cap0 = 0 := by omega
          subst h0
          have hn0 : n = 0 := by omega
          have hnew : new = [] := List.eq_nil_of_length_eq_zero (by omega)
          subst hnew
          subst hn0
          have hrun : (Builtin.append_ #[t, u] ty #[.slice (some ad) 0 0, .string s]).run P w = .ok (.slice (some ad) 0 0) w := by
            have hs0 : s.size = 0 := by rw [← hns]; rfl
            have hc0 : us' = [] := List.eq_nil_of_length_eq_zero (by simpa using hy2.len)
            have hf := Lib.run_firstCells_string (P := P) w k s
            rw [hs0, hus', hc0] at hf
            simp [Builtin.append_, run_underlying ht.h, run_underlying hu.h, run_sizeOf (t := e), Builtin.lenOf, hs0, hf, storeCells]
          have hA := Rs.reown (k := k) (base' := base + j * k) (es' := []) (arr' := arr) hR.toRs hσ hp hbk (fun i e' he => by simp at he) (by simp; rw [Nat.add_mul] at hsz; omega) (fun i e' o x' he => by simp at he)
          rw [setRow_self w b arr ety (0, 0) hbk] at hA
          refine ⟨.slice (some ad) 0 0, w, (fun i => if i = (σv.length, []) then some (b, base + j * k) else φ i), by rw [hrun]; rfl, ?_, ?_⟩
          · simp only [List.take_zero, List.append_nil]
            exact cellOwn (k := k) (es := []) (by rw [← Store.length_put σv id none]; exact Store.get_last _ _) rfl (.inr ⟨b, base + j * k, 0, arr, ety, ad, by simp, rfl, fun h => by omega, by simp, by simp [maxLen], by simp, hbk, by simp; rw [Nat.add_mul] at hsz; omega⟩)
          · simp only [List.take_zero, List.append_nil]
            exact hR.of hA.1 hA.2
    · have hmax : n + new.length ≤ maxLen := by
        have hb0 : 0 < bytes := by simpa using hbp
        have : n + new.length ≤ (n + new.length) * bytes := Nat.le_mul_of_pos_right _ hb0
        simp only [maxLen]; omega
      obtain ⟨v', w', φ', g1, g2, g3⟩ := append_newS (P := P) (t := t) (u := u) (e := e) (ty' := ty) hR hzk (cap0 := cap0) hx3 hx2 s hk1 hns (by rw [hus']; exact hy2) (Nat.not_le.1 hroom) hb hmax (σv.put id none) (fun φ w h => h.kill id) (by simp)
      exact ⟨v', w', φ', by rw [g1]; rfl, g2, g3⟩) h
end
abbrev eU8 (n : Int) : List I := [.val (.int .u8 n)]
theorem strE_eq (s : ByteArray) : strE s = ((strL s).map eU8).map (·.map C.imm) := by simp [strE]
section
variable {P : Program} {σ0 : Store} {sz : Nat} {Q : Post} {env env' : Env} {σv σ' : Store} {ops : Array Oper} {rest : List Oper} {dst : Option Nat} {ty : TypeId} {pos : String} {after : Array Edge}
theorem S.appendStr {l l' : List Int} {s : ByteArray} {x y : Operand} {t u e : TypeId} {bytes m : Nat} {n : Id} {z : Value} {id : Id} {σ1 : Store} [ht : TyD P t (.slice e)] [hu : TyD P u .string] [hs : TyS P e 1 bytes z]
    (ha : app bytes l (strL s) = some l') (hzk : (z.cells.size == 1) = true) (hbp : Nat.blt 0 bytes = true)
    (hx : ev env x = some (.c (.own id 0 m))) (hm : m = l.length) (hσ : σv[id]? = some (some (vec 1 eU8 l))) (hy : ev env y = some (.c (.imm (.val (.string s))))) (hn : newF σv = some n) (h1 : putF σv id none = some σ1) (hσ' : snocF σ1 (.one (vec 1 eU8 l')) = some σ') (hd : dstOk sz dst = true)
    (h : AOps P σ0 sz ops Q rest (St.mk (putE env dst (.c (.own n 0 l'.length))) σ')) :
    AOps P σ0 sz ops Q (⟨dst, .call ⟨.builtin .append, #[x, y], #[t, u]⟩, ty, pos, after, none⟩ :: rest) (St.mk env σv) := by
  obtain ⟨hb, rfl⟩ := app_get ha
  have h2 := putF_get h1
  have h3 := newF_eq hn; have h4 := snocF_eq hσ'
  subst hm h2 h3 h4
  refine AOps.appendStr (s := s) (k := 1) rfl hzk hbp hx hσ hy (by rw [← strL_len]; exact hb) hd ?_
  have e1 : (((((l.map eU8).map (·.map C.imm)).drop 0).take l.length) ++ strE s) = ((l ++ strL s).map eU8).map (·.map C.imm) := by
    rw [List.drop_zero, List.take_of_length_le (by simp), strE_eq]; simp
  have e2 : l.length + s.size = (l ++ strL s).length := by simp [strL_len]
  rw [e1, e2]
  exact h
/-- A part of a string. -/
theorem S.subStr {s s' : ByteArray} {x l r : Operand} {t : TypeId} {kk kk' : IntKind} {lo hi : Int} [ht : TyD P t .string]
    (hsub : subS s lo hi = some s') (hx : ev env x = some (.c (.imm (.val (.string s))))) (hl : ev env l = some (.c (.imm (.val (.int kk lo))))) (hr : ev env r = some (.c (.imm (.val (.int kk' hi))))) (hd : dstOk sz dst = true)
    (h : AOps P σ0 sz ops Q rest (St.mk (putE env dst (.c (.imm (.val (.string s'))))) σv)) : AOps P σ0 sz ops Q (⟨dst, .slice t x (some l) (some r) none, ty, pos, after, none⟩ :: rest) (St.mk env σv) := by
  unfold subS at hsub
  split at hsub
  · rename_i hb
    cases hsub
    refine .value rfl hd _ (fun Γ φ a w hR => ?_) h
    refine ⟨.string (s.extract lo.toNat hi.toNat), ?_, .c (.imm (.val rfl))⟩
    have hx1 := ev_val hR hx
    have hl1 := ev_val hR hl
    have hr1 := ev_val hR hr
    obtain ⟨a1, a2, a3⟩ := hb
    obtain ⟨lo', rfl⟩ := Int.eq_ofNat_of_zero_le a1
    obtain ⟨hi', rfl⟩ := Int.eq_ofNat_of_zero_le (Int.le_trans a1 a2)
    have := run_slice_string (P := P) w t s kk kk' (lo' : Int) (hi' : Int) ht.h (by omega) (by omega) (by omega)
    simp only [Int.toNat_natCast] at this
    simp [execOp, hx1, hl1, hr1, Instr.sliceAt, run_underlying ht.h, this, Result.andThen]
  · cases hsub
/-- Bytes as' a string. -/
theorem S.bytesStr {x : Operand} {src d e : TypeId} {id : Id} {m : Nat} {l : List Int} [h1 : TyD P src (.slice e)] [h2 : TyD P e (.int .u8)] [h3 : TyD P d .string]
    (hx : ev env x = some (.c (.own id 0 m))) (hm : m = l.length) (hσ : σv[id]? = some (some (vec 1 eU8 l))) (hd : dstOk sz dst = true)
    (h : AOps P σ0 sz ops Q rest (St.mk (putE env dst (.c (.imm (.val (.string (strB l)))))) σv)) : AOps P σ0 sz ops Q (⟨dst, .convert src d x, ty, pos, after, none⟩ :: rest) (St.mk env σv) := by
  refine .value rfl hd _ (fun Γ φ a w hR => ?_) h
  refine ⟨.string (strB l), ?_, .c (.imm (.val rfl))⟩
  subst hm
  have hv := own_inv (ev_rel hR hx) hσ
  obtain ⟨b0, cap0, us0, hx1, hx2, hx3⟩ := view_shows hR hσ hv
  have hes : (List.take l.length (List.drop 0 ((l.map eU8).map (·.map C.imm)))) = (l.map eU8).map (·.map C.imm) := by
    rw [List.drop_zero, List.take_of_length_le (by simp)]
  rw [hes] at hx3
  have hus : us0 = l.map (Value.int .u8) := by
    apply List.ext_getElem?
    intro j
    rcases Nat.lt_or_ge j l.length with hj | hj
    · obtain ⟨u, hu, hr⟩ := hx3.rel j [C.imm (.val (.int .u8 l[j]))] 0 _ (by simp [hj]) rfl
      rw [Nat.mul_one, Nat.add_zero] at hu
      have hu2 : u = .int .u8 l[j] := by
        cases hr with | imm h => cases h with | val h => rfl
      rw [hu, hu2]; simp [hj]
    · have := hx3.len
      rw [List.getElem?_eq_none (by rw [this]; simpa using hj), List.getElem?_eq_none (by simpa using hj)]
  cases b0 with
  | none =>
    have hl : l = [] := by
      have := hx3.none rfl
      simpa using this
    subst hl
    simp [execOp, hx1, convert, run_underlying h1.h, run_underlying h2.h, run_underlying h3.h, Conv.bytesToString, strB, Result.andThen]
    rfl
  | some ad =>
    have hl := run_loadCells_list (P := P) w ad (l.map (Value.int .u8)) (fun j v hj => hx3.cell ad rfl j v (by rw [hus]; exact hj))
    simp only [List.length_map] at hl
    have hrun : (convert src d (.slice (some ad) l.length cap0)).run P w = .ok (.string (strB l)) w := by
      rw [run_convert_bytes_string w src d e (some ad) l.length cap0 h1.h h2.h h3.h, run_bytesToString w ad l.length cap0 _ hl, foldl_push_bytes]
      have he0 : ByteArray.empty.data = #[] := rfl
      rw [he0]
      simp [strB]
    simp [execOp, hx1, hrun, Result.andThen]
end
/-! ### Arrays of numbers compared -/
section
variable {P : Program}
variable {σ0 : Store} {sz : Nat} {Q : Post} {env env' : Env} {σv σ' : Store} {ops : Array Oper} {rest : List Oper} {dst : Option Nat} {ty : TypeId} {pos : String} {after : Array Edge}
end
end Ab
end
section
namespace Ab
open Go Go.Sort
theorem Rs.refl {Γ : Cx} (h : Good Γ) : Rs Γ Γ.σ0 Γ.φ0 Γ.w0 where
  good := h
  st := h.st
  keep i blk b base hi hp hK := hK.2 i blk base hi hp
  os := rfl
  tape := rfl
  drawn := Nat.le_refl _
  output := rfl
  size := Nat.le_refl _
  block _ _ := rfl
  kept := Kept.refl _ _ _ _
theorem Kept.ahead (w : World) (n : Nat) (φ : Phi) (σ : Store) (A : Nat → Prop) : Kept w (Go.Sort.ahead w n) φ φ σ σ A A :=
  ⟨fun _ _ _ => rfl, fun _ h _ => h, Nat.le_refl _, fun _ _ es _ h => ⟨es, h, rfl, rfl, fun _ _ arr _ _ h2 => ⟨arr, h2, rfl⟩⟩, fun _ p cs _ h => ⟨rfl, p, cs, h⟩⟩
theorem Rs.ahead {Γ : Cx} {σ : Store} {φ : Phi} {w : World} (h : Rs Γ σ φ w) (n : Nat) : Rs Γ σ φ (Go.Sort.ahead w n) :=
  { good := h.good, st := ⟨fun i b hi => (h.st.blk i b hi).mono (Kept.ahead w n φ σ _) (fun _ _ _ => rfl), h.st.inj⟩,
    keep := h.keep, os := h.os, tape := h.tape, drawn := Nat.le_trans h.drawn (Nat.le_add_right _ _), output := h.output, size := h.size, block := h.block,
    kept := Kept.trans h.size h.kept (Kept.ahead w n φ σ _) }
theorem Kept.grow (w : World) (os : Array Obj) (φ : Phi) (σ : Store) (A : Nat → Prop) : Kept w (Go.Sort.grow w os) φ φ σ σ A A :=
  ⟨fun _ _ hl => heap_grow_old w os hl, fun _ h _ => h, Nat.le_refl _, fun _ _ es _ h => ⟨es, h, rfl, rfl, fun _ _ arr _ _ h2 => ⟨arr, (heap_grow_old w os (Array.getElem?_eq_some_iff.1 h2).1).trans h2, rfl⟩⟩, fun _ p cs _ h => ⟨rfl, p, cs, h⟩⟩
theorem Rs.blk_lt {Γ : Cx} {σ : Store} {φ : Phi} {w : World} (h : Rs Γ σ φ w) {i : Id} {blk : Blk} {b base : Nat} (hi : σ[i]? = some (some blk)) (hp : φ i = some (b, base)) : b < w.heap.size := Al.own_lt h.st hi hp
theorem Rs.grow {Γ : Cx} {σ : Store} {φ : Phi} {w : World} (h : Rs Γ σ φ w) (os : Array Obj) : Rs Γ σ φ (Go.Sort.grow w os) :=
  { good := h.good, st := ⟨fun i b hi => (h.st.blk i b hi).mono (Kept.grow w os φ σ _) (fun g base hp => heap_grow_old w os (h.blk_lt hi hp)), h.st.inj⟩,
    keep := h.keep, os := h.os, tape := h.tape, drawn := h.drawn, output := h.output, size := Nat.le_trans h.size (by simp), block := fun b hK => (heap_grow_old w os (Nat.lt_of_lt_of_le hK.1 h.size)).trans (h.block b hK),
    kept := Kept.trans h.size h.kept (Kept.grow w os φ σ _) }
theorem putRow_setRow {w : World} {b off : Nat} {arr : Array Value} {ety : TypeId} {fr : Nat × Nat} {d : Array Int} (hb : w.heap[b]? = some (.cells arr ety fr)) :
    putRow (Value.int .i64) w b off d = w.setRow b (putCells (Value.int .i64) off d arr) := by
  unfold putRow mapBlock World.setRow
  congr 1
  apply Array.ext_getElem?
  intro k
  simp only [Array.getElem?_modify]
  by_cases hk : b = k
  · subst hk; simp only [if_true, hb, Option.map_some, onCells]
  · simp [hk]
theorem setRow_self {w : World} {b : Nat} {arr : Array Value} {ety : TypeId} {fr : Nat × Nat} (hb : w.heap[b]? = some (.cells arr ety fr)) : w.setRow b arr = w := by
  have key : ∀ h : Array Obj, h = w.heap → ({ w with heap := h } : World) = w := by rintro _ rfl; rfl
  refine key _ ?_
  apply Array.ext_getElem?
  intro k
  simp only [Array.getElem?_modify]
  by_cases hk : b = k
  · subst hk; simp only [if_true, hb, Option.map_some]
  · simp [hk]
theorem putCells_size {off : Nat} {d : Array Int} {arr : Array Value} : (putCells (Value.int .i64) off d arr).size = arr.size := by simp [putCells]
theorem putCells_get {off : Nat} {d : List Int} {arr : Array Value} (h : off + d.length ≤ arr.size) {j : Nat} {x : Int} (hj : d[j]? = some x) : (putCells (Value.int .i64) off d.toArray arr)[off + j]? = some (.int .i64 x) := by
  have hjl := (List.getElem?_eq_some_iff.1 hj).1
  have hx := (List.getElem?_eq_some_iff.1 hj).2
  simp only [putCells, Array.getElem?_mapIdx]
  rw [Array.getElem?_eq_getElem (by omega)]
  simp only [Option.map_some, List.size_toArray]
  rw [if_pos (by omega)]
  simp [hjl, hx]
theorem int_cells {w : World} {φ : Phi} {σ : Store} {A : Nat → Prop} {l : List Int} {base : Nat} {arr : Array Value}
    (hc : ∀ (j : Nat) (e : List C) (o : Nat) (x : C), ((l.map intI).map (·.map C.imm))[j]? = some e → e[o]? = some x → ∃ u, arr[base + (j * 1 + o)]? = some u ∧ RelC w φ σ A x u) {j : Nat} {x : Int} (hj : l[j]? = some x) : arr[base + j]? = some (.int .i64 x) := by
  obtain ⟨u, hu, hr⟩ := hc j _ 0 (.imm (.val (.int .i64 x))) (by simp [hj]; rfl) rfl
  cases hr with | imm hr => cases hr; simpa using hu
theorem holds_of {w : World} {l : List Int} {b base : Nat} {arr : Array Value} {ety : TypeId} (hb : w.heap[b]? = some (.cells arr ety (0, 0))) (hc : ∀ (j : Nat) (x : Int), l[j]? = some x → arr[base + j]? = some (.int .i64 x)) : Holds (Value.int .i64) w b base l.toArray := by
  intro j hj
  have hjl : j < l.length := by simpa using hj
  refine ⟨?_, by simp [World.frozen?, hb]⟩
  rw [World.cell?]
  simp only [hb]
  rw [hc j l[j] (List.getElem?_eq_getElem hjl)]
  simp [hjl]
theorem vec_len {l : List Int} : ((l.map intI).map (·.map C.imm)).length = l.length := by simp
theorem vec_hk {l : List Int} {j : Nat} {e : List C} (h : ((l.map intI).map (·.map C.imm))[j]? = some e) : e.length = 1 := by
  simp only [List.map_map, List.getElem?_map, Option.map_eq_some_iff] at h
  obtain ⟨a, _, rfl⟩ := h; rfl
theorem vec_hc {w : World} {φ : Phi} {σ : Store} {A : Nat → Prop} {l : List Int} {base : Nat} {arr : Array Value} (h : ∀ (j : Nat) (x : Int), l[j]? = some x → arr[base + j]? = some (.int .i64 x)) (j : Nat) (e : List C) (o : Nat) (x : C) (he : ((l.map intI).map (·.map C.imm))[j]? = some e) (hx : e[o]? = some x) :
    ∃ u, arr[base + (j * 1 + o)]? = some u ∧ RelC w φ σ A x u := by
  simp only [List.map_map, List.getElem?_map, Option.map_eq_some_iff] at he
  obtain ⟨a, ha, rfl⟩ := he
  match o with
  | 0 =>
    cases hx
    exact ⟨_, by simpa using h j a ha, .imm (.val rfl)⟩
  | o + 1 => simp at hx
abbrev srt (l : List Int) : List Int := l.mergeSort fun x y => decide (x ≤ y)
def fnFacts (P : Program) (f : FuncId) : Prop := ∃ fn, P.funcs[f]? = some fn ∧ (fn.name == "runtime.NumGoroutine") = false ∧ fn.body.isNone = false
theorem sort_fn {P : Program} {f : FuncId} (hf : fnFacts P f)
    (hC : ∀ (blk off cap : Nat) (zs : List Int) (w : World), Holds (Value.int .i64) w blk off zs.toArray → blk < w.heap.size → zs.length < 4611686018427387904 → Calls P f #[.slice (some ⟨blk, off, none⟩) zs.length cap] w fun e w' => e = .returned (.tuple #[]) ∧ ∃ n os, w' = Go.Sort.grow (putRow (Value.int .i64) (Go.Sort.ahead w n) blk off (srt zs).toArray) os)
    (hC0 : ∀ (p : Option Addr) (cap : Nat) (w : World), Calls P f #[.slice p 0 cap] w fun e w' => e = .returned (.tuple #[]) ∧ w' = w)
    {σ : Store} {id : Id} {l : List Int} (hσ : σ[id]? = some (some (vec 1 intI l))) (hl : l.length < 4611686018427387904) :
    FnOk P f [.c (.own id 0 l.length)] σ fun r σ' => r = .tup [] ∧ σ'.length = σ.length ∧ ∀ i : Id, σ'[i]? = (σ.put id (some (vec 1 intI (srt l))))[i]? := by
  refine ⟨hf, fun Γ vs hΓ hG hlen hrel => ?_⟩
  subst hΓ
  match vs, hlen with
  | [u], _ =>
  have hu := own_inv (hrel 0 _ u rfl rfl) hσ
  have tupR : ∀ {w φ σ A}, RelT w φ σ A (.tup []) (.tuple #[]) := fun {w φ σ A} => RelT.tup (ts := []) (fun _ => undef) fun i t h => by simp at h
  rw [vec_len] at hu
  have empty : ∀ (p : Option Addr) (cap : Nat), l = [] → Calls P f #[.slice p 0 cap] Γ.w0 fun e w' => ∃ v r σ' φ', e = .returned v ∧ (r = .tup [] ∧ σ'.length = Γ.σ0.length ∧ ∀ i : Id, σ'[i]? = (Γ.σ0.put id (some (vec 1 intI (srt l))))[i]?) ∧ RelT w' φ' σ' (Al Γ.N φ' σ') r v ∧ Rs Γ σ' φ' w' := fun p cap he => by
    refine (hC0 p cap Γ.w0).mono ?_
    rintro e w' ⟨rfl, rfl⟩
    refine ⟨_, .tup [], Γ.σ0, Γ.φ0, rfl, ⟨rfl, rfl, fun i => ?_⟩, tupR, Rs.refl hG⟩
    have : srt l = l := by rw [he]; simp [srt]
    rw [this]
    by_cases hi : i = id
    · rw [hi, Store.get_put_eq hσ, hσ]
    · rw [Store.get_put_ne hi]
  rcases hu with ⟨_, hv, _, h0⟩ | ⟨b, base, cap, arr, ety, a, hp, hv, ha, hcap, hmax, hjn, hbk, hsz⟩
  · have he : l = [] := List.eq_nil_of_length_eq_zero (by omega)
    rw [hv]
    exact empty none 0 he
  · rw [hv]
    by_cases hc0 : 0 < cap
    · have := ha hc0
      subst this
      simp only [Nat.zero_mul, Nat.add_zero]
      have hR := Rs.refl hG
      rcases hR.st.blk _ _ hσ with ⟨h1, _⟩ | ⟨b', base', arr2, ety2, h1, h2, h3, h4, h5⟩
      · rw [hp] at h1; cases h1
      · rw [hp] at h1; cases h1
        rw [hbk] at h2; cases h2
        rw [vec_len] at h3
        have hcell : ∀ (j : Nat) (x : Int), l[j]? = some x → arr[base + j]? = some (.int .i64 x) := fun j x hj => int_cells h5 hj
        have hls : (srt l).length = l.length := by simp [srt]
        refine (hC b base cap l Γ.w0 (holds_of hbk hcell) (Array.getElem?_eq_some_iff.1 hbk).1 hl).mono ?_
        rintro e w' ⟨rfl, n, os, rfl⟩
        have hW := Rs.write (k := 1) (es' := ((srt l).map intI).map (·.map C.imm)) (arr' := putCells (Value.int .i64) base (srt l).toArray arr) hR hσ hp hbk (by rw [vec_len, vec_len, hls]) putCells_size (fun j e he => vec_hk he) (by rw [vec_len]; omega)
          (vec_hc fun j x hj => putCells_get (by omega) hj)
        rw [putRow_ahead, putRow_setRow hbk]
        refine ⟨_, .tup [], _, Γ.φ0, rfl, ⟨rfl, ?_, fun i => rfl⟩, tupR, (hW.2.ahead n).grow os⟩
        rw [Store.length_put]
    · have he : l = [] := List.eq_nil_of_length_eq_zero (by omega)
      have hl0 : l.length = 0 := by rw [he]; rfl
      rw [hl0]
      exact empty (some a) cap he
theorem compact_len_le (l : List Int) : (Go.Lib.compact l).length ≤ l.length := by
  unfold Go.Lib.compact Go.Lib.compactUpTo
  rw [List.length_map]
  exact Nat.le_trans (List.length_filter_le _ _) (by simp)
theorem compact_fn {P : Program} {f : FuncId} (hf : fnFacts P f)
    (hC : ∀ (blk off cap : Nat) (zs : List Int) (w : World), Holds (Value.int .i64) w blk off zs.toArray → zs.length ≤ 9223372036854775807 → zs.length ≤ cap → Calls P f #[.slice (some ⟨blk, off, none⟩) zs.length cap] w fun e w' => e = .returned (.slice (some ⟨blk, off, none⟩) (Go.Lib.compact zs).length cap) ∧ ∃ q, w' = putRow (Value.int .i64) (Go.Sort.ahead w q) blk off (Go.Lib.compact zs ++ List.replicate (zs.length - (Go.Lib.compact zs).length) 0).toArray)
    (hC0 : ∀ (a : Option Addr) (cap : Nat) (w : World), Calls P f #[.slice a 0 cap] w fun e w' => e = .returned (.slice a 0 cap) ∧ w' = w)
    {σ : Store} {id : Id} {l : List Int} (hσ : σ[id]? = some (some (vec 1 intI l))) :
    FnOk P f [.c (.own id 0 l.length)] σ fun r σ' => r = .c (.own (σ.length, []) 0 (Go.Lib.compact l).length) ∧ σ' = σ.put id none ++ [.one (vec 1 intI (Go.Lib.compact l))] := by
  refine ⟨hf, fun Γ vs hΓ hG hlen hrel => ?_⟩
  subst hΓ
  match vs, hlen with
  | [u], _ =>
  have hu := own_inv (hrel 0 _ u rfl rfl) hσ
  rw [vec_len] at hu
  have hR := Rs.refl hG
  have hidl := Store.lt_of hσ
  have cnil : Go.Lib.compact ([] : List Int) = [] := rfl
  have at_new : ∀ {m : List Int}, (Γ.σ0.put id none ++ [.one (vec 1 intI m)])[((Γ.σ0.length, []) : Id)]? = some (some (vec 1 intI m)) := fun {m} => by
    rw [Store.get_right (by simp)]; simp; rfl
  rcases hu with ⟨hp, hv, _, h0⟩ | ⟨b, base, cap, arr, ety, a, hp, hv, ha, hcap, hmax, hjn, hbk, hsz⟩
  · have he : l = [] := List.eq_nil_of_length_eq_zero (by omega)
    subst he
    rw [hv]
    refine (hC0 none 0 Γ.w0).mono ?_
    rintro e w' ⟨rfl, rfl⟩
    have hK := hR.kill id
    have hV := hK.2.virt 1
    refine ⟨_, _, _, fun i => if i = (Γ.σ0.length, []) then none else Γ.φ0 i, rfl, ⟨rfl, rfl⟩, ?_, ?_⟩
    rotate_left
    · have := hV.2
      rw [Store.length_put] at this
      exact this
    · refine .c (.own (by simp) rfl fun k es hes => .inl ⟨?_, rfl, rfl, rfl⟩)
      simp
  · rw [hv]
    rcases hR.st.blk _ _ hσ with ⟨h1, _⟩ | ⟨b', base', arr2, ety2, h1, h2, h3, h4, h5⟩
    · rw [hp] at h1; cases h1
    · rw [hp] at h1; cases h1
      rw [hbk] at h2; cases h2
      rw [vec_len] at h3
      have hcell : ∀ (j : Nat) (x : Int), l[j]? = some x → arr[base + j]? = some (.int .i64 x) := fun j x hj => int_cells h5 hj
      have hle := compact_len_le l
      by_cases hc0 : 0 < cap
      · have := ha hc0
        subst this
        simp only [Nat.zero_mul, Nat.add_zero]
        have hmx : l.length ≤ 9223372036854775807 := by simp only [maxLen] at hmax; omega
        refine (hC b base cap l Γ.w0 (holds_of hbk hcell) hmx hcap).mono ?_
        rintro e w' ⟨rfl, q, rfl⟩
        have hO := Rs.reown (k := 1) (base' := base) (es' := ((Go.Lib.compact l).map intI).map (·.map C.imm)) (arr' := putCells (Value.int .i64) base (Go.Lib.compact l ++ List.replicate (l.length - (Go.Lib.compact l).length) 0).toArray arr) hR hσ hp hbk (fun j e he => vec_hk he) (by rw [vec_len, putCells_size]; omega)
          (vec_hc fun j x hj => putCells_get (by simp; omega) (by rw [List.getElem?_append_left (List.getElem?_eq_some_iff.1 hj).1]; exact hj))
        rw [putRow_ahead, putRow_setRow hbk]
        refine ⟨_, _, _, _, rfl, ⟨rfl, rfl⟩, ?_, hO.2.ahead q⟩
        refine .c (.own (by simp) rfl fun k es hes => ?_)
        rw [at_new] at hes
        cases hes
        refine .inr ⟨b, base, cap, _, ety, ⟨b, base, none⟩, by simp, rfl, fun _ => by simp, by omega, hmax, by rw [vec_len]; omega, setRow_heap _ _ _ _ _ _ hbk, by rw [putCells_size]; omega⟩
      · have he : l = [] := List.eq_nil_of_length_eq_zero (by omega)
        subst he
        refine (hC0 (some a) cap Γ.w0).mono ?_
        rintro e w' ⟨rfl, rfl⟩
        have hO := Rs.reown (k := 1) (base' := base) (es' := []) (arr' := arr) hR hσ hp hbk (fun j e he => by simp at he) (by simp; omega) (fun j e o x he => by simp at he)
        rw [setRow_self hbk] at hO
        refine ⟨_, _, _, _, rfl, ⟨rfl, rfl⟩, ?_, hO.2⟩
        refine .c (.own (by simp) rfl fun k es hes => ?_)
        rw [at_new] at hes
        cases hes
        exact .inr ⟨b, base, cap, arr, ety, a, by simp, rfl, fun h => absurd h hc0, by omega, hmax, by simp [cnil], hbk, by omega⟩
end Ab
end
section
namespace Ab
open Go
/-- Sorted; so long a list as' Sort's contract allows. -/
def sortL (l : List Int) : Option (List Int) := if l.length < 4611686018427387904 then some (srt l) else none
/-- Runs of equal elements replaced by one. -/
def compactL (l : List Int) : List Int := Go.Lib.compact l
theorem sortL_len {l l' : List Int} (h : sortL l = some l') : l.length = l'.length := by
  unfold sortL at h
  split at h
  · cases h; simp [srt]
  · cases h
def SortOk (P : Program) (f : FuncId) : Prop := ∀ {σ : Store} {id : Id} {l : List Int}, σ[id]? = some (some (vec 1 intI l)) → l.length < 4611686018427387904 →
    FnOk P f [.c (.own id 0 l.length)] σ fun r σ' => r = .tup [] ∧ σ'.length = σ.length ∧ ∀ i : Id, σ'[i]? = (σ.put id (some (vec 1 intI (srt l))))[i]?
def CompactOk (P : Program) (f : FuncId) : Prop := ∀ {σ : Store} {id : Id} {l : List Int}, σ[id]? = some (some (vec 1 intI l)) →
    FnOk P f [.c (.own id 0 l.length)] σ fun r σ' => r = .c (.own (σ.length, []) 0 (Go.Lib.compact l).length) ∧ σ' = σ.put id none ++ [.one (vec 1 intI (Go.Lib.compact l))]
section
variable {P : Program} {σ0 : Store} {sz : Nat} {Q : Post} {env : Env} {σv σ' : Store} {ops : Array Oper} {rest : List Oper} {dst : Option Nat} {ty : TypeId} {pos : String} {after : Array Edge}
theorem S.sort {x : Operand} {al : List Operand} {ats : Array TypeId} {f : FuncId} {id : Id} {n : Nat} {l l' : List Int} (hs : sortL l = some l') (hf : SortOk P f) (hx : ev env x = some (.c (.fn f []))) (ha : evs env al = some [.c (.own id 0 n)]) (hn : n = l.length) (hσ : σv[id]? = some (some (vec 1 intI l)))
    (hd : dstOk sz dst = true) (hσ' : putF σv id (some (vec 1 intI l')) = some σ') (h : AOps P σ0 sz ops Q rest (St.mk (putE env dst (.tup [])) σ')) :
    AOps P σ0 sz ops Q (⟨dst, .call ⟨.value x, al.toArray, ats⟩, ty, pos, after, none⟩ :: rest) (St.mk env σv) := by
  have h2 := putF_get hσ'
  subst h2 hn
  unfold sortL at hs
  split at hs
  · cases hs
    refine AOps.callS hx ha hd (hf hσ ‹_›) ?_
    rintro r σ2 ⟨rfl, hl, he⟩
    refine AOps.sub (s' := ⟨putE env dst (.tup []), σv.put id (some (vec 1 intI (srt l)))⟩) ?_ h
    have := Sub.same (σ0 := σ0) (env := putE env dst (.tup [])) (σ1 := σ2) (σ2 := σv.put id (some (vec 1 intI (srt l)))) (by rw [Store.length_put, hl]) he
    cases dst <;> exact this
  · cases hs
theorem S.compact {x : Operand} {al : List Operand} {ats : Array TypeId} {f : FuncId} {id n' : Id} {n : Nat} {l : List Int} {σ1 : Store} (hf : CompactOk P f) (hx : ev env x = some (.c (.fn f []))) (ha : evs env al = some [.c (.own id 0 n)]) (hn : n = l.length) (hσ : σv[id]? = some (some (vec 1 intI l)))
    (hd : dstOk sz dst = true) (hid : newF σv = some n') (h1 : putF σv id none = some σ1) (hσ' : snocF σ1 (.one (vec 1 intI (compactL l))) = some σ') (h : AOps P σ0 sz ops Q rest (St.mk (putE env dst (.c (.own n' 0 (compactL l).length))) σ')) :
    AOps P σ0 sz ops Q (⟨dst, .call ⟨.value x, al.toArray, ats⟩, ty, pos, after, none⟩ :: rest) (St.mk env σv) := by
  have h2 := putF_get h1
  have h3 := newF_eq hid; have h4 := snocF_eq hσ'
  subst hn h2 h3 h4
  refine AOps.callS hx ha hd (hf hσ) ?_
  rintro r σ2 ⟨rfl, rfl⟩
  cases dst <;> exact h
end
end Ab
end
section
namespace Ab
open Go Go.Sort
theorem putCellsG_size {α : Type} [Inhabited α] {enc : α → Value} {off : Nat} {d : Array α} {arr : Array Value} : (putCells enc off d arr).size = arr.size := by simp [putCells]
theorem putCellsG_get {α : Type} [Inhabited α] {enc : α → Value} {off : Nat} {d : List α} {arr : Array Value} (h : off + d.length ≤ arr.size) {j : Nat} {x : α} (hj : d[j]? = some x) : (putCells enc off d.toArray arr)[off + j]? = some (enc x) := by
  have hjl := (List.getElem?_eq_some_iff.1 hj).1
  have hx := (List.getElem?_eq_some_iff.1 hj).2
  simp only [putCells, Array.getElem?_mapIdx]
  rw [Array.getElem?_eq_getElem (by omega)]
  simp only [Option.map_some, List.size_toArray]
  rw [if_pos (by omega)]
  simp [hjl, hx]
theorem putRowG_setRow {α : Type} [Inhabited α] {enc : α → Value} {w : World} {b off : Nat} {arr : Array Value} {ety : TypeId} {fr : Nat × Nat} {d : Array α} (hb : w.heap[b]? = some (.cells arr ety fr)) :
    putRow enc w b off d = w.setRow b (putCells enc off d arr) := by
  unfold putRow mapBlock World.setRow
  congr 1
  apply Array.ext_getElem?
  intro k
  simp only [Array.getElem?_modify]
  by_cases hk : b = k
  · subst hk; simp only [if_true, hb, Option.map_some, onCells]
  · simp [hk]
theorem putRowG_ahead {α : Type} [Inhabited α] (enc : α → Value) (w : World) (n b off : Nat) (d : Array α) : putRow enc (Go.Sort.ahead w n) b off d = Go.Sort.ahead (putRow enc w b off d) n := rfl
theorem putRow_other {α : Type} [Inhabited α] (enc : α → Value) (w : World) (b off : Nat) (d : Array α) {k : Nat} (hk : k ≠ b) : (putRow enc w b off d).heap[k]? = w.heap[k]? := by
  unfold putRow mapBlock
  simp only [Array.getElem?_modify]
  rw [if_neg (fun e => hk e.symm)]
theorem putRow_size {α : Type} [Inhabited α] (enc : α → Value) (w : World) (b off : Nat) (d : Array α) : (putRow enc w b off d).heap.size = w.heap.size := by simp [putRow, mapBlock]
/-- A world whose old blocks are as' they were. -/
theorem grow_of {W W' : World} (h1 : W'.os = W.os) (h2 : W'.tape = W.tape) (h3 : W.drawn ≤ W'.drawn) (h4 : W'.output = W.output) (h5 : W.heap.size ≤ W'.heap.size) (h6 : ∀ k, k < W.heap.size → W'.heap[k]? = W.heap[k]?) : ∃ q os, W' = Go.Sort.grow (W.drewN q) os := by
  refine ⟨W'.drawn - W.drawn, W'.heap.extract W.heap.size W'.heap.size, ?_⟩
  have hh : W'.heap = W.heap ++ W'.heap.extract W.heap.size W'.heap.size := by
    apply Array.ext_getElem?
    intro k
    rw [Array.getElem?_append]
    split
    · exact h6 k ‹_›
    · rw [Array.getElem?_extract]
      split
      · congr 1; omega
      · rw [Array.getElem?_eq_none (by omega)]
  obtain ⟨heap, tape, drawn, os, output⟩ := W
  obtain ⟨heap', tape', drawn', os', output'⟩ := W'
  dsimp only at h1 h2 h3 h4 hh
  subst h1 h2 h4
  unfold Go.Sort.grow World.drewN
  dsimp only
  rw [← hh]
  congr 1
  omega
section
variable {α : Type}
/-- An element of the row: its cell, and what the cell shows. -/
abbrev Shw (w : World) (A : Nat → Prop) (g0 : α → I) := {x : Value × α // RelI w A (g0 x.2) x.1}
theorem perm_unique {le : α → α → Bool} (hanti : ∀ a b, le a b = true → le b a = true → a = b) : ∀ {l m : List α}, l.Pairwise (fun a b => le a b = true) → m.Pairwise (fun a b => le a b = true) → l.Perm m → l = m
  | [], m, _, _, hp => (List.nil_perm.1 hp).symm
  | a :: l, [], _, _, hp => absurd hp.length_eq (by simp)
  | a :: l, b :: m, hl, hm, hp => by
    obtain ⟨l1, l2⟩ := List.pairwise_cons.1 hl
    obtain ⟨m1, m2⟩ := List.pairwise_cons.1 hm
    have hab : a = b := by
      rcases List.mem_cons.1 (hp.subset (List.mem_cons_self ..)) with e | e
      · exact e
      · rcases List.mem_cons.1 (hp.symm.subset (List.mem_cons_self ..)) with e' | e'
        · exact e'.symm
        · exact hanti a b (l1 b e') (m1 a e)
    subst hab
    rw [perm_unique hanti l2 m2 ((List.perm_cons a).1 hp)]
theorem sortF_fn {P : Program} {f g : FuncId} (hf : fnFacts P f) (hgn : fnFacts P g) {g0 : α → I} {cf : α → α → Int} (hO : SWO (Go.Proofs.ltOf cf)) (hT : ∀ a b, ¬ cf a b < 0 → ¬ cf b a < 0 → a = b)
    (hg : ∀ a b, PureOk P g [.c (.imm (g0 a)), .c (.imm (g0 b))] (.c (int (cf a b))))
    (hC : ∀ (β : Type) [Inhabited β] (enc : β → Value), Go.Proofs.OneCell enc → ∀ (cf : β → β → Int), SWO (Go.Proofs.ltOf cf) → ∀ (g : Nat) (cb : Array Value) (blk off cap : Nat) (d : Array β) (w : World), (∀ args w, (callFunc g args).run P w = .ok (.enter g args) w) → Go.Proofs.CmpLays1 P g cb enc cf blk off d.size w → Holds enc w blk off d → blk < w.heap.size → d.size < 4611686018427387904 →
      Calls P f #[.slice (some ⟨blk, off, none⟩) d.size cap, .func (.func g) #[] cb] w fun e w' => e = .returned (.tuple #[]) ∧ ∃ d' n os, PermIn 0 d.size d d' ∧ SortedIn (Go.Proofs.ltOf cf) 0 d.size d' ∧ w' = Go.Proofs.sortWorld enc w blk off n d' os)
    (hC0 : ∀ (p : Option Addr) (cap : Nat) (fv : Value) (w : World), Calls P f #[.slice p 0 cap, fv] w fun e w' => e = .returned (.tuple #[]) ∧ w' = w)
    {σ : Store} {id : Id} {l : List α} (hσ : σ[id]? = some (some (vec 1 (fun a => [g0 a]) l))) (hl : l.length < 4611686018427387904) :
    FnOk P f [.c (.own id 0 l.length), .c (.fn g [])] σ fun r σ' => r = .tup [] ∧ σ'.length = σ.length ∧ ∀ i : Id, σ'[i]? = (σ.put id (some (vec 1 (fun a => [g0 a]) (l.mergeSort fun x y => decide (¬ cf y x < 0)))))[i]? := by
  refine ⟨hf, fun Γ vs hΓ hG hlen hrel => ?_⟩
  subst hΓ
  match vs, hlen with
  | [u, fv], _ =>
  have hu := own_inv (hrel 0 _ u rfl rfl) hσ
  have hfv : fv = .func (.func g) #[] #[] := by
    have h := hrel 1 _ fv rfl rfl
    cases h with | c h => cases h with | fn us hr => rfl
  subst hfv
  have tupR : ∀ {w φ σ A}, RelT w φ σ A (.tup []) (.tuple #[]) := fun {w φ σ A} => RelT.tup (ts := []) (fun _ => undef) fun i t h => by simp at h
  have vlen : ∀ {m : List α}, ((m.map fun a => [g0 a]).map (·.map C.imm)).length = m.length := by simp
  rw [vlen] at hu
  have empty : ∀ (p : Option Addr) (cap : Nat), l = [] → Calls P f #[.slice p 0 cap, .func (.func g) #[] #[]] Γ.w0 fun e w' => ∃ v r σ' φ', e = .returned v ∧ (r = .tup [] ∧ σ'.length = Γ.σ0.length ∧ ∀ i : Id, σ'[i]? = (Γ.σ0.put id (some (vec 1 (fun a => [g0 a]) (l.mergeSort fun x y => decide (¬ cf y x < 0)))))[i]?) ∧ RelT w' φ' σ' (Al Γ.N φ' σ') r v ∧ Rs Γ σ' φ' w' := fun p cap he => by
    refine (hC0 p cap _ Γ.w0).mono ?_
    rintro e w' ⟨rfl, rfl⟩
    refine ⟨_, .tup [], Γ.σ0, Γ.φ0, rfl, ⟨rfl, rfl, fun i => ?_⟩, tupR, Rs.refl hG⟩
    have : (l.mergeSort fun x y => decide (¬ cf y x < 0)) = l := by rw [he]; simp
    rw [this]
    by_cases hi : i = id
    · rw [hi, Store.get_put_eq hσ, hσ]
    · rw [Store.get_put_ne hi]
  rcases hu with ⟨_, hv, _, h0⟩ | ⟨b, base, cap, arr, ety, a, hp, hv, ha, hcap, hmax, hjn, hbk, hsz⟩
  · have he : l = [] := List.eq_nil_of_length_eq_zero (by omega)
    rw [hv]
    exact empty none 0 he
  · rw [hv]
    by_cases hc0 : 0 < cap
    · have := ha hc0
      subst this
      simp only [Nat.zero_mul, Nat.add_zero]
      have hR := Rs.refl hG
      rcases hR.st.blk _ _ hσ with ⟨h1, _⟩ | ⟨b', base', arr2, ety2, h1, h2, h3, h4, h5⟩
      · rw [hp] at h1; cases h1
      · rw [hp] at h1; cases h1
        rw [hbk] at h2; cases h2
        rw [vlen] at h3
        have hblk := (Array.getElem?_eq_some_iff.1 hbk).1
        have hAne : ∀ k, Al Γ.N Γ.φ0 Γ.σ0 k → k ≠ b := fun k hk e => by subst e; exact hk.2 id _ base hσ hp
        -- the elements
        obtain ⟨ds, d1, d2⟩ := ex_list (p := fun j (x : Shw Γ.w0 (Al Γ.N Γ.φ0 Γ.σ0) g0) => arr[base + j]? = some x.1.1 ∧ l[j]? = some x.1.2) l.length fun j hj => by
          obtain ⟨u, hu1, hu2⟩ := h5 j _ 0 (.imm (g0 l[j])) (by simp [hj]; rfl) rfl
          cases hu2 with | imm hu2 => exact ⟨⟨(u, l[j]), hu2⟩, by simpa using hu1, by simp [hj]⟩
        have dl : ds.map (fun x => x.1.2) = l := by
          refine List.ext_getElem? fun j => ?_
          rw [List.getElem?_map]
          by_cases hj : j < l.length
          · obtain ⟨x, hx⟩ : ∃ x, ds[j]? = some x := ⟨ds[j], by simp [d1, hj]⟩
            rw [hx, (d2 j x hx).2]; rfl
          · rw [List.getElem?_eq_none (by omega), List.getElem?_eq_none (by omega)]; rfl
        by_cases hl0 : l = []
        · have hl1 : l.length = 0 := by rw [hl0]; rfl
          rw [hl1]
          exact empty _ cap hl0
        · obtain ⟨x0, hx0⟩ : ∃ x, ds[0]? = some x := by
            have : 0 < ds.length := by rw [d1]; exact List.length_pos_iff.2 hl0
            exact ⟨ds[0], by simp [this]⟩
          letI : Inhabited (Shw Γ.w0 (Al Γ.N Γ.φ0 Γ.σ0) g0) := ⟨x0⟩
          have hH : Holds (fun x : Shw Γ.w0 (Al Γ.N Γ.φ0 Γ.σ0) g0 => x.1.1) Γ.w0 b base ds.toArray := by
            intro j hj
            have hjl : j < ds.length := by simpa using hj
            refine ⟨?_, by simp [World.frozen?, hbk]⟩
            rw [World.cell?]
            simp only [hbk]
            rw [(d2 j ds[j] (by simp [hjl])).1]
            simp [hjl]
          have hcmp : Go.Proofs.CmpLays1 P g #[] (fun x : Shw Γ.w0 (Al Γ.N Γ.φ0 Γ.σ0) g0 => x.1.1) (fun x y => cf x.1.2 y.1.2) b base ds.toArray.size Γ.w0 := by
            intro m os dk hdk x y
            have hW : ∀ k, Al Γ.N Γ.φ0 Γ.σ0 k → k < Γ.w0.heap.size → (Go.Proofs.sortWorld (fun x : Shw Γ.w0 (Al Γ.N Γ.φ0 Γ.σ0) g0 => x.1.1) Γ.w0 b base m dk os).heap[k]? = Γ.w0.heap[k]? := fun k hk hlt => by
              unfold Go.Proofs.sortWorld
              rw [heap_grow_old _ os (by rw [putRow_size]; exact hlt), putRow_other _ _ _ _ _ (hAne k hk)]; rfl
            have gd : ∀ W : World, Good ⟨W, fun _ => False, fun _ => none, []⟩ := fun W => ⟨⟨fun i b h => by simp at h, fun i j bi bj p q h => by simp at h⟩, fun b h => h.elim, fun i blk b base h => by simp at h⟩
            have rel : ∀ z : Shw Γ.w0 (Al Γ.N Γ.φ0 Γ.σ0) g0, RelT (Go.Proofs.sortWorld (fun x : Shw Γ.w0 (Al Γ.N Γ.φ0 Γ.σ0) g0 => x.1.1) Γ.w0 b base m dk os) (fun _ => none) [] (Al (fun _ => False) (fun _ => none) []) (.c (.imm (g0 z.1.2))) z.1.1 := fun z =>
              .c (.imm (z.2.mono hW fun k _ _ => ⟨_root_.id, fun i blk base h => by simp at h⟩))
            refine ((hg x.1.2 y.1.2).run ⟨Go.Proofs.sortWorld (fun x : Shw Γ.w0 (Al Γ.N Γ.φ0 Γ.σ0) g0 => x.1.1) Γ.w0 b base m dk os, fun _ => False, fun _ => none, []⟩ [x.1.1, y.1.1] rfl (gd _) rfl (fun i t v hi hv => ?_)).mono ?_
            · match i with
              | 0 => cases hi; cases hv; exact rel x
              | 1 => cases hi; cases hv; exact rel y
              | i + 2 => simp at hi
            · rintro e w' ⟨v, r, σ', φ', rfl, rfl, hr, hs⟩
              refine ⟨?_, grow_of hs.os hs.tape hs.drawn hs.output hs.size fun k hk => hs.block k ⟨hk, fun i blk base h => by simp at h⟩⟩
              cases hr with | c hr => cases hr with | imm hr => cases hr with | val => rfl
          obtain ⟨gf, gf1, gf2, gf3⟩ := hgn
          have hszd : ds.toArray.size = l.length := by simp [d1]
          have key := hC _ (fun x : Shw Γ.w0 (Al Γ.N Γ.φ0 Γ.σ0) g0 => x.1.1) (fun x => x.2.one) (fun x y => cf x.1.2 y.1.2) ⟨fun x => hO.irrefl x.1.2, fun x y z => hO.trans x.1.2 y.1.2 z.1.2, fun x y z => hO.ntrans x.1.2 y.1.2 z.1.2⟩ g #[] b base cap ds.toArray Γ.w0 (fun args w => by
            have h2' : ¬ gf.name = "runtime.NumGoroutine" := by simpa using gf2
            have h3' : ¬ gf.body = none := fun e => by rw [e] at gf3; cases gf3
            simp [callFunc, gf1, h2', h3']) hcmp hH hblk (by rw [hszd]; exact hl)
          rw [hszd] at key
          refine key.mono ?_
          rintro e w' ⟨rfl, d', n, os, hperm, hsort, rfl⟩
          obtain ⟨p1, _, p3⟩ := hperm
          have dsz : d'.size = l.length := by rw [p1]; simp [d1]
          have e1 : d'.toList.Perm ds := by
            have a1 : d'.extract 0 l.length = d' := by rw [← dsz]; simp
            have a2 : ds.toArray.extract 0 l.length = ds.toArray := by rw [← hszd]; simp
            rw [a1, a2] at p3
            simpa using p3
          have e2 : (d'.toList.map fun x => x.1.2) = l.mergeSort fun x y => decide (¬ cf y x < 0) := by
            refine perm_unique (le := fun x y => decide (¬ cf y x < 0)) (fun a b h1 h2 => ?_) ?_ ?_ ?_
            · simp only [decide_eq_true_eq] at h1 h2
              exact hT a b h2 h1
            · rw [List.pairwise_map, List.pairwise_iff_getElem]
              intro i j hi hj hij
              have hj' : j < d'.size := by simpa using hj
              have := hsort i j (by omega) hij (by rw [← dsz]; exact hj')
              rw [getElem!_pos d' j hj', getElem!_pos d' i (by omega)] at this
              simpa [Go.Proofs.ltOf] using this
            · refine List.pairwise_mergeSort (fun a b c h1 h2 => ?_) (fun a b => ?_) l
              · simp only [decide_eq_true_eq] at h1 h2 ⊢
                have := hO.ntrans c b a (by simpa [Go.Proofs.ltOf] using h2) (by simpa [Go.Proofs.ltOf] using h1)
                simpa [Go.Proofs.ltOf] using this
              · simp only [Bool.or_eq_true, decide_eq_true_eq]
                rcases Int.lt_or_le (cf b a) 0 with h | h
                · right
                  intro h'
                  have := hO.trans a b a (by simpa [Go.Proofs.ltOf] using h') (by simpa [Go.Proofs.ltOf] using h)
                  rw [hO.irrefl] at this; cases this
                · left; omega
            · exact ((e1.map _).trans (by rw [dl])).trans (List.mergeSort_perm ..).symm
          rw [← e2]
          have hW := Rs.write (k := 1) (es' := ((d'.toList.map fun x => x.1.2).map fun a => [g0 a]).map (·.map C.imm)) (arr' := putCells (fun x : Shw Γ.w0 (Al Γ.N Γ.φ0 Γ.σ0) g0 => x.1.1) base d' arr) hR hσ hp hbk (by rw [vlen, vlen]; simp [dsz]) putCellsG_size (fun j e he => by
              simp only [List.map_map, List.getElem?_map, Option.map_eq_some_iff] at he
              obtain ⟨a, _, rfl⟩ := he; rfl) (by rw [vlen]; omega) (fun j e o x he hx => by
              simp only [List.map_map, List.getElem?_map, Option.map_eq_some_iff] at he
              obtain ⟨z, hz, rfl⟩ := he
              match o with
              | 0 =>
                cases hx
                have := putCellsG_get (enc := fun x : Shw Γ.w0 (Al Γ.N Γ.φ0 Γ.σ0) g0 => x.1.1) (off := base) (d := d'.toList) (arr := arr) (by simp [dsz]; omega) hz
                exact ⟨_, by simpa using this, .imm z.2⟩
              | o + 1 => simp at hx)
          unfold Go.Proofs.sortWorld
          rw [putRowG_ahead, putRowG_setRow hbk]
          refine ⟨_, .tup [], _, Γ.φ0, rfl, ⟨rfl, ?_, fun i => rfl⟩, tupR, (hW.2.ahead n).grow os⟩
          rw [Store.length_put]
    · have he : l = [] := List.eq_nil_of_length_eq_zero (by omega)
      have hl0 : l.length = 0 := by rw [he]; rfl
      rw [hl0]
      exact empty (some a) cap he
end
end Ab
end
section
namespace Ab
open Go
/-- A view lies within its row. -/
def vw {α : Type} (l : List α) (off len : Int) : Option Unit := if 0 ≤ off ∧ 0 ≤ len ∧ off + len ≤ l.length then some () else none
/-- A part lies within a view. -/
def cutV (len lo hi : Int) : Option Unit := if 0 ≤ lo ∧ lo ≤ hi ∧ hi ≤ len then some () else none
/-- The element at a place of a view. -/
def ixV {α : Type} (l : List α) (off len i : Int) : Option α := if 0 ≤ off ∧ 0 ≤ i ∧ i < len ∧ off + len ≤ l.length then ix l (off + i) else none
/-- What a view shows. -/
def viewL {α : Type} (l : List α) (off len : Int) : List α := (l.drop off.toNat).take len.toNat
/-- A view cleared. -/
def clrL {α : Type} (l : List α) (off len : Int) (z : α) : List α := l.take off.toNat ++ List.replicate len.toNat z ++ l.drop (off.toNat + len.toNat)
theorem vw_get {α : Type} {l : List α} {off len : Int} {u : Unit} (h : vw l off len = some u) : 0 ≤ off ∧ 0 ≤ len ∧ off + len ≤ l.length := by
  unfold vw at h
  split at h
  · assumption
  · cases h
theorem cutV_get {len lo hi : Int} {u : Unit} (h : cutV len lo hi = some u) : 0 ≤ lo ∧ lo ≤ hi ∧ hi ≤ len := by
  unfold cutV at h
  split at h
  · assumption
  · cases h
theorem ixV_get {α : Type} {l : List α} {off len i : Int} {a : α} (h : ixV l off len i = some a) : (0 ≤ off ∧ 0 ≤ i ∧ i < len ∧ off + len ≤ l.length) ∧ ix l (off + i) = some a := by
  unfold ixV at h
  split at h
  · exact ⟨‹_›, h⟩
  · cases h
theorem ixV_ix {α : Type} {l : List α} {off len i : Int} {a : α} (h : ixV l off len i = some a) : ix l (off + i) = some a := (ixV_get h).2
theorem viewL_len {α : Type} {l : List α} {off len : Int} {u : Unit} (h : vw l off len = some u) : (viewL l off len).length = len.toNat := by
  have := vw_get h
  simp [viewL]; omega
section
variable {α : Type} {f : α → List I} {l : List α} {P : Program} {σ0 : Store} {sz : Nat} {Q : Post} {env env' : Env} {σv σ' : Store} {ops : Array Oper} {rest : List Oper} {dst : Option Nat} {ty : TypeId} {pos : String} {after : Array Edge} {id : Id} {k : Nat}
theorem S.lenV {x : Operand} {t e : TypeId} {n : Int} {j : Nat} [ht : TyD P t (.slice e)] (hn : 0 ≤ n) (hx : ev env x = some (.c (.own id j n.toNat))) (hσ : σv[id]? = some (some (vec k f l))) (hd : dstOk sz dst = true)
    (h : n ≤ 9223372036854775807 → AOps P σ0 sz ops Q rest (St.mk (putE env dst (.c (int n))) σv)) : AOps P σ0 sz ops Q (⟨dst, .call ⟨.builtin .len, #[x], #[t]⟩, ty, pos, after, none⟩ :: rest) (St.mk env σv) :=
  AOps.lenOwnB hx hσ hd fun hb => by
    have e1 : ((n.toNat : Nat) : Int) = n := by omega
    rw [e1]
    exact h (by omega)
theorem S.idxV {x y : Operand} {t e : TypeId} {bytes : Nat} {z : Value} {kk : IntKind} {off len i : Int} {a : α} [ht : TyD P t (.slice e)] [hs : TyS P e k bytes z]
    (he : ixV l off len i = some a) (hx : ev env x = some (.c (.own id off.toNat len.toNat))) (hσ : σv[id]? = some (some (vec k f l))) (hy : ev env y = some (.c (.imm (.val (.int kk i))))) (hd : dstOk sz dst = true)
    (h : AOps P σ0 sz ops Q rest (St.mk (putE env dst (.c (.ptr id (off + i).toNat 0))) σv)) : AOps P σ0 sz ops Q (⟨dst, .indexAddr t x y, ty, pos, after, none⟩ :: rest) (St.mk env σv) := by
  obtain ⟨⟨h1, h2, h3, h4⟩, _⟩ := ixV_get he
  refine .indexAddrOwn hx hσ hy (by omega) hd ?_
  rw [show off.toNat + i.toNat = (off + i).toNat by omega]
  exact h
/-- x[lo:] of a view; a whole row is the view from 0. -/
theorem S.vFrom {x y : Operand} {t e : TypeId} {bytes : Nat} {z : Value} {kk : IntKind} {off len lo : Int} {j n : Nat} {u u' : Unit} [ht : TyD P t (.slice e)] [hs : TyS P e k bytes z]
    (hv : vw l off len = some u) (hc : cutV len lo len = some u') (hx : ev env x = some (.c (.own id j n))) (hj : j = off.toNat) (hn : n = len.toNat) (hσ : σv[id]? = some (some (vec k f l))) (hy : ev env y = some (.c (.imm (.val (.int kk lo))))) (hd : dstOk sz dst = true)
    (h : AOps P σ0 sz ops Q rest (St.mk (putE env dst (.c (.own id (off + lo).toNat (len - lo).toNat))) σv)) : AOps P σ0 sz ops Q (⟨dst, .slice t x (some y) none none, ty, pos, after, none⟩ :: rest) (St.mk env σv) := by
  have h1 := vw_get hv; have h2 := cutV_get hc
  subst hj hn
  have e1 : lo = ((lo.toNat : Nat) : Int) := by omega
  rw [e1] at hy
  refine AOps.sliceOwnFrom hx hσ hy (by omega) hd ?_
  rw [show off.toNat + lo.toNat = (off + lo).toNat by omega, show len.toNat - lo.toNat = (len - lo).toNat by omega]
  exact h
theorem S.vTo {x y : Operand} {t e : TypeId} {bytes : Nat} {z : Value} {kk : IntKind} {off len hi : Int} {j n : Nat} {u u' : Unit} [ht : TyD P t (.slice e)] [hs : TyS P e k bytes z]
    (hv : vw l off len = some u) (hc : cutV len 0 hi = some u') (hx : ev env x = some (.c (.own id j n))) (hj : j = off.toNat) (hn : n = len.toNat) (hσ : σv[id]? = some (some (vec k f l))) (hy : ev env y = some (.c (.imm (.val (.int kk hi))))) (hd : dstOk sz dst = true)
    (h : AOps P σ0 sz ops Q rest (St.mk (putE env dst (.c (.own id off.toNat hi.toNat))) σv)) : AOps P σ0 sz ops Q (⟨dst, .slice t x none (some y) none, ty, pos, after, none⟩ :: rest) (St.mk env σv) := by
  have h1 := vw_get hv; have h2 := cutV_get hc
  subst hj hn
  have e1 : hi = ((hi.toNat : Nat) : Int) := by omega
  rw [e1] at hy
  exact AOps.sliceOwnTo hx hσ hy (by omega) hd h
theorem S.v3 {x y y' : Operand} {t e : TypeId} {bytes : Nat} {z : Value} {kk kk' : IntKind} {off len lo hi : Int} {j n : Nat} {u u' : Unit} [ht : TyD P t (.slice e)] [hs : TyS P e k bytes z]
    (hv : vw l off len = some u) (hc : cutV len lo hi = some u') (hx : ev env x = some (.c (.own id j n))) (hj : j = off.toNat) (hn : n = len.toNat) (hσ : σv[id]? = some (some (vec k f l))) (hy : ev env y = some (.c (.imm (.val (.int kk lo))))) (hy' : ev env y' = some (.c (.imm (.val (.int kk' hi))))) (hd : dstOk sz dst = true)
    (h : AOps P σ0 sz ops Q rest (St.mk (putE env dst (.c (.own id (off + lo).toNat (hi - lo).toNat))) σv)) : AOps P σ0 sz ops Q (⟨dst, .slice t x (some y) (some y') none, ty, pos, after, none⟩ :: rest) (St.mk env σv) := by
  have h1 := vw_get hv; have h2 := cutV_get hc
  subst hj hn
  refine AOps.sliceOwn hx hσ hy hy' (by omega) hd ?_
  rw [show off.toNat + lo.toNat = (off + lo).toNat by omega, show hi.toNat - lo.toNat = (hi - lo).toNat by omega]
  exact h
/-- The entries of an environment in which slot t shows a row of its own. -/
def ReE (env : Env) (t : Nat) (c' : C) : Env → Prop
  | [] => True
  | (t', v) :: r => (t' = t ∧ v = .c c' ∨ lookup t' env = some v) ∧ ReE env t c' r
theorem ReE.get {t : Nat} {c' : C} : ∀ {env' : Env}, ReE env t c' env' → ∀ t' v, lookup t' env' = some v → t' = t ∧ v = .c c' ∨ lookup t' env = some v
  | [], _, t, v, h => by simp [lookup] at h
  | (k, x) :: r, ⟨h1, h2⟩, t', v, h => by
    simp only [lookup] at h
    split at h
    · cases h
      rename_i e
      have : k = t' := by simpa using e
      subst this
      exact h1
    · exact ReE.get h2 t' v h
theorem Sub.reown {off len : Int} {j n : Nat} {n' : Id} {σ1 : Store} {u : Unit} (t : Nat) (hv : vw l off len = some u) (hx : lookup t env = some (.c (.own id j n))) (hj : j = off.toNat) (hn : n = len.toNat) (hσ : σv[id]? = some (some (vec k f l))) (h0 : Nat.ble σ0.length id.1 = true) (hid : newF σv = some n')
    (h1 : putF σv id none = some σ1) (hσ' : snocF σ1 (.one (vec k f (viewL l off len))) = some σ') (henv : ReE env t (.own n' 0 (viewL l off len).length) env') : Sub σ0 ⟨env, σv⟩ ⟨env', σ'⟩ := fun Γ sz φ a w hΓ hR => by
  have h2 := putF_get h1
  have h3 := newF_eq hid; have h4 := snocF_eq hσ'
  have hvl := viewL_len hv
  have hvg := vw_get hv
  subst hj hn h2 h3 h4
  have hidl := Store.lt_of hσ
  have at_new : (σv.put id none ++ [.one (vec k f (viewL l off len))])[((σv.length, []) : Id)]? = some (some (vec k f (viewL l off len))) := by
    rw [Store.get_right (by simp)]; simp; rfl
  obtain ⟨u0, hu0, hrel⟩ := hR.env t _ hx
  have ho := own_inv hrel hσ
  have fin : ∀ (φ' : Phi) (hk : Kept w w φ φ' σv (σv.put id none ++ [.one (vec k f (viewL l off len))]) (Al Γ.N φ σv) (Al Γ.N φ' (σv.put id none ++ [.one (vec k f (viewL l off len))]))) (hs : Rs Γ (σv.put id none ++ [.one (vec k f (viewL l off len))]) φ' w) (hview : OwnView w (φ' (σv.length, [])) k (viewL l off len).length 0 (viewL l off len).length u0),
      R Γ sz ⟨env', σv.put id none ++ [.one (vec k f (viewL l off len))]⟩ φ' a w := fun φ' hk hs hview => by
    have hR1 := hR.of hk hs
    refine { toRs := hs, defers := hR1.defers, asize := hR.asize, env := fun t' v' ht' => ?_ }
    rcases henv.get t' v' ht' with ⟨rfl, rfl⟩ | h
    · refine ⟨u0, hu0, .c (.own (by simp) (by cases hrel with | c g2 => exact g2.one) fun k' es' he => ?_)⟩
      rw [at_new] at he
      cases he
      simpa using hview
    · obtain ⟨u1, g1, g2⟩ := hR1.env t' v' h
      exact ⟨u1, g1, g2⟩
  rcases ho with ⟨p1, p2, p3, p4⟩ | ⟨b, base, cap, arr, ety, ad, hp, hvv, had, hcap, hmax, hjn, hbk, hsz⟩
  · have hnil : viewL l off len = [] := List.eq_nil_of_length_eq_zero (by rw [hvl, p4])
    have hK := hR.toRs.kill id
    have hV := hK.2.virt k
    have e1 : σv.put id none ++ [.one (vec k f (viewL l off len))] = σv.put id none ++ [.one (.cells k [])] := by rw [hnil]; rfl
    rw [Store.length_put] at hV
    refine ⟨fun i => if i = (σv.length, []) then none else φ i, ?_⟩
    have := fin (fun i => if i = (σv.length, []) then none else φ i) (by rw [e1]; exact Kept.trans (Nat.le_refl _) hK.1 hV.1) (by rw [e1]; exact hV.2) (.inl ⟨by simp, p2, rfl, by rw [hnil]; rfl⟩)
    exact this
  · obtain ⟨arr2, ety2, q1, q2, q3, q4⟩ := own_cells hR hσ hp
    rw [hbk] at q1; cases q1
    have hO := Rs.reown (k := k) (base' := base + off.toNat * k) (es' := ((viewL l off len).map f).map (·.map C.imm)) (arr' := arr) hR.toRs hσ hp hbk (fun j e he => by
        have : ((viewL l off len).map f).map (·.map C.imm) = ((((l.map f).map (·.map C.imm)).drop off.toNat).take len.toNat) := by simp [viewL, List.map_drop, List.map_take]
        rw [this, List.getElem?_take] at he
        split at he
        · rw [List.getElem?_drop] at he
          exact q3 _ e he
        · cases he) (by
        simp only [List.length_map, hvl]
        have : (off.toNat + cap) * k = off.toNat * k + cap * k := Nat.add_mul ..
        have : len.toNat * k ≤ cap * k := Nat.mul_le_mul_right k hcap
        omega) (fun j e o x he hx => by
        have : ((viewL l off len).map f).map (·.map C.imm) = ((((l.map f).map (·.map C.imm)).drop off.toNat).take len.toNat) := by simp [viewL, List.map_drop, List.map_take]
        rw [this, List.getElem?_take] at he
        split at he
        · rw [List.getElem?_drop] at he
          obtain ⟨u2, g1, g2⟩ := q4 _ e o x he hx
          refine ⟨u2, ?_, g2⟩
          rw [← g1, Nat.add_mul]
          congr 1; omega
        · cases he)
    rw [Go.setRow_self w b arr ety (0, 0) hbk] at hO
    refine ⟨fun i => if i = (σv.length, []) then some (b, base + off.toNat * k) else φ i, ?_⟩
    refine fin _ hO.1 hO.2 (.inr ⟨b, base + off.toNat * k, cap, arr, ety, ad, by simp, ?_, fun hc => ?_, ?_, hmax, by omega, hbk, ?_⟩)
    · rw [hvv, hvl]
    · rw [had hc, Nat.zero_mul, Nat.add_zero]
    · rw [hvl]; exact hcap
    · have : (off.toNat + cap) * k = off.toNat * k + cap * k := Nat.add_mul ..
      rw [Nat.zero_add]; omega
theorem AWP.reown {c : Code} {off len : Int} {j n : Nat} {n' : Id} {σ1 : Store} {u : Unit} (t : Nat) (hv : vw l off len = some u) (hx : lookup t env = some (.c (.own id j n))) (hj : j = off.toNat) (hn : n = len.toNat) (hσ : σv[id]? = some (some (vec k f l))) (h0 : Nat.ble σ0.length id.1 = true) (hid : newF σv = some n')
    (h1 : putF σv id none = some σ1) (hσ' : snocF σ1 (.one (vec k f (viewL l off len))) = some σ') (henv : ReE env t (.own n' 0 (viewL l off len).length) env') (h : AWP P σ0 sz c Q ⟨env', σ'⟩) : AWP P σ0 sz c Q ⟨env, σv⟩ :=
  AWP.sub (Sub.reown t hv hx hj hn hσ h0 hid h1 hσ' henv) h
theorem zeroCells_one {v : Value} (n : Nat) : (Builtin.zeroCells #[v] n).toList = List.replicate n v := by
  refine List.ext_getElem? fun i => ?_
  simp only [Builtin.zeroCells, Array.toList_map, List.getElem?_map, List.getElem?_replicate]
  by_cases h : i < n
  · have : (Array.range (n * (#[v] : Array Value).size)).toList[i]? = some i := by simp [h]
    rw [this, if_pos h]
    simp [Nat.mod_one]
  · have : (Array.range (n * (#[v] : Array Value).size)).toList[i]? = none := by simp; omega
    rw [this, if_neg h]; rfl
/-- clear(x), x a view of cells of one place. -/
theorem S.clear {x : Operand} {t e : TypeId} {bytes : Nat} {z : Value} {off len : Int} {j n : Nat} {u : Unit} {a0 : α} {c0 : C} [ht : TyD P t (.slice e)] [hs : TyS P e 1 bytes z] (hz1 : z.cells = #[z]) (hzc : z.oneCell' = true)
    (hf : (f a0).map C.imm = [c0]) (hrel : ∀ w φ σ A, RelC w φ σ A c0 z)
    (hv : vw l off len = some u) (hx : ev env x = some (.c (.own id j n))) (hj : j = off.toNat) (hn : n = len.toNat) (hσ : σv[id]? = some (some (vec 1 f l))) (hσ' : putF σv id (some (vec 1 f (clrL l off len a0))) = some σ')
    (h : AOps P σ0 sz ops Q rest (St.mk env σ')) : AOps P σ0 sz ops Q (⟨none, .call ⟨.builtin .clear, #[x], #[t]⟩, ty, pos, after, none⟩ :: rest) (St.mk env σv) := by
  have hvg := vw_get hv
  have h2 := putF_get hσ'
  subst hj hn h2
  refine .valueW rfl rfl (.tup []) (σv.put id (some (vec 1 f (clrL l off len a0)))) (fun Γ φ a w hR => ?_) h
  have tupR : ∀ {w φ σ A}, RelT w φ σ A (.tup []) (.tuple #[]) := fun {w φ σ A} => RelT.tup (ts := []) (fun _ => undef) fun i t h => by simp at h
  have ho := own_inv (ev_rel hR hx) hσ
  have clen : (clrL l off len a0).length = l.length := by simp [clrL]; omega
  have nothing : len.toNat = 0 → clrL l off len a0 = l := fun e => by simp [clrL, e]
  have same : len.toNat = 0 → (execOp a.eval ⟨none, .call ⟨.builtin .clear, #[x], #[t]⟩, ty, pos, after, none⟩).run P w = .ok (.value (.tuple #[])) w → ∃ u w' φ', (execOp a.eval ⟨none, .call ⟨.builtin .clear, #[x], #[t]⟩, ty, pos, after, none⟩).run P w = .ok (.value u) w' ∧ RelT w' φ' (σv.put id (some (vec 1 f (clrL l off len a0)))) (Al Γ.N φ' (σv.put id (some (vec 1 f (clrL l off len a0))))) (.tup []) u ∧ R Γ sz ⟨env, σv.put id (some (vec 1 f (clrL l off len a0)))⟩ φ' a w' := fun e0 hrun => by
    rw [nothing e0]
    have hsub := Sub.blk (σ0 := Γ.σ0) (env := env) (id := id) (k := 1) (es := (l.map f).map (·.map C.imm)) (es' := (l.map f).map (·.map C.imm)) hσ rfl (fun i e' he => by
      rcases hR.st.blk _ _ hσ with ⟨_, g2⟩ | ⟨_, _, _, _, _, _, _, g4, _⟩
      · rw [g2] at he; simp at he
      · exact g4 i e' he) (fun i e' o x' he hx' => ⟨e', x', he, hx', fun _ _ _ _ _ hr => hr⟩)
    obtain ⟨φ', hR'⟩ := hsub Γ sz φ a w rfl hR
    exact ⟨_, w, φ', hrun, tupR, hR'⟩
  rcases ho with ⟨p1, p2, p3, p4⟩ | ⟨b, base, cap, arr, ety, ad, hp, hvv, had, hcap, hmax, hjn, hbk, hsz⟩
  · exact same p4 (by simp [execOp, resolve, invoke, builtin, p2, Builtin.clear_, run_underlying ht.h])
  · by_cases e0 : len.toNat = 0
    · refine same e0 ?_
      rw [e0] at hvv
      simp [execOp, resolve, invoke, builtin, hvv, Builtin.clear_, run_underlying ht.h]
    · have hc0 : 0 < cap := by omega
      have := had hc0
      subst this
      obtain ⟨arr2, ety2, q1, q2, q3, q4⟩ := own_cells hR hσ hp
      rw [hbk] at q1; cases q1
      simp only [List.length_map] at q2 hjn
      have hst := run_storeCells_at P b (base + off.toNat * 1) ety (List.replicate len.toNat z) 0 arr w hbk (by simp; omega) (fun v hv => by rw [List.eq_of_mem_replicate hv]; exact hzc)
      simp only [Nat.add_zero, Nat.mul_one, List.length_replicate] at hst
      have hl1 : ∀ b : α, ((f b).map C.imm).length = (f b).length := fun b => by simp
      have hW := Rs.write (k := 1) (es' := ((clrL l off len a0).map f).map (·.map C.imm)) (arr' := (arr.toList.take (base + off.toNat) ++ List.replicate len.toNat z ++ arr.toList.drop (base + off.toNat + len.toNat)).toArray) hR.toRs hσ hp hbk (by simp [clen]) (by simp; omega) (fun i e' he => by
          simp only [List.map_map, List.getElem?_map, Option.map_eq_some_iff] at he
          obtain ⟨y, hy, rfl⟩ := he
          by_cases hyl : y ∈ l
          · obtain ⟨i', hi'⟩ := List.getElem?_of_mem hyl
            exact q3 i' _ (by simp [hi'])
          · have hy := List.mem_of_getElem? hy
            simp only [clrL, List.mem_append] at hy
            rcases hy with (hy | hy) | hy
            · exact absurd (List.mem_of_mem_take hy) hyl
            · rw [List.eq_of_mem_replicate hy]
              simp only [Function.comp_apply, hf]; rfl
            · exact absurd (List.mem_of_mem_drop hy) hyl) (by simp; omega) (fun i e' o x' he hx' => by
          simp only [List.map_map, List.getElem?_map, Option.map_eq_some_iff, Function.comp_apply] at he
          obtain ⟨y, hy, rfl⟩ := he
          simp only [List.getElem?_toArray]
          have hsp := getElem?_splice arr.toList (List.replicate len.toNat z) (base + off.toNat) (base + (i * 1 + o)) (by simp; omega)
          simp only [List.length_replicate] at hsp
          rw [hsp]
          have hy' : (clrL l off len a0)[i]? = if off.toNat ≤ i ∧ i < off.toNat + len.toNat then some a0 else l[i]? := by
            have := getElem?_splice l (List.replicate len.toNat a0) off.toNat i (by simp; omega)
            simp only [List.length_replicate] at this
            rw [clrL, this]
            split
            · rw [List.getElem?_replicate, if_pos (by omega)]
            · rfl
          rw [hy'] at hy
          split at hy
          · rename_i hi
            cases hy
            rw [hf] at hx'
            match o with
            | 0 =>
              cases hx'
              rw [if_pos (by omega), List.getElem?_replicate, if_pos (by omega)]
              exact ⟨z, rfl, hrel _ _ _ _⟩
            | o + 1 => simp at hx'
          · rename_i hi
            have ho : o = 0 := by
              have h1 := q3 i ((f y).map C.imm) (by simp [hy])
              have := (List.getElem?_eq_some_iff.1 hx').1
              omega
            subst ho
            rw [if_neg (by omega)]
            obtain ⟨u2, g1, g2⟩ := q4 i ((f y).map C.imm) 0 x' (by simp [hy]) hx'
            exact ⟨u2, by simpa using g1, g2⟩)
      have hz := run_zero (P := P) (t := e) w
      refine ⟨.tuple #[], _, φ, ?_, tupR, hR.of hW.1 hW.2⟩
      have hne : ¬ (len.toNat = 0) := e0
      simp [execOp, resolve, invoke, builtin, hvv, Builtin.clear_, run_underlying ht.h, hz, hz1, zeroCells_one, hst]
end
end Ab
end
section
namespace Ab
open Go Go.Sort
/-- cmp is a total order, as' a function that never fails. -/
def CmpOk {α : Type} (cmp : α → α → Option Int) (cf : α → α → Int) : Prop := (∀ a b, cmp a b = some (cf a b)) ∧ SWO (Go.Proofs.ltOf cf) ∧ ∀ a b, ¬ cf a b < 0 → ¬ cf b a < 0 → a = b
/-- Sorted by cmp. -/
noncomputable def sortFL {α : Type} (cmp : α → α → Option Int) (l : List α) : Option (List α) := open Classical in
  if h : l.length < 4611686018427387904 ∧ ∃ cf, CmpOk cmp cf then some (l.mergeSort fun x y => decide (¬ h.2.choose y x < 0)) else none
theorem sortFL_eq {α : Type} {cmp : α → α → Option Int} {cf : α → α → Int} {l : List α} (h : l.length < 4611686018427387904) (hc : CmpOk cmp cf) : sortFL cmp l = some (l.mergeSort fun x y => decide (¬ cf y x < 0)) := by
  unfold sortFL
  have hx : l.length < 4611686018427387904 ∧ ∃ cf, CmpOk cmp cf := ⟨h, cf, hc⟩
  rw [dif_pos hx]
  have e : hx.2.choose = cf := by
    funext a b
    have := hx.2.choose_spec.1 a b
    rw [hc.1 a b] at this
    exact (Option.some.inj this).symm
  rw [e]
theorem sortFL_len {α : Type} {cmp : α → α → Option Int} {l l' : List α} (h : sortFL cmp l = some l') : l.length = l'.length := by
  unfold sortFL at h
  split at h
  · cases h; simp
  · cases h
def SortFOk (P : Program) (f : FuncId) : Prop := ∀ {α : Type} {g : FuncId} {g0 : α → I} {cf : α → α → Int}, fnFacts P g → SWO (Go.Proofs.ltOf cf) → (∀ a b, ¬ cf a b < 0 → ¬ cf b a < 0 → a = b) → (∀ a b, PureOk P g [.c (.imm (g0 a)), .c (.imm (g0 b))] (.c (int (cf a b)))) →
  ∀ {σ : Store} {id : Id} {l : List α}, σ[id]? = some (some (vec 1 (fun a => [g0 a]) l)) → l.length < 4611686018427387904 →
    FnOk P f [.c (.own id 0 l.length), .c (.fn g [])] σ fun r σ' => r = .tup [] ∧ σ'.length = σ.length ∧ ∀ i : Id, σ'[i]? = (σ.put id (some (vec 1 (fun a => [g0 a]) (l.mergeSort fun x y => decide (¬ cf y x < 0)))))[i]?
section
variable {P : Program} {σ0 : Store} {sz : Nat} {Q : Post} {env : Env} {σv σ' : Store} {ops : Array Oper} {rest : List Oper} {dst : Option Nat} {ty : TypeId} {pos : String} {after : Array Edge}
theorem S.sortF {α : Type} {f : α → List I} (g0 : α → I) {cmp : α → α → Option Int} {x : Operand} {al : List Operand} {ats : Array TypeId} {fs g : FuncId} {id : Id} {n : Nat} {l l' : List α} (hs : sortFL cmp l = some l') (hfg : f = fun a => [g0 a])
    (hcmp : ∀ {a b r}, cmp a b = some r → PureOk P g [.c (.imm (g0 a)), .c (.imm (g0 b))] (.c (int r))) (hf : SortFOk P fs) (hgn : fnFacts P g) (hx : ev env x = some (.c (.fn fs []))) (ha : evs env al = some [.c (.own id 0 n), .c (.fn g [])]) (hn : n = l.length) (hσ : σv[id]? = some (some (vec 1 f l)))
    (hd : dstOk sz dst = true) (hσ' : putF σv id (some (vec 1 f l')) = some σ') (h : AOps P σ0 sz ops Q rest (St.mk (putE env dst (.tup [])) σ')) :
    AOps P σ0 sz ops Q (⟨dst, .call ⟨.value x, al.toArray, ats⟩, ty, pos, after, none⟩ :: rest) (St.mk env σv) := by
  have h2 := putF_get hσ'
  subst h2 hn hfg
  unfold sortFL at hs
  split at hs
  · rename_i hx0
    cases hs
    obtain ⟨c1, c2, c3⟩ := hx0.2.choose_spec
    refine AOps.callS hx ha hd (hf hgn c2 c3 (fun a b => hcmp (c1 a b)) hσ hx0.1) ?_
    rintro r σ2 ⟨rfl, hl, he⟩
    refine AOps.sub (s' := ⟨putE env dst (.tup []), σv.put id (some (vec 1 (fun a => [g0 a]) (l.mergeSort fun x y => decide (¬ hx0.2.choose y x < 0))))⟩) ?_ h
    have := Sub.same (σ0 := σ0) (env := putE env dst (.tup [])) (σ1 := σ2) (σ2 := σv.put id (some (vec 1 (fun a => [g0 a]) (l.mergeSort fun x y => decide (¬ hx0.2.choose y x < 0))))) (by rw [Store.length_put, hl]) he
    cases dst <;> exact this
  · cases hs
end
/-! ### Views in chains -/
theorem vw_full {α : Type} (l : List α) : vw l 0 (l.length : Int) = some () := by unfold vw; rw [if_pos]; omega
theorem vw_cut {α : Type} {l : List α} {off len lo hi : Int} {u u' : Unit} (h : vw l off len = some u) (hc : cutV len lo hi = some u') : vw l (off + lo) (hi - lo) = some () := by
  have := vw_get h; have := cutV_get hc
  unfold vw; rw [if_pos]; omega
theorem vw_to {α : Type} {l : List α} {off len hi : Int} {u u' : Unit} (h : vw l off len = some u) (hc : cutV len 0 hi = some u') : vw l off hi = some () := by
  have := vw_get h; have := cutV_get hc
  unfold vw; rw [if_pos]; omega
theorem clrL_len {α : Type} {l : List α} {off len : Int} {u : Unit} {z : α} (h : vw l off len = some u) : (clrL l off len z).length = l.length := by
  have := vw_get h
  simp [clrL]; omega
end Ab
end
section
namespace Ab
open Go
section
variable {P : Program} {σ0 : Store} {sz : Nat} {Q : Post} {env : Env} {σv : Store} {ops : Array Oper} {rest : List Oper} {dst : Option Nat} {ty : TypeId} {pos : String} {after : Array Edge}
end
section
variable {P : Program} {σ0 : Store} {sz : Nat} {Q : Post} {env env' : Env} {σv σ' : Store}
theorem Sub.virtB {α : Type} (k : Nat) (f : α → List I) {b n : Id} {kb o : Nat} {cs cs' : List C} {σ1 : Store} (hb : σv[b]? = some (some (.cells kb [cs]))) (hc : cs[o]? = some (.imm (.val (.slice none 0 0)))) (hn : newF σv = some n) (h1 : snocF σv (.one (vec k f [])) = some σ1)
    (hs : setF cs o (.own n 0 ([] : List α).length) = some cs') (hσ' : putF σ1 b (some (.cells kb [cs'])) = some σ') : Sub σ0 ⟨env, σv⟩ ⟨env, σ'⟩ := fun Γ sz φ a w hΓ hR => by
  have g1 := newF_eq hn; have g2 := snocF_eq h1; have g3 := setF_eq hs; have g4 := putF_get hσ'
  obtain ⟨g3, g3'⟩ := g3
  subst g1 g2 g3 g4
  have hbl := Store.lt_of hb
  have hV := hR.toRs.virt k
  have hb' : (σv ++ [.one (vec k f [])])[b]? = some (some (.cells kb [cs])) := by rw [Store.get_left hbl]; exact hb
  have e0 : (σv ++ [.one (.cells k [])] : Store) = σv ++ [.one (vec k f [])] := rfl
  rw [e0] at hV
  generalize hφ : (fun i => if i = ((σv.length, []) : Id) then none else φ i) = φ' at hV
  have φn : φ' (σv.length, []) = none := by rw [← hφ]; simp
  rcases hV.2.st.blk _ _ hb' with ⟨_, g⟩ | ⟨b0, base, arr, ety, q1, q2, q3, q4, q5⟩
  · cases g
  · have hW := Rs.write (k := kb) (es' := [cs.set o (.own (σv.length, []) 0 ([] : List α).length)]) (arr' := arr) hV.2 hb' q1 q2 rfl rfl (fun j e he => by
      match j with
      | 0 =>
        cases he
        rw [List.length_set]
        exact q4 0 cs rfl
      | j + 1 => simp at he) (by simpa using q3) (fun j e i x he hx => by
      match j with
      | 0 =>
        cases he
        rw [List.getElem?_set] at hx
        split at hx
        · rename_i e
          subst e
          cases hx
          obtain ⟨u, hu, hr⟩ := q5 0 cs o _ rfl hc
          refine ⟨u, hu, ?_⟩
          cases hr with | imm hr => cases hr with | val h =>
            exact .own (by simp) rfl fun k' es' _ => .inl ⟨φn, rfl, rfl, rfl⟩
        · exact q5 0 cs i x rfl hx
      | j + 1 => simp at he)
    rw [Go.setRow_self w b0 arr ety (0, 0) q2] at hW
    exact ⟨φ', (hR.of hV.1 hV.2).of hW.1 hW.2⟩
theorem AWP.virtB {α : Type} {c : Code} (k : Nat) (f : α → List I) {b n : Id} {kb o : Nat} {cs cs' : List C} {σ1 : Store} (hb : σv[b]? = some (some (.cells kb [cs]))) (hc : cs[o]? = some (.imm (.val (.slice none 0 0)))) (hn : newF σv = some n) (h1 : snocF σv (.one (vec k f [])) = some σ1)
    (hs : setF cs o (.own n 0 ([] : List α).length) = some cs') (hσ' : putF σ1 b (some (.cells kb [cs'])) = some σ') (h : AWP P σ0 sz c Q ⟨env, σ'⟩) : AWP P σ0 sz c Q ⟨env, σv⟩ := AWP.sub (Sub.virtB k f hb hc hn h1 hs hσ') h
/-- Cells of which some are nil, read as' rows with nothing in them. -/
def NilB : List C → List C → Prop
  | [], [] => True
  | c :: r, c' :: r' => (c' = c ∨ c = .imm (.val (.slice none 0 0)) ∧ ∃ k, c' = .imm (.sl k [])) ∧ NilB r r'
  | _, _ => False
theorem NilB.len : ∀ {l l' : List C}, NilB l l' → l'.length = l.length
  | [], [], _ => rfl
  | _ :: r, _ :: r', ⟨_, h⟩ => by simp [NilB.len h]
  | [], _ :: _, h => h.elim
  | _ :: _, [], h => h.elim
theorem NilB.get : ∀ {l l' : List C}, NilB l l' → ∀ (o : Nat) (x : C), l'[o]? = some x → ∃ x0, l[o]? = some x0 ∧ (x = x0 ∨ x0 = .imm (.val (.slice none 0 0)) ∧ ∃ k, x = .imm (.sl k []))
  | [], [], _, o, x, h => by simp at h
  | c :: r, c' :: r', ⟨h1, h2⟩, o, x, h => by
    match o with
    | 0 => cases h; exact ⟨c, rfl, h1⟩
    | o + 1 => simpa using NilB.get h2 o x (by simpa using h)
  | [], _ :: _, h, _, _, _ => h.elim
  | _ :: _, [], h, _, _, _ => h.elim
theorem Sub.nilB {b : Id} {kb : Nat} {cs : List C} (cs' : List C) (hb : σv[b]? = some (some (.cells kb [cs]))) (h : NilB cs cs') (hlen : cs.length = kb) (hσ' : putF σv b (some (.cells kb [cs'])) = some σ') : Sub σ0 ⟨env, σv⟩ ⟨env, σ'⟩ := by
  have g := putF_get hσ'
  subst g
  refine Sub.blk hb rfl (fun j e he => ?_) (fun j e o x he hx => ?_)
  · match j with
    | 0 => cases he; rw [h.len, hlen]
    | j + 1 => simp at he
  · match j with
    | 0 =>
      cases he
      obtain ⟨x0, h1, h2⟩ := h.get o x hx
      refine ⟨cs, x0, rfl, h1, fun w φ σ A u hr => ?_⟩
      rcases h2 with rfl | ⟨rfl, k, rfl⟩
      · exact hr
      · cases hr with | imm hr => cases hr with | val => exact .imm .slNil
    | j + 1 => simp at he
theorem AWP.nilB {c : Code} {b : Id} {kb : Nat} {cs : List C} (cs' : List C) (hb : σv[b]? = some (some (.cells kb [cs]))) (h : NilB cs cs') (hlen : cs.length = kb) (hσ' : putF σv b (some (.cells kb [cs'])) = some σ') (hn : AWP P σ0 sz c Q ⟨env, σ'⟩) : AWP P σ0 sz c Q ⟨env, σv⟩ := AWP.sub (Sub.nilB cs' hb h hlen hσ') hn
end
end Ab
end
section
namespace Ab
open Go
section
variable {α : Type} {f : α → List I} {l : List α} {p m : Nat} {n id : Id}
/-- The row's block, with one element owned elsewhere. -/
abbrev vecS (f : α → List I) (l : List α) (p : Nat) (n : Id) (m : Nat) : Blk := .cells 1 (((l.map f).map (·.map C.imm)).set p [.own n 0 m])
theorem mem_set {β : Type} {x a : β} : ∀ {l : List β} {p : Nat}, x ∈ l.set p a → x ∈ l ∨ x = a
  | [], _, h => by simp at h
  | b :: l, 0, h => by
    rcases List.mem_cons.1 h with h | h
    · exact .inr h
    · exact .inl (List.mem_cons_of_mem _ h)
  | b :: l, p + 1, h => by
    rcases List.mem_cons.1 h with h | h
    · exact .inl (h ▸ List.mem_cons_self ..)
    · rcases mem_set h with h | h
      · exact .inl (List.mem_cons_of_mem _ h)
      · exact .inr h
theorem vs_no (h : idb n id = false) : (vecS f l p n m).no id = true := by
  simp only [Blk.no, List.all_eq_true]
  intro e he
  rcases mem_set he with h1 | rfl
  · have := Blk.im_no id 1 (l.map f)
    simp only [Blk.im, Blk.no, List.all_eq_true] at this
    exact this e h1
  · simp [C.noL, C.no, h]
theorem FrzB.vs {X : C → C → Prop} (h : idb n id = false) : FrzB id X (.one (vecS f l p n m)) (.one (vecS f l p n m)) := by
  have hno := vs_no (f := f) (l := l) (p := p) (m := m) h
  have imm : ∀ e ∈ ((l.map f).map (·.map C.imm)).set p [.own n 0 m], FrzL id X e e := fun e he => by
    rcases mem_set he with h1 | rfl
    · simp only [List.map_map, List.mem_map, Function.comp_apply] at h1
      obtain ⟨a, _, rfl⟩ := h1
      exact FrzL.imm _
    · exact ⟨.inl ⟨rfl, by simp [C.no, h]⟩, trivial⟩
  unfold FrzB
  split
  · rename_i h1 _; cases h1
  · rename_i k1 e k2 e' h1 h2
    simp only [Ent.one.injEq, Blk.cells.injEq] at h1 h2
    obtain ⟨rfl, h1⟩ := h1
    obtain ⟨rfl, h2⟩ := h2
    have : e = e' := by rw [h1] at h2; simpa using h2
    subst this
    exact ⟨rfl, imm e (by rw [h1]; simp)⟩
  · rename_i h1 h2
    cases h1; cases h2
    exact ⟨rfl, hno⟩
  · rename_i h1; cases h1
  · rename_i h1 h2 h3 h4
    first | exact (h3 _ _ rfl rfl).elim | exact (h4 _ _ rfl rfl).elim | exact (h2 _ _ rfl rfl).elim
end
section
variable {P : Program} {σ0 : Store} {sz : Nat} {Q : Post} {env : Env} {σv σ' : Store} {ops : Array Oper} {rest : List Oper} {dst : Option Nat} {ty : TypeId} {pos : String} {after : Array Edge}
variable {α β : Type} {f : α → List I} {l : List α} {p m : Nat} {n id : Id}
/-- What block id's end leaves of an entry. -/
inductive FrzE (id : Id) (k : Nat) (es : List (List I)) (X : C → C → Prop) : Ent → Ent → Prop
  | old {e e' : Ent} (h : FrzB id X e e') : FrzE id k es X e e'
  | vs {α : Type} {f : α → List I} {l : List α} {p m : Nat} {b : Blk} (h : Blk.frz id k es (vecS f l p id m) = b) : FrzE id k es X (.one (vecS f l p id m)) (.one b)
def FrzS2 (id : Id) (k : Nat) (es : List (List I)) (X : C → C → Prop) : Store → Store → Prop
  | [], [] => True
  | b :: r, b' :: r' => FrzE id k es X b b' ∧ FrzS2 id k es X r r'
  | _, _ => False
theorem FrzE.get {k : Nat} {es : List (List I)} {X : C → C → Prop} (hX : ∀ c c', X c c' → c.frz id k es = c') {e e' : Ent} (h : FrzE id k es X e e') (p : List Nat) : (e.sub p).map (Blk.frz id k es) = e'.sub p := by
  cases h with
  | old h => exact FrzB.get hX h p
  | vs h =>
    cases p with
    | nil => simp only [Ent.sub, Option.map_some, h]
    | cons => rfl
theorem FrzS2.get {k : Nat} {es : List (List I)} {X : C → C → Prop} (hX : ∀ c c', X c c' → c.frz id k es = c') : ∀ {σ σ2 : Store}, FrzS2 id k es X σ σ2 → ∀ i : Id, (σ[i]?).map (Option.map (Blk.frz id k es)) = σ2[i]?
  | [], [], _, i => rfl
  | [], _ :: _, h, _ => h.elim
  | _ :: _, [], h, _ => h.elim
  | e :: r, e' :: r', h, (0, p) => by
    rw [Store.at_eq, Store.at_eq]
    simp only [Store.at, List.getElem?_cons_zero, Option.map_some, FrzE.get hX h.1 p]
  | e :: r, e' :: r', h, (i + 1, p) => by
    have := FrzS2.get hX h.2 (i, p)
    rw [Store.at_eq, Store.at_eq] at this ⊢
    simpa [Store.at] using this
theorem FrzS2.len {k : Nat} {es : List (List I)} {X : C → C → Prop} : ∀ {σ σ2 : Store}, FrzS2 id k es X σ σ2 → σ2.length = σ.length
  | [], [], _ => rfl
  | [], _ :: _, h => h.elim
  | _ :: _, [], h => h.elim
  | e :: r, e' :: r', h => by simp [FrzS2.len h.2]
end
end Ab
end
section
namespace Ab
open Go
section
variable {P : Program} {σ0 : Store} {sz : Nat} {Q : Post} {env : Env} {σv σ' : Store} {ops : Array Oper} {rest : List Oper} {dst : Option Nat} {ty : TypeId} {pos : String} {after : Array Edge}
end
end Ab
end
section
namespace Ab
open Go
/-- An object laid, whose values are owned. -/
theorem Rs.allocB {Γ : Cx} {σ : Store} {φ : Phi} {w : World} (h : Rs Γ σ φ w) {p0 : Obj → List Value → Prop} {cs0 : List C} {us0 : List Value} {obj : Obj} (hob : p0 obj us0) (hcs : ∀ (i : Nat) (x : C), cs0[i]? = some x → ∃ u, us0[i]? = some u ∧ RelC w φ σ (Al Γ.N φ σ) x u) :
    Kept w (w.alloc obj) φ (phiNew σ.length φ w.heap.size) σ (σ ++ [.one (.obj p0 cs0)]) (Al Γ.N φ σ) (Al Γ.N (phiNew σ.length φ w.heap.size) (σ ++ [.one (.obj p0 cs0)])) ∧
    Rs Γ (σ ++ [.one (.obj p0 cs0)]) (phiNew σ.length φ w.heap.size) (w.alloc obj) := by
  have old : ∀ b, b < w.heap.size → (w.alloc obj).heap[b]? = w.heap[b]? := fun b hb => by first | exact heap_alloc_old w _ hb | exact heap_alloc_old w _ _ hb
  have new : (w.alloc obj).heap[w.heap.size]? = some obj := heap_alloc_new w _
  have plo : ∀ i : Id, i.1 < σ.length → phiNew σ.length φ w.heap.size i = φ i := fun i hi => by
    have : i ≠ (σ.length, []) := fun e => by rw [e] at hi; exact Nat.lt_irrefl _ hi
    simp [phiNew, this]
  have pnew : phiNew σ.length φ w.heap.size (σ.length, []) = some (w.heap.size, 0) := by simp [phiNew]
  have cases2 : ∀ (i : Id) blk, (σ ++ [.one (.obj p0 cs0)])[i]? = some (some blk) → (i.1 < σ.length ∧ σ[i]? = some (some blk)) ∨ (i = (σ.length, []) ∧ blk = .obj p0 cs0) := fun i blk hi => Store.get_new hi
  have A1 : ∀ b, Al Γ.N φ σ b → b < w.heap.size → Al Γ.N (phiNew σ.length φ w.heap.size) (σ ++ [.one (.obj p0 cs0)]) b := fun b hb hl => ⟨hb.1, fun i blk base hi hp => by
    rcases cases2 i blk hi with ⟨h1, h2⟩ | ⟨rfl, rfl⟩
    · rw [plo i h1] at hp; exact hb.2 i blk base h2 hp
    · rw [pnew] at hp; cases hp; omega⟩
  have hK : Kept w (w.alloc obj) φ (phiNew σ.length φ w.heap.size) σ (σ ++ [.one (.obj p0 cs0)]) (Al Γ.N φ σ) (Al Γ.N (phiNew σ.length φ w.heap.size) (σ ++ [.one (.obj p0 cs0)])) :=
    { imm := fun b _ hl => old b hl, all := A1, len := by simp,
      cells := fun i kk es' hi he => by
        rw [Store.get_left hi] at he
        exact ⟨es', he, rfl, plo i hi, fun b base arr ety hp hb => ⟨arr, (old b (Al.own_lt h.st he hp)).trans hb, rfl⟩⟩,
      obj := fun i p' cs' hi he => by
        rw [Store.get_left hi] at he
        exact ⟨plo i hi, p', cs', he⟩ }
  refine ⟨hK, ?_⟩
  exact {
    good := h.good
    st := ⟨fun i b hi => by
        rcases cases2 i b hi with ⟨h1, h2⟩ | ⟨rfl, rfl⟩
        · rw [plo i h1]
          exact (h.st.blk i b h2).mono hK fun g base hp => old g (Al.own_lt h.st h2 hp)
        · rw [pnew]
          exact ⟨w.heap.size, obj, us0, rfl, new, hob, fun i x hx => let ⟨u, g1, g2⟩ := hcs i x hx; ⟨u, g1, g2.mono hK⟩⟩,
      fun i j bi bj p q hi hj hp hq he => by
        obtain ⟨pb, po⟩ := p
        obtain ⟨qb, qo⟩ := q
        dsimp only at he
        subst he
        rcases cases2 i bi hi with ⟨h1, h2⟩ | ⟨rfl, rfl⟩ <;> rcases cases2 j bj hj with ⟨g1, g2⟩ | ⟨rfl, rfl⟩
        · rw [plo i h1] at hp; rw [plo j g1] at hq
          exact h.st.inj i j bi bj _ _ h2 g2 hp hq rfl
        · rw [plo i h1] at hp; rw [pnew] at hq; cases hq
          have := Al.own_lt h.st h2 hp; omega
        · rw [plo j g1] at hq; rw [pnew] at hp; cases hp
          have := Al.own_lt h.st g2 hq; omega
        · rfl⟩
    keep := fun i blk b base hi hp hKb => by
      rcases cases2 i blk hi with ⟨h1, h2⟩ | ⟨rfl, rfl⟩
      · rw [plo i h1] at hp; exact h.keep i blk b base h2 hp hKb
      · rw [pnew] at hp; cases hp
        have := hKb.1; have := h.size; omega
    os := h.os
    tape := h.tape
    drawn := h.drawn
    output := h.output
    size := Nat.le_trans h.size (by simp)
    block := fun b hKb => (old b (Nat.lt_of_lt_of_le hKb.1 h.size)).trans (h.block b hKb)
    kept := Kept.trans h.size h.kept hK }
/-- An object written, whose values are owned. -/
theorem Rs.writeB {Γ : Cx} {σ : Store} {φ : Phi} {w : World} (h : Rs Γ σ φ w) {id : Id} {b : Nat} {q0 q1 : Obj → List Value → Prop} {cs0 cs1 : List C} {us1 : List Value} {o0 o1 : Obj} (hid : σ[id]? = some (some (.obj q0 cs0))) (hp : φ id = some (b, 0)) (hb : w.heap[b]? = some o0) (hq : q1 o1 us1) (hcs : ∀ (i : Nat) (x : C), cs1[i]? = some x → ∃ u, us1[i]? = some u ∧ RelC w φ σ (Al Γ.N φ σ) x u) :
    Kept w ({ w with heap := w.heap.setIfInBounds b o1 } : World) φ φ σ (σ.put id (some (.obj q1 cs1))) (Al Γ.N φ σ) (Al Γ.N φ (σ.put id (some (.obj q1 cs1)))) ∧ Rs Γ (σ.put id (some (.obj q1 cs1))) φ ({ w with heap := w.heap.setIfInBounds b o1 } : World) := by
  have new : ({ w with heap := w.heap.setIfInBounds b o1 } : World).heap[b]? = some o1 := (Go.MapKept.heap_set hb).1
  have old : ∀ g, g ≠ b → ({ w with heap := w.heap.setIfInBounds b o1 } : World).heap[g]? = w.heap[g]? := fun g hg => (Go.MapKept.heap_set hb).2 g hg
  have hsize : ({ w with heap := w.heap.setIfInBounds b o1 } : World).heap.size = w.heap.size := by simp
  have at_ : ∀ (i : Id) x, (σ.put id (some (.obj q1 cs1)))[i]? = some (some x) → (i = id ∧ x = .obj q1 cs1) ∨ (i ≠ id ∧ σ[i]? = some (some x)) := fun i x hi => by
    rcases Store.get_put hid hi with ⟨h1, h2⟩ | h
    · cases h2; exact .inl ⟨h1, rfl⟩
    · exact .inr h
  have other : ∀ (i : Id) blk g bs, i ≠ id → σ[i]? = some (some blk) → φ i = some (g, bs) → g ≠ b := fun i blk g bs hne hi hpi e => by
    subst e
    exact hne (h.st.inj i id _ _ _ _ hi hid hpi hp rfl)
  have A1 : ∀ g, Al Γ.N φ σ g → Al Γ.N φ (σ.put id (some (.obj q1 cs1))) g := fun g hg => ⟨hg.1, fun i blk bs hi hpi => by
    rcases at_ i blk hi with ⟨rfl, _⟩ | ⟨_, hi⟩
    · exact hg.2 i _ bs hid hpi
    · exact hg.2 i blk bs hi hpi⟩
  have hK : Kept w ({ w with heap := w.heap.setIfInBounds b o1 } : World) φ φ σ (σ.put id (some (.obj q1 cs1))) (Al Γ.N φ σ) (Al Γ.N φ (σ.put id (some (.obj q1 cs1)))) :=
    { imm := fun g hg _ => old g (fun e => by subst e; exact hg.2 id _ 0 hid hp), all := fun g hg _ => A1 g hg, len := by simp,
      cells := fun i kk es2 hi he => by
        rcases at_ i _ he with ⟨rfl, e⟩ | ⟨hne, he⟩
        · cases e
        · refine ⟨es2, he, rfl, rfl, fun b2 base2 arr2 ety2 hp2 hb2 => ⟨arr2, ?_, rfl⟩⟩
          exact (old b2 (other i _ b2 base2 hne he hp2)).trans hb2,
      obj := fun i p' cs' hi he => by
        rcases at_ i _ he with ⟨rfl, e⟩ | ⟨_, he⟩
        · exact ⟨rfl, _, _, hid⟩
        · exact ⟨rfl, p', cs', he⟩ }
  refine ⟨hK, ?_⟩
  exact {
    good := h.good
    st := ⟨fun i bk hi => by
        rcases at_ i _ hi with ⟨rfl, e⟩ | ⟨hne, hi⟩
        · cases e
          rw [hp]
          exact ⟨b, o1, us1, rfl, new, hq, fun i x hx => let ⟨u, g1, g2⟩ := hcs i x hx; ⟨u, g1, g2.mono hK⟩⟩
        · exact (h.st.blk i bk hi).mono hK fun g bs hpi => old g (other i bk g bs hne hi hpi),
      fun i j bi bj p q hi hj hpi hqj he => by
        have alive : ∀ (i : Id) bi, (σ.put id (some (.obj q1 cs1)))[i]? = some (some bi) → ∃ b0, σ[i]? = some (some b0) := fun i bi hi => by
          rcases at_ i _ hi with ⟨rfl, _⟩ | ⟨_, hi⟩
          · exact ⟨_, hid⟩
          · exact ⟨_, hi⟩
        obtain ⟨b1, h1⟩ := alive i bi hi
        obtain ⟨b2, h2⟩ := alive j bj hj
        exact h.st.inj i j b1 b2 p q h1 h2 hpi hqj he⟩
    keep := fun i blk g bs hi hpi hKb => by
      rcases at_ i _ hi with ⟨rfl, _⟩ | ⟨_, hi⟩
      · exact h.keep i _ g bs hid hpi hKb
      · exact h.keep i blk g bs hi hpi hKb
    os := h.os
    tape := h.tape
    drawn := h.drawn
    output := h.output
    size := by rw [hsize]; exact h.size
    block := fun g hKb => (old g (fun e => by subst e; exact h.keep id _ g 0 hid hp hKb)).trans (h.block g hKb)
    kept := Kept.trans h.size h.kept hK }
/-! ### What the slots hold that rounds read -/
def slotsP : List (Nat × Option Nat) → List Value → Array Value → Prop
  | [], _, _ => True
  | (t, none) :: r, us, a => (∃ u, us.head? = some u ∧ a[t]? = some u) ∧ slotsP r us.tail a
  | (t, some n) :: r, us, a => ((us.take n).length = n ∧ a[t]? = some (.agg (us.take n).toArray)) ∧ slotsP r (us.drop n) a
def slotE : List (Nat × Option Nat) → List C → Env
  | [], _ => []
  | (_, none) :: _, [] => []
  | (t, none) :: r, c :: cs => (t, .c c) :: slotE r cs
  | (t, some n) :: r, cs => match Nat.beq (cs.take n).length n with
    | true => (t, .agg (cs.take n)) :: slotE r (cs.drop n)
    | false => []
def slotC : List (Nat × Option Nat) → Env → Option (List C)
  | [], _ => some []
  | (t, none) :: r, env => match lookup t env, slotC r env with
    | some (.c c), some cs => some (c :: cs)
    | _, _ => none
  | (t, some n) :: r, env => match lookup t env, slotC r env with
    | some (.agg l), some cs => match Nat.beq l.length n with
      | true => some (l ++ cs)
      | false => none
    | _, _ => none
section
variable {w : World} {φ : Phi} {σ : Store} {A : Nat → Prop}
theorem slot_env : ∀ (sh : List (Nat × Option Nat)) {us : List Value} {a : Array Value} {cs : List C}, slotsP sh us a → (∀ (i : Nat) (x : C), cs[i]? = some x → ∃ u, us[i]? = some u ∧ RelC w φ σ A x u) →
    ∀ (t : Nat) (v : T), lookup t (slotE sh cs) = some v → ∃ u, a[t]? = some u ∧ RelT w φ σ A v u
  | [], us, a, cs, _, _, t, v, h => by simp [slotE, lookup] at h
  | (s, none) :: r, us, a, [], _, _, t, v, h => by simp [slotE, lookup] at h
  | (s, none) :: r, us, a, c :: cs, hs, hr, t, v, h => by
    simp only [slotE, lookup] at h
    obtain ⟨⟨u, hu, ha⟩, hs⟩ := hs
    obtain ⟨u0, hu0, hr0⟩ := hr 0 c rfl
    rw [List.head?_eq_getElem?] at hu
    rw [hu] at hu0; cases hu0
    split at h
    · rename_i e
      cases h
      have := Nat.eq_of_beq_eq_true e
      subst this
      exact ⟨u, ha, .c hr0⟩
    · exact slot_env r hs (fun i x hx => by
        obtain ⟨u, g1, g2⟩ := hr (i + 1) x hx
        exact ⟨u, by rw [← g1]; cases us <;> simp, g2⟩) t v h
  | (s, some n) :: r, us, a, cs, hs, hr, t, v, h => by
    simp only [slotE] at h
    obtain ⟨⟨hl, ha⟩, hs⟩ := hs
    cases hb : Nat.beq (cs.take n).length n with
    | false => rw [hb] at h; simp [lookup] at h
    | true =>
      rw [hb] at h
      have hlen := Nat.eq_of_beq_eq_true hb
      simp only [lookup] at h
      split at h
      · rename_i e
        cases h
        have := Nat.eq_of_beq_eq_true e
        subst this
        refine ⟨_, ha, RelT.agg' (by rw [hl, hlen]) fun i c v hc hv => ?_⟩
        rw [List.getElem?_take] at hc hv
        split at hc
        · rename_i hi
          rw [if_pos hi] at hv
          obtain ⟨u, g1, g2⟩ := hr i c hc
          rw [hv] at g1; cases g1; exact g2
        · cases hc
      · exact slot_env r hs (fun i x hx => by
          rw [List.getElem?_drop] at hx
          obtain ⟨u, g1, g2⟩ := hr _ x hx
          exact ⟨u, by rw [List.getElem?_drop]; exact g1, g2⟩) t v h
theorem slot_mk : ∀ (sh : List (Nat × Option Nat)) {env : Env} {a : Array Value} {cs : List C}, (∀ t v, lookup t env = some v → ∃ u, a[t]? = some u ∧ RelT w φ σ A v u) → slotC sh env = some cs →
    ∃ us, slotsP sh us a ∧ us.length = cs.length ∧ ∀ (i : Nat) (x : C), cs[i]? = some x → ∃ u, us[i]? = some u ∧ RelC w φ σ A x u
  | [], env, a, cs, _, h => by cases h; exact ⟨[], trivial, rfl, fun i x hx => by simp at hx⟩
  | (s, none) :: r, env, a, cs, he, h => by
    simp only [slotC] at h
    split at h <;> cases h
    rename_i c cs' h1 h2
    obtain ⟨us, g1, g0, g2⟩ := slot_mk r he h2
    obtain ⟨u, k1, k2⟩ := he s _ h1
    cases k2 with | c k2 =>
    refine ⟨u :: us, ⟨⟨u, rfl, k1⟩, g1⟩, by simp [g0], fun i x hx => ?_⟩
    match i with
    | 0 => cases hx; exact ⟨u, rfl, k2⟩
    | i + 1 => exact g2 i x hx
  | (s, some n) :: r, env, a, cs, he, h => by
    simp only [slotC] at h
    split at h
    · rename_i l cs' h1 h2
      split at h <;> cases h
      rename_i hb
      have hn := Nat.eq_of_beq_eq_true hb
      obtain ⟨us, g1, g0, g2⟩ := slot_mk r he h2
      obtain ⟨u, k1, k2⟩ := he s _ h1
      obtain ⟨vs, rfl, k3, k4⟩ := RelT.agg_inv k2
      have hvn : vs.length = n := by omega
      refine ⟨vs ++ us, ⟨⟨by rw [List.take_left' hvn]; exact hvn, by rw [List.take_left' hvn]; exact k1⟩, by rw [List.drop_left' hvn]; exact g1⟩, by simp [g0, k3], fun i x hx => ?_⟩
      rw [List.getElem?_append] at hx ⊢
      rw [k3]
      split at hx
      · rename_i hi; rw [if_pos hi]; exact k4 i x hx
      · rename_i hi; rw [if_neg hi]; exact g2 _ x hx
    · cases h
end
/-- The record of a loop over a function. -/
def loopP (szc : Nat) (ps : List Nat) (asg body : Code) (st : LoopState) (pend : Option Code) (sh : List (Nat × Option Nat)) : Obj → List Value → Prop := fun o us =>
  ∃ r : Go.Loop, o = .loop r ∧ r.state = st ∧ r.pending = pend ∧ r.params = ps.toArray ∧ r.assign = asg ∧ r.body = body ∧ r.tmps.size = szc ∧ slotsP sh us r.tmps
abbrev loopB (szc : Nat) (ps : List Nat) (asg body : Code) (st : LoopState) (pend : Option Code) (sh : List (Nat × Option Nat)) (cs : List C) : Blk := .obj (loopP szc ps asg body st pend sh) cs
def zipE : List Nat → List T → Env → Env
  | p :: ps, t :: ts, E => zipE ps ts ((p, t) :: E)
  | _, _, E => E
theorem zip_env {w : World} {φ : Phi} {σ : Store} {A : Nat → Prop} {szc : Nat} : ∀ (ps : List Nat) (ts : List T) (us : List Value) (E : Env) (a : Array Value), a.size = szc → ts.length = us.length → (∀ p ∈ ps, p < szc) →
    (∀ (i : Nat) (t : T) (u : Value), ts[i]? = some t → us[i]? = some u → RelT w φ σ A t u) → (∀ t v, lookup t E = some v → ∃ u, a[t]? = some u ∧ RelT w φ σ A v u) →
    ((ps.zip us).foldl (fun tmps (t, a) => tmps.setIfInBounds t a) a).size = szc ∧
    ∀ t v, lookup t (zipE ps ts E) = some v → ∃ u, ((ps.zip us).foldl (fun tmps (t, a) => tmps.setIfInBounds t a) a)[t]? = some u ∧ RelT w φ σ A v u
  | [], ts, us, E, a, hz, _, _, _, he => ⟨by simpa using hz, fun t v h => by simpa using he t v (by cases ts <;> exact h)⟩
  | p :: ps, [], us, E, a, hz, hl, _, _, he => by
    cases us with
    | nil => exact ⟨by simpa using hz, fun t v h => by simpa using he t v h⟩
    | cons u us => simp at hl
  | p :: ps, t :: ts, us, E, a, hz, hl, hp, hr, he => by
    cases us with
    | nil => simp at hl
    | cons u us =>
      simp only [List.zip_cons_cons, List.foldl_cons, zipE]
      refine zip_env ps ts us _ _ (by simpa using hz) (by simpa using hl) (fun q hq => hp q (List.mem_cons_of_mem _ hq)) (fun i t u h1 h2 => hr (i + 1) t u h1 h2) (fun s v h => ?_)
      simp only [lookup] at h
      split at h
      · rename_i e
        cases h
        have := Nat.eq_of_beq_eq_true e
        subst this
        have hlt : p < a.size := by rw [hz]; exact hp p (by simp)
        exact ⟨u, by simp [hlt], hr 0 _ u rfl rfl⟩
      · rename_i e
        obtain ⟨y, hy, hr'⟩ := he s v h
        have hne : p ≠ s := fun e' => by subst e'; simp at e
        exact ⟨y, by simp [hne, hy], hr'⟩
theorem Store.put2 (σ : Store) (n : Nat) (b b' : Option Blk) : (σ.put (n, []) b).put (n, []) b' = σ.put (n, []) b' := by
  have : ∀ e : Ent, (e.put [] b).put [] b' = e.put [] b' := fun e => by cases e <;> cases b <;> rfl
  apply List.ext_getElem?
  intro i
  simp only [Store.put, List.getElem?_modify]
  cases hs : σ[i]? with
  | none => simp
  | some e => by_cases hi : n = i <;> simp [hi, this]
/-- A block laid that nobody owns. -/
theorem Rs.allocU {Γ : Cx} {σ : Store} {φ : Phi} {w : World} (h : Rs Γ σ φ w) (obj : Obj) : Kept w (w.alloc obj) φ φ σ σ (Al Γ.N φ σ) (Al Γ.N φ σ) ∧ Rs Γ σ φ (w.alloc obj) := by
  have old : ∀ b, b < w.heap.size → (w.alloc obj).heap[b]? = w.heap[b]? := fun b hb => by first | exact heap_alloc_old w _ hb | exact heap_alloc_old w _ _ hb
  have hK : Kept w (w.alloc obj) φ φ σ σ (Al Γ.N φ σ) (Al Γ.N φ σ) :=
    { imm := fun b _ hl => old b hl, all := fun b hb _ => hb, len := Nat.le_refl _,
      cells := fun i kk es' hi he => ⟨es', he, rfl, rfl, fun b base arr ety hp hb => ⟨arr, (old b (Al.own_lt h.st he hp)).trans hb, rfl⟩⟩,
      obj := fun i p' cs' hi he => ⟨rfl, p', cs', he⟩ }
  refine ⟨hK, ?_⟩
  exact { good := h.good, st := ⟨fun i b hi => (h.st.blk i b hi).mono hK fun g base hp => old g (Al.own_lt h.st hi hp), h.st.inj⟩,
          keep := h.keep, os := h.os, tape := h.tape, drawn := h.drawn, output := h.output, size := Nat.le_trans h.size (by simp),
          block := fun b hKb => (old b (Nat.lt_of_lt_of_le hKb.1 h.size)).trans (h.block b hKb), kept := Kept.trans h.size h.kept hK }
section
variable {P : Program} {σ0 : Store} {sz : Nat} {Q : Post} {env env' : Env} {σv σ' σb : Store} {ops : Array Oper} {rest : List Oper} {dst : Option Nat} {ty : TypeId} {pos : String} {after : Array Edge}
variable {szc : Nat} {ps : List Nat} {asg body : Code} {sh : List (Nat × Option Nat)} {cs : List C}
theorem yld_inv {w : World} {φ : Phi} {σ : Store} {A : Nat → Prop} {id : Id} {p : Obj → List Value → Prop} {u : Value} (h : RelT w φ σ A (.c (.yld id)) u) (hσ : σ[id]? = some (some (.obj p cs))) : ∃ b base, φ id = some (b, base) ∧ u = .func (.yield b) #[] #[] := by
  cases h with | c h => cases h with | yld hid h1 h => exact h _ _ hσ
/-- What is asked behind a round. -/
def yPost (P : Program) (σ0 : Store) (sz : Nat) (Q : Post) (ops : Array Oper) (rest : List Oper) (env : Env) (dst : Option Nat) (id : Id) (szc : Nat) (ps : List Nat) (asg body : Code) (sh : List (Nat × Option Nat)) : Post := fun e s' =>
  ∃ cs', s'.σ[id]? = some (some (loopB szc ps asg body .busy none sh cs')) ∧ match e with
  | .normal => AOps P σ0 sz ops Q rest ⟨putE env dst (.c (bool true)), s'.σ.put id (some (loopB szc ps asg body .ready none sh cs'))⟩
  | .ret => AOps P σ0 sz ops Q rest ⟨putE env dst (.c (bool false)), s'.σ.put id (some (loopB szc ps asg body .done (some .ret) sh cs'))⟩
  | .exit i => AOps P σ0 sz ops Q rest ⟨putE env dst (.c (bool false)), s'.σ.put id (some (loopB szc ps asg body .done (some (.exit i)) sh cs'))⟩
  | _ => False
/-- A call of yield: the round, in the caller's own store. -/
theorem AOps.yield {x : Operand} {as' : List Operand} {ats : Array TypeId} {id : Id} {ts : List T} {E1 : Env} (hx : ev env x = some (.c (.yld id))) (ha : evs env as' = some ts) (hσ : σv[id]? = some (some (loopB szc ps asg body .ready none sh cs)))
    (hl : Nat.beq ts.length ps.length = true) (hps : ps.all (fun p => Nat.blt p szc) = true) (hna : hasRange asg = false) (hnr : hasRange body = false) (hd : dstOk sz dst = true) (hσb : σv.put id (some (loopB szc ps asg body .busy none sh cs)) = σb)
    (hass : AWP P σv szc asg (fun e s' => e = .normal ∧ s' = St.mk E1 σv) ⟨zipE ps ts (slotE sh cs), σv⟩)
    (h : AWP P σv szc body (yPost P σ0 sz Q ops rest env dst id szc ps asg body sh) ⟨E1, σb⟩) :
    AOps P σ0 sz ops Q (⟨dst, .call ⟨.value x, as'.toArray, ats⟩, ty, pos, after, none⟩ :: rest) (St.mk env σv) := fun Γ φ a w hΓ hR ro => by
  subst hσb
  obtain ⟨b, base, hp, hv⟩ := yld_inv (ev_rel hR hx) hσ
  obtain ⟨b', o, us, g1, g2, ⟨r, rfl, r1, r2, r3, r4, r5, r6, r7⟩, g3⟩ := hR.st.blk _ _ hσ
  rw [hp] at g1; cases g1
  obtain ⟨k1, k2⟩ := evs_rel hR ha
  have hlen : ts.length = ps.length := Nat.eq_of_beq_eq_true hl
  have hrun : (execOp a.eval ⟨dst, .call ⟨.value x, as'.toArray, ats⟩, ty, pos, after, none⟩).run P w = .ok (.round b r.fn ((ps.zip (as'.map a.eval)).foldl (fun tmps (t, a) => tmps.setIfInBounds t a) r.tmps) asg body) w := by
    have := run_yield (P := P) (args := (as'.map a.eval).toArray) g2 (by rw [r3]; simp; omega)
    rw [r3, r4, r5] at this
    simp only [List.zip_toArray, List.foldl_toArray] at this
    simp [execOp, resolve, hv, Deferred.ofValue, invoke, this]
  refine step_in rfl ⟨fun _ _ => trivial, ?_⟩
  rw [sem_ro hrun (fun d => nofun), Oper.uponIn_round]
  have hz := zip_env (w := w) (φ := φ) (σ := σv) (A := Al Γ.N φ σv) (szc := szc) ps ts (as'.map a.eval) (slotE sh cs) r.tmps r6 (by simp [k1]) (fun p hp => by
      have := List.all_eq_true.1 hps p hp
      simpa using this) k2 (slot_env sh r7 g3)
  have hR1 : R ⟨w, Γ.N, φ, σv⟩ szc ⟨zipE ps ts (slotE sh cs), σv⟩ φ { tmps := (ps.zip (as'.map a.eval)).foldl (fun tmps (t, a) => tmps.setIfInBounds t a) r.tmps, defers := [] } w :=
    { toRs := hR.toRs.down.rs, defers := .nil, asize := hz.1, env := hz.2 }
  have hid : id.1 < σv.length := Store.lt_of hσ
  refine ⟨fun h => by simp at h, roundIn_of_wpIn (F := fw ro) trivial (wpIn_mono (hass _ φ _ _ rfl hR1 (some b) (fun e => by rw [hna] at e; cases e)) ?_)⟩
  rintro e a1 w1 ⟨s1, φ1, ⟨rfl, rfl⟩, hR1⟩
  have hφ1 : φ1 id = some (b, 0) := ((hR1.toRs.kept.obj id _ _ hid hσ).1).trans hp
  obtain ⟨b', o, us, q1, q2, ⟨r', rfl, r1, r2, r3, r4, r5, r6, r7⟩, q3⟩ := hR1.st.blk _ _ hσ
  rw [hφ1] at q1; cases q1
  have hW := Rs.writeB (q1 := loopP szc ps asg body .busy none sh) (cs1 := cs) (o1 := .loop { r' with state := .busy }) hR1.toRs hσ hφ1 q2 ⟨{ r' with state := .busy }, rfl, rfl, r2, r3, r4, r5, r6, r7⟩ q3
  refine ⟨_, run_beginRound (P := P) q2 r1, ?_⟩
  refine wpIn_mono (h _ φ1 _ _ rfl (hR1.of hW.1 hW.2) (some b) (fun e => by rw [hnr] at e; cases e)) ?_
  rintro e a' w' ⟨s', φ', ⟨cs', hσ', hm⟩, hR'⟩
  have hφ : φ' id = some (b, 0) := ((hR'.toRs.kept.obj id _ _ hid hσ').1).trans hp
  obtain ⟨b', o, us', q1, q2, ⟨r'', rfl, p1, p2, p3, p4, p5, p6, p7⟩, q3⟩ := hR'.st.blk _ _ hσ'
  rw [hφ] at q1; cases q1
  have fin : ∀ (jump : Option Code) (st : LoopState), st = (if jump.isNone then .ready else .done) → AOps P σ0 sz ops Q rest ⟨putE env dst (.c (bool jump.isNone)), s'.σ.put id (some (loopB szc ps asg body st jump sh cs'))⟩ →
      ∃ v w'', (Instr.endRound b jump).run P w' = .ok v w'' ∧ wpListIn (fw ro) 0 P ops (lift Γ sz Q) rest (a.put dst v) w'' := fun jump st hst hA => by
    subst hst
    have hE := Rs.writeB (q1 := loopP szc ps asg body (if jump.isNone then .ready else .done) jump sh) (cs1 := cs') (o1 := .loop { r'' with state := if jump.isNone then .ready else .done, pending := jump }) hR'.toRs hσ' hφ q2 ⟨_, rfl, rfl, rfl, p3, p4, p5, p6, p7⟩ q3
    refine ⟨_, _, run_endRound jump q2, ?_⟩
    exact hA Γ φ' _ _ hΓ ((hR.of hE.2.kept (hR.toRs.up hE.2)).put hd (.bool _)) ro
  cases e with
  | normal => exact fin none .ready rfl hm
  | ret => exact fin (some .ret) .done rfl hm
  | exit i => exact fin (some (.exit i)) .done rfl hm
  | goto t => exact hm.elim
  | panic c => exact hm.elim
  | outgrown => exact hm.elim
theorem yPost_normal {id : Id} {env2 : Env} {σ2 σ3 : Store} (hσ : σ2[id]? = some (some (loopB szc ps asg body .busy none sh cs))) (h3 : σ2.put id (some (loopB szc ps asg body .ready none sh cs)) = σ3)
    (h : AOps P σ0 sz ops Q rest (St.mk (putE env dst (.c (bool true))) σ3)) : yPost P σ0 sz Q ops rest env dst id szc ps asg body sh .normal (St.mk env2 σ2) := ⟨cs, hσ, by subst h3; exact h⟩
theorem yPost_ret {id : Id} {env2 : Env} {σ2 σ3 : Store} (hσ : σ2[id]? = some (some (loopB szc ps asg body .busy none sh cs))) (h3 : σ2.put id (some (loopB szc ps asg body .done (some .ret) sh cs)) = σ3)
    (h : AOps P σ0 sz ops Q rest (St.mk (putE env dst (.c (bool false))) σ3)) : yPost P σ0 sz Q ops rest env dst id szc ps asg body sh .ret (St.mk env2 σ2) := ⟨cs, hσ, by subst h3; exact h⟩
/-- What is asked when the function that was ranged over has ended. -/
def rPost (P : Program) (σ0 : Store) (sz : Nat) (Q : Post) (env : Env) (n : Nat) (ps : List Nat) (asg body : Code) (sh : List (Nat × Option Nat)) (σ' : Store) : Prop :=
  ∃ st pend cs', st ≠ .busy ∧ σ'[((n, []) : Id)]? = some (some (loopB sz ps asg body st pend sh cs')) ∧ match pend with
  | none => Q .normal ⟨env, σ'.put (n, []) none⟩
  | some c => AWP P σ0 sz c Q ⟨env, σ'.put (n, []) none⟩
theorem rPost_normal {n : Nat} {σ2 σ3 : Store} (hσ : σ2[((n, []) : Id)]? = some (some (loopB sz ps asg body .ready none sh cs))) (h3 : σ2.put (n, []) none = σ3) (h : Q .normal (St.mk env σ3)) : rPost P σ0 sz Q env n ps asg body sh σ2 :=
  ⟨.ready, none, cs, nofun, hσ, by subst h3; exact h⟩
theorem rPost_jump {n : Nat} {c : Code} {σ2 σ3 : Store} (hσ : σ2[((n, []) : Id)]? = some (some (loopB sz ps asg body .done (some c) sh cs))) (h3 : σ2.put (n, []) none = σ3) (h : AWP P σ0 sz c Q (St.mk env σ3)) : rPost P σ0 sz Q env n ps asg body sh σ2 :=
  ⟨.done, some c, cs, nofun, hσ, by subst h3; exact h⟩
/-- A loop over a function. -/
theorem AWP.rangeFunc {g : Operand} {f : FuncId} {caps : List C} {n : Nat} {Qit : T → Store → Prop} (sh : List (Nat × Option Nat)) (hg : ev env g = some (.c (.fn f caps))) (hs : slotC sh env = some cs) (hn : newF σv = some (n, [])) (hσ : snocF σv (.one (loopB sz ps asg body .ready none sh cs)) = some σ')
    (hf : FnOk P f (.c (.yld (n, [])) :: caps.map T.c) σ' Qit) (hq : ∀ r σ'', Qit r σ'' → rPost P σ0 sz Q env n ps asg body sh σ'') : AWP P σ0 sz (.rangeFunc g ps.toArray asg body) Q (St.mk env σv) := fun Γ φ a w hΓ hR ro hro => by
  have hro := hro rfl
  subst hro
  have h2 := newF_eq hn; have h3 := snocF_eq hσ
  cases h2
  subst h3
  obtain ⟨fn, f1, f2, f3⟩ := hf.fn
  obtain ⟨cv, g1, g2, g3⟩ := fn_inv (ev_rel hR hg)
  obtain ⟨us, s1, _, s2⟩ := slot_mk sh hR.env hs
  refine wpIn_rangeFunc fun fid _ => ?_
  have hU := Rs.allocU hR.toRs (.deferred (some []))
  have hA := Rs.allocB (p0 := loopP sz ps asg body .ready none sh) (cs0 := cs) (us0 := us) (obj := .loop { state := .ready, pending := none, fn := fid, tmps := a.tmps, params := ps.toArray, assign := asg, body, defers := w.heap.size }) hU.2
    ⟨_, rfl, rfl, rfl, rfl, rfl, rfl, hR.asize, s1⟩ (fun i x hx => let ⟨u, q1, q2⟩ := s2 i x hx; ⟨u, q1, q2.mono hU.1⟩)
  have hw : (w.alloc (.deferred (some []))).heap.size = w.heap.size + 1 := by simp
  have hK := Kept.trans (by simp) hU.1 hA.1
  generalize hW : (w.alloc (.deferred (some []))).alloc (.loop { state := .ready, pending := none, fn := fid, tmps := a.tmps, params := ps.toArray, assign := asg, body, defers := w.heap.size }) = W at hA hK
  refine ⟨w.heap.size + 1, [{ target := .collected w.heap.size, args := #[] }], W, { target := .fn (.func f) cv.toArray, args := #[.func (.yield (w.heap.size + 1)) #[] #[]] }, W, f, (Value.func (.yield (w.heap.size + 1)) #[] #[] :: cv).toArray, W, ?_, ?_, fun _ _ => trivial, ?_, fun h => by simp at h, ?_⟩
  · rw [← hW]; exact run_enterLoop_outer fid a.tmps ps.toArray asg body
  · have e2 : a.eval (.const (.func (.yield (w.heap.size + 1)) #[] #[])) = .func (.yield (w.heap.size + 1)) #[] #[] := rfl
    simp [resolve, rangeCall, g1, e2, Deferred.ofValue]
  · have f2' : ¬ fn.name = "runtime.NumGoroutine" := by simpa using f2
    have f3' : ¬ fn.body = none := fun e => by rw [e] at f3; cases f3
    simp [invoke, callFunc, f1, f2', f3']
  refine (callsIn_wide (n := 0 - 1)).2 ?_
  refine (hf.run ⟨_, Γ.N, _, _⟩ (Value.func (.yield (w.heap.size + 1)) #[] #[] :: cv) rfl hA.2.down (by simp [g2]) (fun i t u hi hu => ?_)).mono ?_
  · match i with
    | 0 =>
      cases hi; cases hu
      exact .c (.yld (by simp) rfl fun p cs hp => ⟨_, 0, by simp [phiNew, hw], rfl⟩)
    | i + 1 =>
      simp only [List.getElem?_cons_succ, List.getElem?_map, Option.map_eq_some_iff] at hi hu
      obtain ⟨c, hc, rfl⟩ := hi
      exact .c ((g3 i c u hc hu).mono hK)
  · rintro e w' ⟨v, r, σ2, φ', rfl, hQ, hr, hs'⟩
    obtain ⟨st, pend, cs', hb, hσ2, hm⟩ := hq r σ2 hQ
    have hφ : φ' (σv.length, []) = some (w.heap.size + 1, 0) := by
      rw [(hs'.kept.obj (σv.length, []) _ _ (by simp) hσ2).1]; simp [phiNew, hw]
    obtain ⟨b', o, us', q1, q2, ⟨r', rfl, p1, p2, p3, p4, p5, p6, p7⟩, q3⟩ := hs'.st.blk _ _ hσ2
    rw [hφ] at q1; cases q1
    have hE := Rs.writeB (q1 := fun _ _ => True) (cs1 := []) (us1 := []) (o1 := .loop { r' with state := .exhausted }) hs' hσ2 hφ q2 trivial (fun i x hx => by simp at hx)
    have hX := Rs.kill hE.2 (σv.length, [])
    rw [Store.put2] at hX
    have hDK := hK.trans (by rw [← hW]; simp; omega) (hX.2.kept)
    have hmark : Marks Γ φ' (σ2.put (σv.length, []) none) (w'.putObj (w.heap.size + 1) (.loop { r' with state := .exhausted })) ([{ target := .collected w.heap.size, args := #[] }] ++ a.defers) := by
      have m0 : Marks Γ φ σv (w.alloc (.deferred (some []))) ([{ target := .collected w.heap.size, args := #[] }] ++ a.defers) := by
        have m1 := hR.defers.kept hU.1
        refine ⟨List.nodup_cons.2 ⟨fun hin => ?_, m1.1⟩, fun d hd => ?_⟩
        · obtain ⟨D, e, q, _⟩ := hR.defers.2 _ hin
          have : D = w.heap.size := by cases e; rfl
          rw [this] at q
          have := (Array.getElem?_eq_some_iff.1 q).1
          omega
        · rcases List.mem_cons.1 hd with rfl | hd
          · refine ⟨w.heap.size, rfl, heap_alloc_new w _, hR.size, fun hN => ?_, fun i blk base hi hp => ?_⟩
            · have := hR.good.lt _ hN
              have := hR.size
              omega
            · have := Al.own_lt hR.st hi hp
              omega
          · exact m1.2 d hd
      exact (m0.kept hA.1).kept hX.2.kept
    have hRf : R Γ sz ⟨env, σ2.put (σv.length, []) none⟩ φ' { a with defers := [{ target := .collected w.heap.size, args := #[] }] ++ a.defers } (w'.putObj (w.heap.size + 1) (.loop { r' with state := .exhausted })) :=
      { toRs := hA.2.up hX.2, defers := hmark, asize := hR.asize, env := fun t v ht => let ⟨u, hu, hr⟩ := hR.env t v ht; ⟨u, hu, hr.mono hDK⟩ }
    refine ⟨r'.pending, _, run_endLoop q2 (by rw [p1]; exact hb), ?_⟩
    subst p2
    revert hm
    generalize r'.pending = pend at *
    intro hm
    cases pend with
    | none => exact ⟨_, φ', hm, hRf⟩
    | some c => exact hm Γ φ' _ _ hΓ hRf none (fun _ => rfl)
/-- A loop over a function, its codes under names. -/
theorem AWP.rangeB {g : Operand} {f : FuncId} {caps : List C} {n : Nat} (sh : List (Nat × Option Nat)) (hg : ev env g = some (.c (.fn f caps))) (hs : slotC sh env = some cs) (hn : newF σv = some (n, []))
    (h : ∀ A B : Code, A = asg → B = body → ∃ (σ' : Store) (Qit : T → Store → Prop), snocF σv (.one (loopB sz ps A B .ready none sh cs)) = some σ' ∧ FnOk P f (.c (.yld (n, [])) :: caps.map T.c) σ' Qit ∧ ∀ r σ'', Qit r σ'' → rPost P σ0 sz Q env n ps A B sh σ'') :
    AWP P σ0 sz (.rangeFunc g ps.toArray asg body) Q (St.mk env σv) := by
  obtain ⟨σ', Qit, h1, h2, h3⟩ := h asg body rfl rfl
  exact AWP.rangeFunc sh hg hs hn h1 h2 h3
theorem AOps.yieldB {A B : Code} {x : Operand} {as' : List Operand} {ats : Array TypeId} {id : Id} {ts : List T} {E1 : Env} (hA : A = asg) (hB : B = body) (hx : ev env x = some (.c (.yld id))) (ha : evs env as' = some ts) (hσ : σv[id]? = some (some (loopB szc ps A B .ready none sh cs)))
    (hl : Nat.beq ts.length ps.length = true) (hps : ps.all (fun p => Nat.blt p szc) = true) (hna : hasRange asg = false) (hnr : hasRange body = false) (hd : dstOk sz dst = true) (hσb : σv.put id (some (loopB szc ps A B .busy none sh cs)) = σb)
    (hass : AWP P σv szc asg (fun e s' => e = .normal ∧ s' = St.mk E1 σv) ⟨zipE ps ts (slotE sh cs), σv⟩)
    (h : AWP P σv szc body (yPost P σ0 sz Q ops rest env dst id szc ps A B sh) ⟨E1, σb⟩) :
    AOps P σ0 sz ops Q (⟨dst, .call ⟨.value x, as'.toArray, ats⟩, ty, pos, after, none⟩ :: rest) (St.mk env σv) := by
  subst hA hB
  exact AOps.yield hx ha hσ hl hps hna hnr hd hσb hass h
end
end Ab
end
section
namespace Ab
open Go
/-- Root r is what was root n. -/
def mvr (r n : Nat) (i : Id) : Id := ((match Nat.beq i.1 r with | true => n | false => i.1), i.2)
theorem mvr_same {r n : Nat} {i : Id} (h : i.1 = r) : mvr r n i = (n, i.2) := by
  have : Nat.beq i.1 r = true := by rw [h]; exact Nat.beq_refl r
  simp only [mvr, this]
theorem mvr_ne {r n : Nat} {i : Id} (h : i.1 ≠ r) : mvr r n i = i := by
  have : Nat.beq i.1 r = false := beq_ne h
  simp only [mvr, this]
section
variable {P : Program} {σ0 : Store} {sz : Nat} {Q : Post} {env env' : Env} {σv σ' : Store} {ops : Array Oper} {rest : List Oper} {dst : Option Nat} {ty : TypeId} {pos : String} {after : Array Edge}
inductive EntR (r n : Nat) (σ : Store) (m i : Nat) : Ent → Prop
  | dead : EntR r n σ m i .dead
  | one {b : Blk} (h1 : b.ok m = true) (h2 : σ[mvr r n (i, [])]? = some (some (b.ren (mvr r n)))) : EntR r n σ m i (.one b)
  | vec {α : Type} {k : Nat} {f : α → List I} {l : List α} (h2 : σ[mvr r n (i, [])]? = some (some (vec k f l))) : EntR r n σ m i (.one (vec k f l))
  | mat {α : Type} {k j : Nat} {f : α → List I} {M : List (List α)} (hj : (mvr r n (i, [])).1 = j) (hi : Nat.blt i m = true) (h : σ[j]? = some (mat (j, []) k f M)) : EntR r n σ m i (mat (i, []) k f M)
def StR_ (r n : Nat) (σ : Store) (m : Nat) : Nat → Store → Prop
  | _, [] => True
  | i, e :: l => EntR r n σ m i e ∧ StR_ r n σ m (i + 1) l
theorem EntR.get {r n : Nat} {σ : Store} {m i : Nat} {e : Ent} (h : EntR r n σ m i e) {p : List Nat} {b : Blk} (hb : e.sub p = some b) : b.ok m = true ∧ σ[mvr r n (i, p)]? = some (some (b.ren (mvr r n))) := by
  cases h with
  | dead => cases p <;> cases hb
  | one h1 h2 => cases p with
    | nil => cases hb; exact ⟨h1, h2⟩
    | cons => cases hb
  | vec h2 => cases p with
    | nil => cases hb; exact ⟨vec_ok, by rw [Blk.im_ren]; exact h2⟩
    | cons => cases hb
  | @mat α k j f M hj hi h =>
    have hi' : i < m := by simpa using hi
    have e : ∀ q, mvr r n (i, q) = (j, q) := fun q => by rw [← hj]; rfl
    rw [e, ent_at h]
    cases p with
    | nil =>
      cases hb
      refine ⟨hdr_ok hi' _, ?_⟩
      rw [mat_main]
      congr 2
      simp only [Blk.ren]
      congr 1
      apply List.ext_getElem?
      intro q
      rw [List.getElem?_map]
      simp only [hdr, List.getElem?_mapIdx, Option.map_map]
      cases M[q]? with
      | none => rfl
      | some row => simp [C.renL, C.ren, e]
    | cons a q =>
      rw [mat_row] at hb ⊢
      split at hb
      · rename_i row hrow
        cases q with
        | cons b q => cases hb
        | nil => cases hb; exact ⟨vec_ok, by rw [Blk.im_ren]⟩
      · cases hb
theorem StR_.get {r n m : Nat} {σ : Store} : ∀ {i : Nat} {σ' : Store}, StR_ r n σ m i σ' → ∀ (j : Nat) (p : List Nat) (b : Blk), σ'[((j, p) : Id)]? = some (some b) → b.ok m = true ∧ σ[mvr r n (i + j, p)]? = some (some (b.ren (mvr r n)))
  | _, [], _, j, p, b, h => by simp at h
  | i, e :: l, h, 0, p, b, hb => by
    rw [Store.at_eq] at hb
    simp only [Store.at, List.getElem?_cons_zero, Option.some.injEq] at hb
    exact h.1.get hb
  | i, e :: l, h, j + 1, p, b, hb => by
    have := StR_.get (i := i + 1) h.2 j p b (by
      rw [Store.at_eq] at hb ⊢
      simpa [Store.at] using hb)
    rwa [show i + 1 + j = i + (j + 1) by omega] at this
def EnvR (r n : Nat) (env : Env) : Env → Prop
  | [] => True
  | (t, v) :: l => lookup t env = some (v.ren (mvr r n)) ∧ EnvR r n env l
theorem EnvR.get {r n : Nat} : ∀ {env' : Env}, EnvR r n env env' → ∀ t v, lookup t env' = some v → lookup t env = some (v.ren (mvr r n))
  | [], _, t, v, h => by simp [lookup] at h
  | (k, x) :: l, ⟨h1, h2⟩, t, v, h => by
    simp only [lookup] at h
    split at h
    · rename_i he; cases h; rw [← Nat.eq_of_beq_eq_true he]; exact h1
    · exact EnvR.get h2 t v h
def deadR (σ : Store) (n : Nat) : Bool := match σ[n]? with
  | some .dead => true
  | some _ => false
  | none => true
/-- Root n takes the number r. -/
theorem Sub.moveM (r n : Nat) (h0 : Nat.ble σ0.length r = true) (hl : Nat.ble σ0.length σ'.length = true) (hn : deadR σ' n = true) (henv : EnvR r n env env') (he : envOk σ'.length env' = true) (hst : StR_ r n σv σ'.length 0 σ') : Sub σ0 ⟨env, σv⟩ ⟨env', σ'⟩ := by
  have h0' := Nat.le_of_ble_eq_true h0
  have hd : ∀ (p : List Nat) b, σ'[((n, p) : Id)]? ≠ some (some b) := fun p b hb => by
    rw [Store.at_eq] at hb
    simp only [Store.at] at hb
    simp only [deadR] at hn
    split at hb
    · rename_i e hx
      rw [hx] at hn
      cases e with
      | dead => cases p <;> cases hb
      | one => cases hn
      | node => cases hn
    · cases hb
  refine Sub.mk (mvr r n) (fun i hi => mvr_ne (fun e => by omega)) (Nat.le_of_ble_eq_true hl) (fun i j b b' hi hj h => ?_) (fun i b hi => ?_) (fun t v ht => ⟨envOk_get he t v ht, henv.get t v ht⟩)
  · by_cases h1 : i.1 = r <;> by_cases h2 : j.1 = r
    · rw [mvr_same h1, mvr_same h2] at h
      exact Prod.ext (h1.trans h2.symm) (Prod.mk.inj h).2
    · rw [mvr_same h1, mvr_ne h2] at h
      subst h; exact absurd hj (hd _ _)
    · rw [mvr_same h2, mvr_ne h1] at h
      subst h; exact absurd hi (hd _ _)
    · rwa [mvr_ne h1, mvr_ne h2] at h
  · have := hst.get i.1 i.2 b hi
    rwa [Nat.zero_add] at this
theorem AWP.moveM {c : Code} (r n : Nat) (h0 : Nat.ble σ0.length r = true) (hl : Nat.ble σ0.length σ'.length = true) (hn : deadR σ' n = true) (henv : EnvR r n env env') (he : envOk σ'.length env' = true) (hst : StR_ r n σv σ'.length 0 σ') (h : AWP P σ0 sz c Q (St.mk env' σ')) : AWP P σ0 sz c Q (St.mk env σv) :=
  AWP.sub (Sub.moveM r n h0 hl hn henv he hst) h
/-! ### A row of nothing appended to rows -/
/-- A cell of nil among cells: a row of its own with nothing in it. -/
theorem Sub.virtJ (k : Nat) {b : Id} {j : Nat} {es : List (List C)} (hb : σv[b]? = some (some (.cells 1 es))) (hj : es[j]? = some [.imm (.val (.slice none 0 0))]) :
    Sub σ0 ⟨env, σv⟩ ⟨env, Store.put (σv ++ [.one (.cells k [])]) b (some (.cells 1 (es.set j [.own (σv.length, []) 0 0])))⟩ := fun Γ sz φ a w hΓ hR => by
  have hbl := Store.lt_of hb
  have hV := hR.toRs.virt k
  have hb' : (σv ++ [.one (.cells k [])])[b]? = some (some (.cells 1 es)) := by rw [Store.get_left hbl]; exact hb
  generalize hφ : (fun i => if i = ((σv.length, []) : Id) then none else φ i) = φ' at hV
  have φn : φ' (σv.length, []) = none := by rw [← hφ]; simp
  rcases hV.2.st.blk _ _ hb' with ⟨_, g⟩ | ⟨b0, base, arr, ety, q1, q2, q3, q4, q5⟩
  · subst g; simp at hj
  · have hW := Rs.write (k := 1) (es' := es.set j [.own (σv.length, []) 0 0]) (arr' := arr) hV.2 hb' q1 q2 (by simp) rfl (fun i e he => by
      rw [List.getElem?_set] at he
      split at he
      · split at he
        · cases he; rfl
        · cases he
      · exact q4 i e he) q3 (fun i e o x he hx => by
      rw [List.getElem?_set] at he
      split at he
      · rename_i e; subst e
        split at he
        · cases he
          match o, hx with
          | 0, hx =>
            cases hx
            obtain ⟨u, hu, hr⟩ := q5 j _ 0 _ hj rfl
            refine ⟨u, hu, ?_⟩
            cases hr with | imm hr => cases hr with | val h =>
              exact .own (by simp) rfl fun k' es' _ => .inl ⟨φn, rfl, rfl, rfl⟩
          | o + 1, hx => simp at hx
        · cases he
      · exact q5 i e o x he hx)
    rw [Go.setRow_self w b0 arr ety (0, 0) q2] at hW
    exact ⟨φ', (hR.of hV.1 hV.2).of hW.1 hW.2⟩
theorem set_dead {σ : Store} {r : Nat} (i : Id) (x : Blk) (h : (σ.set r .dead)[i]? = some (some x)) : i.1 ≠ r ∧ σ[i]? = some (some x) := by
  obtain ⟨i1, q⟩ := i
  rw [Store.at_eq] at h ⊢
  simp only [Store.at, List.getElem?_set] at h ⊢
  by_cases e : r = i1
  · subst e
    rw [if_pos rfl] at h
    split at h
    · rename_i e hx
      split at hx
      · cases hx; cases q <;> cases h
      · cases hx
    · cases h
  · rw [if_neg e] at h
    exact ⟨fun e' => e e'.symm, h⟩
/-- A row of nothing appended to rows. -/
theorem S.appendM {α : Type} {k r s : Nat} {f : α → List I} {M M' : List (List α)} {x y : Operand} {t e : TypeId} {bytes m n : Nat} {z : Value} {σ1 : Store} [ht : TyD P t (.slice e)] [hts : TyS P e 1 bytes z]
    (ha : app bytes M [[]] = some M') (hzk : (z.cells.size == 1) = true) (hbp : Nat.blt 0 bytes = true) (hx : ev env x = some (.c (.own (r, []) 0 m))) (hm : m = M.length) (hσ : σv[r]? = some (mat (r, []) k f M))
    (hy : ev env y = some (.c (.own (s, []) 0 1))) (hs : σv[((s, []) : Id)]? = some (some (.cells 1 [[.imm (.val (.slice none 0 0))]]))) (hn : newF σv = some (n, [])) (h1 : setF σv r .dead = some σ1) (hσ' : snocF σ1 (mat (n, []) k f M') = some σ') (hd : dstOk sz dst = true) (h0 : Nat.ble σ0.length n = true)
    (h : AOps P σ0 sz ops Q rest (St.mk (putE env dst (.c (.own (n, []) 0 M'.length))) σ')) :
    AOps P σ0 sz ops Q (⟨dst, .call ⟨.builtin .append, #[x, y], #[t, t]⟩, ty, pos, after, none⟩ :: rest) (St.mk env σv) := by
  have h2 := (setF_eq h1).1; have h3 := newF_eq hn; have h4 := snocF_eq hσ'
  cases h3
  subst h2 h4 hm
  obtain ⟨hb, rfl⟩ := app_get ha
  have hrl := (List.getElem?_eq_some_iff.1 hσ).1
  have h0' := Nat.le_of_ble_eq_true h0
  intro Γ0 φ0 a0 w0 hΓ0 hR0
  have hsrc : Src σv 1 (.c (.own (s, []) 0 1)) [[.imm (.val (.slice none 0 0))]] := .own (j := 0) (n := 1) hs
  refine AOps.append hzk hbp hx (mat_head hσ) hy hsrc (by simpa using hb) hd ?_ Γ0 φ0 a0 w0 hΓ0 hR0
  have e1 : ((hdr (r, []) M).drop 0).take M.length = hdr (r, []) M := by rw [List.drop_zero, List.take_of_length_le (by simp)]
  rw [e1]
  -- the last head becomes a row of its own
  have hlast : (σv.put (r, []) none ++ [.one (.cells 1 (hdr (r, []) M ++ [[.imm (.val (.slice none 0 0))]]))])[((σv.length, []) : Id)]? = some (some (.cells 1 (hdr (r, []) M ++ [[.imm (.val (.slice none 0 0))]]))) := by
    rw [Store.get_right (by simp)]; simp [Store.at_eq, Store.at, Ent.sub]
  refine AOps.sub (Sub.virtJ k hlast (j := M.length) (by rw [List.getElem?_append_right (by simp)]; simp)) ?_
  have e2 : (hdr (r, []) M ++ [[C.imm (.val (.slice none 0 0))]]).set M.length [.own (σv.length + 1, []) 0 0] = hdr (r, []) M ++ [[.own (σv.length + 1, []) 0 0]] := by
    rw [List.set_append_right _ _ (by simp)]; simp
  have e3 : (σv.put (r, []) none ++ [Ent.one (.cells 1 (hdr (r, []) M ++ [[C.imm (.val (.slice none 0 0))]]))]).length = σv.length + 1 := by simp
  rw [e3, e2]
  generalize hX : Store.put ((σv.put (r, []) none ++ [Ent.one (.cells 1 (hdr (r, []) M ++ [[C.imm (.val (.slice none 0 0))]]))]) ++ [.one (.cells k [])]) (σv.length, []) (some (.cells 1 (hdr (r, []) M ++ [[.own (σv.length + 1, []) 0 0]]))) = σX
  have xn : σX[((σv.length, []) : Id)]? = some (some (.cells 1 (hdr (r, []) M ++ [[.own (σv.length + 1, []) 0 0]]))) := by
    rw [← hX]; exact Store.get_put_eq (by rw [Store.get_left (by simp)]; exact hlast)
  have xv : σX[((σv.length + 1, []) : Id)]? = some (some (.cells k [])) := by
    rw [← hX, Store.get_put_ne (by simp), Store.get_right (by simp)]; simp [Store.at_eq, Store.at, Ent.sub]
  have xo : ∀ i : Id, i.1 < σv.length → i ≠ (r, []) → σX[i]? = σv[i]? := fun i hi hne => by
    rw [← hX, Store.get_put_ne (fun e => by rw [e] at hi; simp at hi), Store.get_left (by simp; omega), Store.get_left (by simpa using hi), Store.get_put_ne hne]
  -- what the new names stand for
  generalize hπ : (fun i : Id => if i.1 = σv.length then (if i.2 = [] then (σv.length, []) else if i.2 = [M.length] then (σv.length + 1, []) else (r, i.2)) else i) = π
  have π0 : ∀ i : Id, i.1 ≠ σv.length → π i = i := fun i hi => by rw [← hπ]; simp [hi]
  have πn : π (σv.length, []) = (σv.length, []) := by rw [← hπ]; simp
  have πv : π (σv.length, [M.length]) = (σv.length + 1, []) := by rw [← hπ]; simp
  have πr : ∀ q, q < M.length → π (σv.length, [q]) = (r, [q]) := fun q hq => by rw [← hπ]; simp; omega
  have hMlen : (M ++ [[]] : List (List α)).length = M.length + 1 := by simp
  -- the blocks of the store that is wanted
  have cases3 : ∀ (i : Id) b, (σv.set r .dead ++ [mat (σv.length, []) k f (M ++ [[]])])[i]? = some (some b) →
      (i.1 < σv.length ∧ i.1 ≠ r ∧ σv[i]? = some (some b)) ∨ (i = (σv.length, []) ∧ b = .cells 1 (hdr (σv.length, []) (M ++ [[]]))) ∨ (∃ q row, i = (σv.length, [q]) ∧ (M ++ [[]])[q]? = some row ∧ b = vec k f row) := fun i b hi => by
    rcases Nat.lt_or_ge i.1 σv.length with hl | hl
    · rw [Store.get_left (by simpa using hl)] at hi
      obtain ⟨g1, g2⟩ := set_dead i b hi
      exact .inl ⟨hl, g1, g2⟩
    · rw [Store.get_right (by simpa using hl)] at hi
      obtain ⟨i1, q⟩ := i
      simp only [List.length_set] at hi hl
      have hz : i1 = σv.length := by
        have := Store.lt_of hi
        simp at this; simp at hl; omega
      subst hz
      rw [Nat.sub_self, ent_at (e := mat (σv.length, []) k f (M ++ [[]])) rfl] at hi
      cases q with
      | nil => cases hi; exact .inr (.inl ⟨rfl, rfl⟩)
      | cons p q =>
        rw [mat_row] at hi
        split at hi
        · rename_i row hrow
          cases q with
          | nil => cases hi; exact .inr (.inr ⟨p, row, rfl, hrow, rfl⟩)
          | cons => cases hi
        · cases hi
  refine AOps.sub (s' := ⟨putE env dst (.c (.own (σv.length, []) 0 (M ++ [[]]).length)), σv.set r .dead ++ [mat (σv.length, []) k f (M ++ [[]])]⟩) ?_ h
  have hlen' : (σv.set r .dead ++ [mat (σv.length, []) k f (M ++ [[]])]).length = σv.length + 1 := by simp
  refine Sub.mk π (fun i hi => π0 i (by omega)) (by rw [hlen']; omega) (fun i j b b' hi hj he => ?_) (fun i b hi => ?_) (fun t v ht => ?_)
  · rcases cases3 i b hi with ⟨g1, g2, _⟩ | ⟨rfl, _⟩ | ⟨q, row, rfl, g1, _⟩ <;> rcases cases3 j b' hj with ⟨k1, k2, _⟩ | ⟨rfl, _⟩ | ⟨q', row', rfl, k1, _⟩
    · rwa [π0 i (by omega), π0 j (by omega)] at he
    · rw [π0 i (by omega), πn] at he; subst he; simp at g1
    · rw [π0 i (by omega)] at he
      have hq : q' < M.length + 1 := by rw [← hMlen]; exact (List.getElem?_eq_some_iff.1 k1).1
      by_cases e : q' = M.length
      · subst e; rw [πv] at he; subst he; exact absurd g1 (by simp)
      · rw [πr q' (by omega)] at he; subst he; exact absurd rfl g2
    · rw [π0 j (by omega), πn] at he; subst he; simp at k1
    · rfl
    · have hq : q' < M.length + 1 := by rw [← hMlen]; exact (List.getElem?_eq_some_iff.1 k1).1
      by_cases e : q' = M.length
      · subst e; rw [πn, πv] at he; simp at he
      · rw [πn, πr q' (by omega)] at he; simp at he
    · rw [π0 j (by omega)] at he
      have hq : q < M.length + 1 := by rw [← hMlen]; exact (List.getElem?_eq_some_iff.1 g1).1
      by_cases e : q = M.length
      · subst e; rw [πv] at he; subst he; exact absurd k1 (by simp)
      · rw [πr q (by omega)] at he; subst he; exact absurd rfl k2
    · have hq : q < M.length + 1 := by rw [← hMlen]; exact (List.getElem?_eq_some_iff.1 g1).1
      by_cases e : q = M.length
      · subst e; rw [πn, πv] at he; simp at he
      · rw [πn, πr q (by omega)] at he; simp at he
    · have hq : q < M.length + 1 := by rw [← hMlen]; exact (List.getElem?_eq_some_iff.1 g1).1
      have hq' : q' < M.length + 1 := by rw [← hMlen]; exact (List.getElem?_eq_some_iff.1 k1).1
      by_cases e : q = M.length <;> by_cases e' : q' = M.length
      · rw [e, e']
      · rw [e, πv, πr q' (by omega)] at he; simp at he
      · rw [e', πv, πr q (by omega)] at he; simp at he
      · rw [πr q (by omega), πr q' (by omega)] at he
        simp at he; rw [he]
  · dsimp only
    rw [hlen']
    rcases cases3 i b hi with ⟨g1, g2, g3⟩ | ⟨rfl, rfl⟩ | ⟨q, row, rfl, g1, rfl⟩
    · have hok := hR0.st.okB g3
      have hren : b.ren π = b := Blk.ren_ok (m := σv.length) (fun i hi => π0 i (by omega)) b hok
      refine ⟨Blk.ok_mono (Nat.le_succ _) b hok, ?_⟩
      rw [π0 i (by omega), hren, xo i g1 (fun e => g2 (by rw [e]))]
      exact g3
    · refine ⟨hdr_ok (by omega) _, ?_⟩
      rw [πn, xn]
      congr 2
      simp only [Blk.ren]
      congr 1
      apply List.ext_getElem?
      intro q
      rw [List.getElem?_map]
      simp only [hdr, List.getElem?_mapIdx, Option.map_map, List.getElem?_append, List.length_mapIdx]
      by_cases hq : q < M.length
      · rw [if_pos hq, if_pos hq]
        cases hM : M[q]? with
        | none => rfl
        | some row => simp [C.renL, C.ren, πr q hq]
      · rw [if_neg hq, if_neg hq]
        by_cases hq2 : q = M.length
        · subst hq2; simp [C.renL, C.ren, πv]
        · have : q - M.length ≠ 0 := by omega
          cases hz : q - M.length with
          | zero => omega
          | succ x => simp
    · have hq : q < M.length + 1 := by rw [← hMlen]; exact (List.getElem?_eq_some_iff.1 g1).1
      refine ⟨vec_ok, ?_⟩
      rw [Blk.im_ren]
      by_cases e : q = M.length
      · subst e
        rw [πv, xv]
        rw [List.getElem?_append_right (Nat.le_refl _), Nat.sub_self] at g1
        cases g1; rfl
      · rw [πr q (by omega), xo (r, [q]) hrl (by simp)]
        rw [List.getElem?_append_left (by omega)] at g1
        rw [ent_at hσ, mat_row, g1]
  · dsimp only at ht ⊢
    rw [hlen']
    have old : ∀ v, lookup t env = some v → v.ok (σv.length + 1) = true ∧ lookup t env = some (v.ren π) := fun v hv => by
      obtain ⟨u, _, hr⟩ := hR0.env t v hv
      have hok := hr.ok
      exact ⟨T.ok_mono (Nat.le_succ _) v hok, by rw [T.ren_ok (m := σv.length) (fun i hi => π0 i (by omega)) v hok]; exact hv⟩
    cases hdst : dst with
    | none => rw [hdst] at ht; exact old v ht
    | some d =>
      rw [hdst] at ht
      simp only [putE, lookup] at ht ⊢
      split at ht
      · cases ht
        refine ⟨by simp [T.ok, C.ok], ?_⟩
        simp [T.ren, C.ren, πn]
      · exact old v ht
end
end Ab
end
section
namespace Ab
open Go
section
variable {P : Program} {σ0 : Store} {sz : Nat} {Q : Post} {env env' : Env} {σv σ' : Store}
theorem Sub.virtBM {α : Type} (k : Nat) (f : α → List I) {b : Id} {n kb o : Nat} {cs cs' : List C} {σ1 σ3 σ4 : Store} (hb : σv[b]? = some (some (.cells kb [cs]))) (hc : cs[o]? = some (.imm (.val (.slice none 0 0)))) (hn : newF σv = some (n, [])) (h1 : snocF σv (mat (n, []) k f []) = some σ1)
    (hs : setF cs o (.own (n, []) 0 ([] : List (List α)).length) = some cs') (hσ' : putF σ1 b (some (.cells kb [cs'])) = some σ') (h3 : snocF σv (.one (vec 1 (fun _ : α => ([] : List I)) ([] : List α))) = some σ3) (h4 : putF σ3 b (some (.cells kb [cs'])) = some σ4) : Sub σ0 ⟨env, σv⟩ ⟨env, σ'⟩ := by
  have g1 := newF_eq hn; have g2 := snocF_eq h1; have g4 := putF_get hσ'
  cases g1
  subst g2 g4
  have e3 := snocF_eq h3; have e4 := putF_get h4
  subst e3 e4
  have hbl := Store.lt_of hb
  have hb3 : (σv ++ [.one (vec 1 (fun _ : α => ([] : List I)) ([] : List α))])[b]? = some (some (.cells kb [cs])) := by rw [Store.get_left hbl]; exact hb
  refine (Sub.virtB (α := α) 1 (fun _ => []) hb hc hn h3 hs h4).trans (Sub.same (by simp) fun i => ?_)
  have hbm : (σv ++ [mat (σv.length, []) k f ([] : List (List α))])[b]? = some (some (.cells kb [cs])) := by rw [Store.get_left hbl]; exact hb
  by_cases hi : i = b
  · subst hi
    rw [Store.get_put_eq hb3, Store.get_put_eq hbm]
  · rw [Store.get_put_ne hi, Store.get_put_ne hi]
    rcases Nat.lt_or_ge i.1 σv.length with hl | hl
    · rw [Store.get_left hl, Store.get_left hl]
    · rw [Store.get_right hl, Store.get_right hl]
      obtain ⟨i1, q⟩ := i
      rw [Store.at_eq, Store.at_eq]
      simp only [Store.at]
      cases i1 - σv.length with
      | zero => cases q <;> rfl
      | succ m => rfl
theorem AWP.virtBM {α : Type} {c : Code} (k : Nat) (f : α → List I) {b : Id} {n kb o : Nat} {cs cs' : List C} {σ1 σ3 σ4 : Store} (hb : σv[b]? = some (some (.cells kb [cs]))) (hc : cs[o]? = some (.imm (.val (.slice none 0 0)))) (hn : newF σv = some (n, [])) (h1 : snocF σv (mat (n, []) k f []) = some σ1)
    (hs : setF cs o (.own (n, []) 0 ([] : List (List α)).length) = some cs') (hσ' : putF σ1 b (some (.cells kb [cs'])) = some σ') (h3 : snocF σv (.one (vec 1 (fun _ : α => ([] : List I)) ([] : List α))) = some σ3) (h4 : putF σ3 b (some (.cells kb [cs'])) = some σ4) (h : AWP P σ0 sz c Q ⟨env, σ'⟩) : AWP P σ0 sz c Q ⟨env, σv⟩ := AWP.sub (Sub.virtBM k f hb hc hn h1 hs hσ' h3 h4) h
end
end Ab
end
section
namespace Ab
open Go Go.Proofs Go.Sort Go.Lib
theorem rev_fn {P : Program} {f : FuncId} (hf : fnFacts P f)
    (hC : ∀ (blk off cap : Nat) (zs : List Int) (w : World), Holds (Value.int .i64) w blk off zs.toArray → zs.length ≤ 9223372036854775807 → Calls P f #[.slice (some ⟨blk, off, none⟩) zs.length cap] w fun e w' => e = .returned (.tuple #[]) ∧ ∃ n, w' = putRow (Value.int .i64) (Go.Sort.ahead w n) blk off zs.reverse.toArray)
    (hC0 : ∀ (p : Option Addr) (cap : Nat) (w : World), Calls P f #[.slice p 0 cap] w fun e w' => e = .returned (.tuple #[]) ∧ w' = w)
    {σ : Store} {id : Id} {l : List Int} (hσ : σ[id]? = some (some (vec 1 intI l))) :
    FnOk P f [.c (.own id 0 l.length)] σ fun r σ' => r = .tup [] ∧ σ'.length = σ.length ∧ ∀ i : Id, σ'[i]? = (σ.put id (some (vec 1 intI l.reverse)))[i]? := by
  refine ⟨hf, fun Γ vs hΓ hG hlen hrel => ?_⟩
  subst hΓ
  match vs, hlen with
  | [u], _ =>
  have hu := own_inv (hrel 0 _ u rfl rfl) hσ
  have tupR : ∀ {w φ σ A}, RelT w φ σ A (.tup []) (.tuple #[]) := fun {w φ σ A} => RelT.tup (ts := []) (fun _ => undef) fun i t h => by simp at h
  rw [vec_len] at hu
  have empty : ∀ (p : Option Addr) (cap : Nat), l = [] → Calls P f #[.slice p 0 cap] Γ.w0 fun e w' => ∃ v r σ' φ', e = .returned v ∧ (r = .tup [] ∧ σ'.length = Γ.σ0.length ∧ ∀ i : Id, σ'[i]? = (Γ.σ0.put id (some (vec 1 intI l.reverse)))[i]?) ∧ RelT w' φ' σ' (Al Γ.N φ' σ') r v ∧ Rs Γ σ' φ' w' := fun p cap he => by
    refine (hC0 p cap Γ.w0).mono ?_
    rintro e w' ⟨rfl, rfl⟩
    refine ⟨_, .tup [], Γ.σ0, Γ.φ0, rfl, ⟨rfl, rfl, fun i => ?_⟩, tupR, Rs.refl hG⟩
    have : l.reverse = l := by rw [he]; rfl
    rw [this]
    by_cases hi : i = id
    · rw [hi, Store.get_put_eq hσ, hσ]
    · rw [Store.get_put_ne hi]
  rcases hu with ⟨_, hv, _, h0⟩ | ⟨b, base, cap, arr, ety, a, hp, hv, ha, hcap, hmax, hjn, hbk, hsz⟩
  · have he : l = [] := List.eq_nil_of_length_eq_zero (by omega)
    rw [hv]
    exact empty none 0 he
  · rw [hv]
    by_cases hc0 : 0 < cap
    · have := ha hc0
      subst this
      simp only [Nat.zero_mul, Nat.add_zero]
      have hR := Rs.refl hG
      rcases hR.st.blk _ _ hσ with ⟨h1, _⟩ | ⟨b', base', arr2, ety2, h1, h2, h3, h4, h5⟩
      · rw [hp] at h1; cases h1
      · rw [hp] at h1; cases h1
        rw [hbk] at h2; cases h2
        rw [vec_len] at h3
        have hcell : ∀ (j : Nat) (x : Int), l[j]? = some x → arr[base + j]? = some (.int .i64 x) := fun j x hj => int_cells h5 hj
        have hls : l.reverse.length = l.length := by simp
        refine (hC b base cap l Γ.w0 (holds_of hbk hcell) (by simp only [maxLen] at hmax; omega)).mono ?_
        rintro e w' ⟨rfl, n, rfl⟩
        have hW := Rs.write (k := 1) (es' := (l.reverse.map intI).map (·.map C.imm)) (arr' := putCells (Value.int .i64) base l.reverse.toArray arr) hR hσ hp hbk (by rw [vec_len, vec_len, hls]) putCells_size (fun j e he => vec_hk he) (by rw [vec_len]; omega)
          (vec_hc fun j x hj => putCells_get (by omega) hj)
        rw [putRow_ahead, putRow_setRow hbk]
        refine ⟨_, .tup [], _, Γ.φ0, rfl, ⟨rfl, ?_, fun i => rfl⟩, tupR, hW.2.ahead n⟩
        rw [Store.length_put]
    · have he : l = [] := List.eq_nil_of_length_eq_zero (by omega)
      have hl0 : l.length = 0 := by rw [he]; rfl
      rw [hl0]
      exact empty (some a) cap he
def RevOk (P : Program) (f : FuncId) : Prop := ∀ {σ : Store} {id : Id} {l : List Int}, σ[id]? = some (some (vec 1 intI l)) →
    FnOk P f [.c (.own id 0 l.length)] σ fun r σ' => r = .tup [] ∧ σ'.length = σ.length ∧ ∀ i : Id, σ'[i]? = (σ.put id (some (vec 1 intI l.reverse)))[i]?
section
variable {P : Program} {σ0 : Store} {sz : Nat} {Q : Post} {env : Env} {σv σ' : Store} {ops : Array Oper} {rest : List Oper} {dst : Option Nat} {ty : TypeId} {pos : String} {after : Array Edge}
theorem S.rev {x : Operand} {al : List Operand} {ats : Array TypeId} {f : FuncId} {id : Id} {n : Nat} {l : List Int} (hf : RevOk P f) (hx : ev env x = some (.c (.fn f []))) (ha : evs env al = some [.c (.own id 0 n)]) (hn : n = l.length) (hσ : σv[id]? = some (some (vec 1 intI l)))
    (hd : dstOk sz dst = true) (hσ' : putF σv id (some (vec 1 intI l.reverse)) = some σ') (h : AOps P σ0 sz ops Q rest (St.mk (putE env dst (.tup [])) σ')) :
    AOps P σ0 sz ops Q (⟨dst, .call ⟨.value x, al.toArray, ats⟩, ty, pos, after, none⟩ :: rest) (St.mk env σv) := by
  have h2 := putF_get hσ'
  subst h2 hn
  refine AOps.callS hx ha hd (hf hσ) ?_
  rintro r σ2 ⟨rfl, hl, he⟩
  refine AOps.sub (s' := ⟨putE env dst (.tup []), σv.put id (some (vec 1 intI l.reverse))⟩) ?_ h
  have := Sub.same (σ0 := σ0) (env := putE env dst (.tup [])) (σ1 := σ2) (σ2 := σv.put id (some (vec 1 intI l.reverse))) (by rw [Store.length_put, hl]) he
  cases dst <;> exact this
end
end Ab
end
section
namespace Ab
open Go
section
variable {P : Program} {σ0 : Store} {sz : Nat} {Q : Post} {env : Env} {σv σ' : Store} {ops : Array Oper} {rest : List Oper} {dst : Option Nat} {ty : TypeId} {pos : String} {after : Array Edge}
theorem AOps.eqlNil {x y : Operand} {t t' e : TypeId} {k : Nat} {es : List (List I)} [ht : TyD P t (.slice e)] (hx : ev env x = some (.c (.imm (.sl k es)))) (hy : ev env y = some (.c (.imm (.val (.slice none 0 0))))) (hd : dstOk sz dst = true)
    (h1 : es = [] → AOps P σ0 sz ops Q rest (St.mk (putE env dst (.c (bool true))) σv)) (h2 : AOps P σ0 sz ops Q rest (St.mk (putE env dst (.c (bool false))) σv)) :
    AOps P σ0 sz ops Q (⟨dst, .binOp .eql t x y t', ty, pos, after, none⟩ :: rest) (St.mk env σv) := fun Γ φ a w hΓ hR ro => by
    have hrel := ev_rel hR hx
    have hyv := ev_val hR hy
    generalize hu : a.eval x = u at hrel
    cases hrel with | c hrel => cases hrel with | imm hrel =>
    cases hrel with
    | slNil =>
      have hg : (eqGuard .eql t x y (.slice none 0 0) (.slice none 0 0)).run P w = .ok () w := rfl
      have hr : (binOp .eql t (.slice none 0 0) (.slice none 0 0)).run P w = .ok (.bool true) w := by
        show (do pure (Value.bool (← Op.equal t (.slice none 0 0) (.slice none 0 0)))).run P w = _
        simp [run_equal_slice_nil w t e none 0 0 ht.h]
      have hrun : (execOp a.eval ⟨dst, .binOp .eql t x y t', ty, pos, after, none⟩).run P w = .ok (.value (.bool true)) w := by
        simp [execOp, hu, hyv, hg, hr]
      exact step_in rfl (val_in hrun (h1 rfl Γ φ _ w hΓ (hR.put hd (.c (.imm (.val rfl)))) ro))
    | @sl _ _ ad cap us _ _ _ _ _ =>
      have hg : (eqGuard .eql t x y (.slice (some ad) es.length cap) (.slice none 0 0)).run P w = .ok () w := rfl
      have hr : (binOp .eql t (.slice (some ad) es.length cap) (.slice none 0 0)).run P w = .ok (.bool false) w := by
        show (do pure (Value.bool (← Op.equal t (.slice (some ad) es.length cap) (.slice none 0 0)))).run P w = _
        simp [run_equal_slice_nil w t e (some ad) es.length cap ht.h]
      have hrun : (execOp a.eval ⟨dst, .binOp .eql t x y t', ty, pos, after, none⟩).run P w = .ok (.value (.bool false)) w := by
        simp [execOp, hu, hyv, hg, hr]
      exact step_in rfl (val_in hrun (h2 Γ φ _ w hΓ (hR.put hd (.c (.imm (.val rfl)))) ro))
end
end Ab
end
section
namespace Ab
open Go Go.Proofs
def slices_Clone_int_int (s : List Int) : Option (List Int) := app 8 [] s
theorem slices_Clone_int_int_ok {s r : List Int} (h : slices_Clone_int_int s = some r) : FreshOk Tryd.prog 44 [.c (row 1 intI s)] 1 (List.map intI r) := by
  unfold slices_Clone_int_int at h
  unfold FreshOk
  refine FnOk.enter (rs := [.t 2]) Tryd.func44 rfl Tryd.ntmps44 Tryd.results44 rfl ⟨trivial, trivial⟩ (by kernel_rfl) rfl ?_
  refine AWP.seq ?_
  refine AWP.region ?_
  refine AOps.assign rfl rfl ?_
  refine AOps.nil ?_
  refine thn_normal ?_
  refine AWP.seq ?_
  refine AWP.seq ?_
  refine AWP.region ?_
  refine AOps.move rfl rfl ?_
  refine AOps.eqlNil rfl rfl rfl (fun he => ?_) ?_
  · have hs : s = [] := by simpa using he
    subst hs
    have hr : r = [] := by
      have := app_get h
      simpa using this.2
    subst hr
    refine AOps.nil ?_
    refine thn_normal ?_
    refine AWP.condT rfl ?_
    refine AWP.seq ?_
    refine AWP.region ?_
    refine AOps.assign rfl rfl ?_
    refine AOps.nil ?_
    refine thn_normal ?_
    refine AWP.virtV 1 intI 2 rfl rfl rfl ?_
    refine AWP.ret ?_
    refine thn_ret ?_
    exact Done.ret rfl (Fresh.mk rfl rfl)
  · refine AOps.nil ?_
    refine thn_normal ?_
    refine AWP.condF rfl ?_
    refine AWP.skip ?_
    refine thn_normal ?_
    refine AWP.seq ?_
    refine AWP.region ?_
    refine S.lit (f := intI) (l := []) (ess := []) rfl rfl rfl rfl rfl rfl rfl trivial rfl rfl rfl ?_
    refine AOps.move rfl rfl ?_
    refine S.append (f := intI) h rfl rfl rfl rfl rfl rfl .row rfl rfl rfl rfl ?_
    refine AOps.assign rfl rfl ?_
    refine AOps.nil ?_
    refine thn_normal ?_
    refine AWP.ret ?_
    exact Done.ret rfl (Fresh.mk rfl rfl)
end Ab
end
section
namespace Ab
open Go Go.Proofs
set_option linter.all false
abbrev eLi64 (l : List Int) : List I := [.sl 1 (l.map intI)]
structure TFault where
  code : Int
  index : Int
structure TOperator where
  pre : List Int
  add : List Int
  del : List Int
  cost : Int
abbrev eTOperator (v : TOperator) : List I := [.sl 1 (List.map intI v.pre), .sl 1 (List.map intI v.add), .sl 1 (List.map intI v.del), .val (.int .i64 v.cost)]
structure TTask where
  facts : Int
  init : List Int
  goal : List Int
  operators : List TOperator
abbrev eTTask (v : TTask) : List I := [.val (.int .i64 v.facts), .sl 1 (List.map intI v.init), .sl 1 (List.map intI v.goal), .sl 4 (List.map eTOperator v.operators)]
structure Tx_int64_y_int_signed_bool_code_abi_BoundsErrorCode where
  fx : Int
  fy : Int
  signed : Bool
  code : Int
structure Truntime_boundsError where
  fx : Int
  fy : Int
  signed : Bool
  code : Int
structure TCode_int_Index_int where
  code : Int
  index : Int
structure TFacts_int_Init_int_Goal_int_Operators_api_Operator where
  facts : Int
  init : List Int
  goal : List Int
  operators : List TOperator
structure Trepair_node where
  fs : List Int
  fat : Int
  ffrom : Int
  op : Int
  change : Int
abbrev eTrepair_node (v : Trepair_node) : List I := [.sl 1 (List.map intI v.fs), .val (.int .i64 v.fat), .val (.int .i64 v.ffrom), .val (.int .i64 v.op), .val (.int .i64 v.change)]
structure Ts_int_at_int_from_int_op_int_change_int where
  fs : List Int
  fat : Int
  ffrom : Int
  op : Int
  change : Int
structure TPre_int_Add_int_Del_int_Cost_int where
  pre : List Int
  add : List Int
  del : List Int
  cost : Int
structure Tnode_int_from_int_step_int where
  node : List (List Int)
  ffrom : Int
  step : Int
structure Tbelief_entry_int where
  node : List (List Int)
  ffrom : Int
  step : Int
abbrev eTbelief_entry_int (v : Tbelief_entry_int) : List I := [.sl 1 (List.map eLi64 v.node), .val (.int .i64 v.ffrom), .val (.int .i64 v.step)]
def repair_Distance_l1 : Int → (List Int) → Option (List Int) := fun t5 c4 => Option.bind (ix c4 t5) fun a35 => some (c4.set t5.toNat t5)
def repair_Distance_l3 (bv : List Int) (a41 : Int) : Int → ((List Int) × Int) → Option ((List Int) × Int) := fun t10 (c8, diagonal9) => Option.bind (ix bv t10) fun a56 => Option.bind (ix c8 t10) fun a60 => Option.bind (ix c8 (t10 + 1)) fun a65 => Option.bind (if a41 = a56 then some (min (w64 ((min a60 a65) + 1)) diagonal9) else some (w64 ((min a60 a65) + 1))) fun nv11 => Option.bind (ix c8 (t10 + 1)) fun a81 => Option.bind (ix c8 (t10 + 1)) fun a84 => some (c8.set ((t10 + 1).toNat) nv11, a81)
def repair_Distance_l2 (av : List Int) (bv : List Int) : Int → (List Int) → Option (List Int) := fun t7 c6 => Option.bind (ix av t7) fun a41 => Option.bind (ix c6 0) fun a44 => Option.bind (ix c6 0) fun a47 => Option.bind (ix c6 0) fun a50 => (Option.bind (forR 0 (bv.length : Int) (repair_Distance_l3 bv a41) (c6.set ((0 : Int).toNat) (w64 (a47 + 1)), a44)) fun ⟨c8, diagonal9⟩ => some c8)
def repair_Distance (av : List Int) (bv : List Int) : Option (Int × TFault) := if ((decide (60 < (av.length : Int))) || (decide (60 < (bv.length : Int)))) = true then some (0, (⟨2, -5⟩ : TFault)) else Option.bind (mkL 8 (w64 ((bv.length : Int) + 1)) 0) fun a26 => (Option.bind (forR 0 (a26.length : Int) repair_Distance_l1 a26) fun c4 => (Option.bind (forR 0 (av.length : Int) (repair_Distance_l2 av bv) c4) fun c6 => Option.bind (ix c6 (bv.length : Int)) fun a90 => some (a90, (⟨0, 0⟩ : TFault))))
def ref1_At (code : Int) (index : Int) : Option TFault := some (⟨code, index⟩ : TFault)
def law8_step : Option TTask := some (⟨2, [0], [1], [(⟨[0], [1], [0], 1⟩ : TOperator), (⟨[], [1], [], 3⟩ : TOperator)]⟩ : TTask)
def strips_IsSet_l1 (l : List Int) (nv : Int) : Int → Unit → Option (Unit ⊕ Bool) := fun t3 _ => Option.bind (ix l t3) fun a12 => Option.bind (if a12 < 0 then some true else if nv ≤ a12 then some true else if 0 < t3 then Option.bind (ix l (t3 - 1)) fun a29 => some (decide (a12 ≤ a29)) else some false) fun t4 => if t4 = true then some (.inr false) else some (.inl ())
def strips_IsSet (l : List Int) (nv : Int) : Option Bool := (Option.bind (rngX 0 (l.length : Int) (strips_IsSet_l1 l nv) ()) fun | .inl _ => some true | .inr x => some x)
def cmp_isNaN_int (xv : Int) : Option Bool := some (!(decide (xv = xv)))
def cmp_Less_int (xv : Int) (yv : Int) : Option Bool := Option.bind (Option.bind (cmp_isNaN_int xv) fun a6 => if a6 = true then Option.bind (cmp_isNaN_int yv) fun a9 => if (!a9) = true then some true else some (decide (xv < yv)) else some (decide (xv < yv))) fun t3 => some t3
def slices_isNaN_int (xv : Int) : Option Bool := some (!(decide (xv = xv)))
def slices_BinarySearch_int_int_l1 (xv : List Int) (target : Int) : (Int × Int) → Option ((Int × Int) ⊕ Int) := fun (iv3, j4) => if iv3 < j4 then Option.bind (ix xv (w64 (shrW .u64 ((IntKind.u64).wrap (w64 (iv3 + j4))) 1))) fun a24 => Option.bind (cmp_Less_int a24 target) fun a27 => if a27 = true then some (.inl (w64 ((w64 (shrW .u64 ((IntKind.u64).wrap (w64 (iv3 + j4))) 1)) + 1), j4)) else some (.inl (iv3, w64 (shrW .u64 ((IntKind.u64).wrap (w64 (iv3 + j4))) 1))) else some (.inr iv3)
noncomputable def slices_BinarySearch_int_int (xv : List Int) (target : Int) : Option (Int × Bool) := Option.bind (Loop (slices_BinarySearch_int_int_l1 xv target) (0, (xv.length : Int))) fun iv5 => Option.bind (if iv5 < (xv.length : Int) then Option.bind (ix xv iv5) fun a38 => if a38 = target then some true else Option.bind (ix xv iv5) fun a45 => Option.bind (slices_isNaN_int a45) fun a47 => if a47 = true then Option.bind (slices_isNaN_int target) fun a50 => some a50 else some false else some false) fun t8 => some (iv5, t8)
noncomputable def strips_Meets_1 (xv : Int) (c2 : List Int) : Option Bool := Option.bind (slices_BinarySearch_int_int c2 xv) fun a9 => some a9.2
def slices_IndexFunc_int_int_l1 (sv : List Int) (fv : Int → Option Bool) : Int → Unit → Option (Unit ⊕ Int) := fun t3 _ => Option.bind (ix sv t3) fun a14 => Option.bind (fv a14) fun a16 => if a16 = true then some (.inr t3) else some (.inl ())
def slices_IndexFunc_int_int (sv : List Int) (fv : Int → Option Bool) : Option Int := (Option.bind (rngX 0 (sv.length : Int) (slices_IndexFunc_int_int_l1 sv fv) ()) fun | .inl _ => some (-1) | .inr x => some x)
def slices_ContainsFunc_int_int (sv : List Int) (fv : Int → Option Bool) : Option Bool := Option.bind (slices_IndexFunc_int_int sv fv) fun a7 => some (decide (0 ≤ a7))
noncomputable def strips_Meets (av : List Int) (bv : List Int) : Option Bool := Option.bind (slices_ContainsFunc_int_int av (fun y1 => strips_Meets_1 y1 bv)) fun a7 => some a7
noncomputable def strips_operator (ov : TOperator) (facts : Int) : Option Int := Option.bind (Option.bind (strips_IsSet ov.pre facts) fun a9 => if (!a9) = true then some true else Option.bind (strips_IsSet ov.add facts) fun a15 => if (!a15) = true then some true else Option.bind (strips_IsSet ov.del facts) fun a22 => if (!a22) = true then some true else Option.bind (strips_Meets ov.add ov.del) fun a30 => some a30) fun t3 => if t3 = true then some 5 else if ((decide (ov.cost < 0)) || (decide (100 < ov.cost))) = true then some 3 else some 0
noncomputable def strips_Validate_l1 (t : TTask) : Int → Unit → Option (Unit ⊕ TFault) := fun t6 _ => Option.bind (ix t.operators t6) fun a44 => Option.bind (strips_operator a44 t.facts) fun a49 => if a49 = 0 then some (.inl ()) else some (.inr (⟨a49, t6⟩ : TFault))
noncomputable def strips_Validate (t : TTask) : Option TFault := if ((decide (t.facts < 0)) || (decide (24 < t.facts))) = true then some (⟨3, -1⟩ : TFault) else Option.bind (strips_IsSet t.init t.facts) fun a21 => if (!a21) = true then some (⟨5, -2⟩ : TFault) else Option.bind (strips_IsSet t.goal t.facts) fun a29 => if (!a29) = true then some (⟨5, -3⟩ : TFault) else if 40 < (t.operators.length : Int) then some (⟨2, -1⟩ : TFault) else (Option.bind (rngX 0 (t.operators.length : Int) (strips_Validate_l1 t) ()) fun | .inl _ => some (⟨0, 0⟩ : TFault) | .inr x => some x)
def strips_Steps_l1 (operators : Int) (plan : List Int) : Int → Unit → Option (Unit ⊕ TFault) := fun t4 _ => Option.bind (ix plan t4) fun a15 => if ((decide (a15 < 0)) || (decide (operators ≤ a15))) = true then some (.inr (⟨3, -6⟩ : TFault)) else some (.inl ())
def strips_Steps (operators : Int) (plan : List Int) : Option TFault := if 60 < (plan.length : Int) then some (⟨2, -5⟩ : TFault) else (Option.bind (rngX 0 (plan.length : Int) (strips_Steps_l1 operators plan) ()) fun | .inl _ => some (⟨0, 0⟩ : TFault) | .inr x => some x)
noncomputable def strips_PlanFault (t : TTask) (plan : List Int) : Option TFault := Option.bind (strips_Validate t) fun a7 => if (!((decide (a7.code = 0)) && (decide (a7.index = 0)))) = true then some a7 else Option.bind (strips_Steps (t.operators.length : Int) plan) fun a16 => some a16
def strips_Contains_l2 (sv : List Int) (a12 : Int) : Int → Option (Int ⊕ Int) := fun iv5 => Option.bind (if iv5 < (sv.length : Int) then Option.bind (ix sv iv5) fun a21 => some (decide (a21 < a12)) else some false) fun t7 => if t7 = true then some (.inl (w64 (iv5 + 1))) else some (.inr iv5)
noncomputable def strips_Contains_l1 (sv : List Int) (part : List Int) : Int → Int → Option (Int ⊕ Bool) := fun t4 iv3 => Option.bind (ix part t4) fun a12 => Option.bind (Loop (strips_Contains_l2 sv a12) iv3) fun iv6 => Option.bind (if iv6 = (sv.length : Int) then some true else Option.bind (ix sv iv6) fun a35 => some (!(decide (a35 = a12)))) fun t11 => if t11 = true then some (.inr false) else some (.inl iv6)
noncomputable def strips_Contains (sv : List Int) (part : List Int) : Option Bool := (Option.bind (rngX 0 (part.length : Int) (strips_Contains_l1 sv part) 0) fun | .inl iv3 => some true | .inr x => some x)
noncomputable def belief_Sure_1 (sv : List Int) (c2 : List Int) : Option Bool := Option.bind (strips_Contains sv c2) fun a6 => some (!a6)
def slices_IndexFunc_LLint_l1 (sv : List (List Int)) (fv : (List Int) → Option Bool) : Int → Unit → Option (Unit ⊕ Int) := fun t3 _ => Option.bind (ix sv t3) fun a14 => Option.bind (fv a14) fun a16 => if a16 = true then some (.inr t3) else some (.inl ())
def slices_IndexFunc_LLint (sv : List (List Int)) (fv : (List Int) → Option Bool) : Option Int := (Option.bind (rngX 0 (sv.length : Int) (slices_IndexFunc_LLint_l1 sv fv) ()) fun | .inl _ => some (-1) | .inr x => some x)
def slices_ContainsFunc_LLint (sv : List (List Int)) (fv : (List Int) → Option Bool) : Option Bool := Option.bind (slices_IndexFunc_LLint sv fv) fun a7 => some (decide (0 ≤ a7))
noncomputable def belief_Sure (worlds : List (List Int)) (facts : List Int) : Option Bool := Option.bind (slices_ContainsFunc_LLint worlds (fun y1 => belief_Sure_1 y1 facts)) fun a7 => some (!a7)
noncomputable def strips_Update_l1 (sv : List Int) (del : List Int) : Int → (List Int) → Option (List Int) := fun t5 c4 => Option.bind (Option.bind (ix sv t5) fun a16 => Option.bind (slices_BinarySearch_int_int del a16) fun a21 => if (!a21.2) = true then Option.bind (app 8 c4 [a16]) fun a29 => some a29 else some c4) fun c6 => some c6
noncomputable def strips_Update (sv : List Int) (add : List Int) (del : List Int) : Option (List Int) := (Option.bind (forR 0 (sv.length : Int) (strips_Update_l1 sv del) []) fun c4 => Option.bind (app 8 c4 add) fun a33 => Option.bind (sortL a33) fun a35 => some (compactL a35))
noncomputable def strips_Next (t : TTask) (sv : List Int) (op : Int) : Option (List Int) := Option.bind (ix t.operators op) fun a11 => Option.bind (strips_Update sv a11.add a11.del) fun a18 => some a18
def cmp_Compare_int (xv : Int) (yv : Int) : Option Int := Option.bind (cmp_isNaN_int xv) fun a8 => Option.bind (cmp_isNaN_int yv) fun a10 => if a8 = true then if a10 = true then some 0 else some (-1) else if a10 = true then some 1 else if xv < yv then some (-1) else if yv < xv then some 1 else some 0
def slices_Compare_int_int_l1 (s11 : List Int) (s22 : List Int) : Int → Unit → Option (Unit ⊕ Int) := fun t3 _ => Option.bind (ix s11 t3) fun a14 => if (s22.length : Int) ≤ t3 then some (.inr 1) else Option.bind (ix s22 t3) fun a22 => Option.bind (cmp_Compare_int a14 a22) fun a26 => if a26 = 0 then some (.inl ()) else some (.inr a26)
def slices_Compare_int_int (s11 : List Int) (s22 : List Int) : Option Int := (Option.bind (rngX 0 (s11.length : Int) (slices_Compare_int_int_l1 s11 s22) ()) fun | .inl _ => if (s11.length : Int) < (s22.length : Int) then some (-1) else some 0 | .inr x => some x)
def slices_Equal_int_int_l1 (s11 : List Int) (s22 : List Int) : Int → Unit → Option (Unit ⊕ Bool) := fun t4 _ => Option.bind (ix s11 t4) fun a18 => Option.bind (ix s22 t4) fun a22 => if a18 = a22 then some (.inl ()) else some (.inr false)
def slices_Equal_int_int (s11 : List Int) (s22 : List Int) : Option Bool := if (s11.length : Int) = (s22.length : Int) then (Option.bind (rngX 0 (s11.length : Int) (slices_Equal_int_int_l1 s11 s22) ()) fun | .inl _ => some true | .inr x => some x) else some false
abbrev slices_CompactFunc_int_int_w_s0 (l : List (List Int)) : Store := [.one (vec 1 eLi64 l)]
def slices_CompactFunc_int_int_w_l2 (l : List (List Int)) (kv54 : Int) : Int → ((List (List Int)) × Int) → Option ((List (List Int)) × Int) := fun k258 (c56, kv57) => Option.bind (Option.bind (ixV c56 (0 + kv54) ((l.length : Int) - kv54) k258) fun a41 => Option.bind (ixV c56 (0 + kv54) ((l.length : Int) - kv54) (k258 - 1)) fun a46 => Option.bind (slices_Equal_int_int a41 a46) fun a48 => if (!a48) = true then Option.bind (ixV c56 (0 + kv54) ((l.length : Int) - kv54) k258) fun a54 => Option.bind (ix c56 kv57) fun a56 => some (c56.set kv57.toNat a54, w64 (kv57 + 1)) else some (c56, kv57)) fun ⟨c59, kv60⟩ => some (c59, kv60)
def slices_CompactFunc_int_int_w_l1 (l : List (List Int)) : Int → Unit → Option (Unit ⊕ (List (List Int))) := fun kv54 _ => Option.bind (ix l kv54) fun a21 => Option.bind (ix l (kv54 - 1)) fun a26 => Option.bind (slices_Equal_int_int a21 a26) fun a28 => if a28 = true then Option.bind (cutV (l.length : Int) kv54 (l.length : Int)) fun u31 => (Option.bind (forR 1 ((l.length : Int) - kv54) (slices_CompactFunc_int_int_w_l2 l kv54) (l, kv54)) fun ⟨c56, kv57⟩ => Option.bind (cutV (c56.length : Int) kv57 (c56.length : Int)) fun u61 => Option.bind (cutV ((clrL c56 (0 + kv57) ((c56.length : Int) - kv57) []).length : Int) 0 kv57) fun u64 => some (.inr (viewL (clrL c56 (0 + kv57) ((c56.length : Int) - kv57) []) 0 kv57))) else some (.inl ())
def slices_CompactFunc_int_int_w (l : List (List Int)) : Option (List (List Int)) := if (l.length : Int) < 2 then some l else (Option.bind (rngX 1 (l.length : Int) (slices_CompactFunc_int_int_w_l1 l) ()) fun | .inl _ => some l | .inr x => some x)
abbrev belief_Normal_w_s0 (l : List (List Int)) : Store := [.one (vec 1 eLi64 l)]
noncomputable def belief_Normal_w (l : List (List Int)) : Option (List (List Int)) := Option.bind (sortFL slices_Compare_int_int l) fun a4 => Option.bind (slices_CompactFunc_int_int_w a4) fun a6 => some a6
noncomputable def belief_After_l1 (t : TTask) (worlds : List (List Int)) (op : Int) : Int → (List (List Int)) → Option (List (List Int)) := fun t5 c4 => Option.bind (ix worlds t5) fun a14 => Option.bind (strips_Next t a14 op) fun a20 => Option.bind (app 24 c4 [a20]) fun a22 => some a22
noncomputable def belief_After (t : TTask) (worlds : List (List Int)) (op : Int) : Option (List (List Int)) := (Option.bind (forR 0 (worlds.length : Int) (belief_After_l1 t worlds op) []) fun c4 => Option.bind (belief_Normal_w c4) fun a25 => some a25)
abbrev belief_Successors_w_s0 (t : TTask) (worlds : List (List Int)) : Store := []
def belief_Successors_w (t : TTask) (worlds : List (List Int)) : Option Unit := some ()
def belief_Small_int_1 (v : List (List Int)) : Option Bool := some false
def internal_strconv_small (iv : Int) : Option ByteArray := if iv < 10 then Option.bind (subS (⟨#[48, 49, 50, 51, 52, 53, 54, 55, 56, 57, 97, 98, 99, 100, 101, 102, 103, 104, 105, 106, 107, 108, 109, 110, 111, 112, 113, 114, 115, 116, 117, 118, 119, 120, 121, 122]⟩ : ByteArray) iv (w64 (iv + 1))) fun a8 => some a8 else Option.bind (subS (⟨#[48, 48, 48, 49, 48, 50, 48, 51, 48, 52, 48, 53, 48, 54, 48, 55, 48, 56, 48, 57, 49, 48, 49, 49, 49, 50, 49, 51, 49, 52, 49, 53, 49, 54, 49, 55, 49, 56, 49, 57, 50, 48, 50, 49, 50, 50, 50, 51, 50, 52, 50, 53, 50, 54, 50, 55, 50, 56, 50, 57, 51, 48, 51, 49, 51, 50, 51, 51, 51, 52, 51, 53, 51, 54, 51, 55, 51, 56, 51, 57, 52, 48, 52, 49, 52, 50, 52, 51, 52, 52, 52, 53, 52, 54, 52, 55, 52, 56, 52, 57, 53, 48, 53, 49, 53, 50, 53, 51, 53, 52, 53, 53, 53, 54, 53, 55, 53, 56, 53, 57, 54, 48, 54, 49, 54, 50, 54, 51, 54, 52, 54, 53, 54, 54, 54, 55, 54, 56, 54, 57, 55, 48, 55, 49, 55, 50, 55, 51, 55, 52, 55, 53, 55, 54, 55, 55, 55, 56, 55, 57, 56, 48, 56, 49, 56, 50, 56, 51, 56, 52, 56, 53, 56, 54, 56, 55, 56, 56, 56, 57, 57, 48, 57, 49, 57, 50, 57, 51, 57, 52, 57, 53, 57, 54, 57, 55, 57, 56, 57, 57]⟩ : ByteArray) (w64 (iv * 2)) (w64 ((w64 (iv * 2)) + 2))) fun a14 => some a14
abbrev internal_strconv_AppendUint_w1_s0 (iv : Int) (base : Int) (l : List Int) : Store := [.one (vec 1 eU8 l)]
def internal_strconv_AppendUint_w1 (iv : Int) (base : Int) (l : List Int) : Option (List Int) := if base = 10 then if iv < 100 then Option.bind (internal_strconv_small (w64 iv)) fun a16 => Option.bind (app 1 l (strL a16)) fun a17 => some a17 else none else none
abbrev internal_strconv_AppendInt_w1_s0 (iv : Int) (base : Int) (l : List Int) : Store := [.one (vec 1 eU8 l)]
def internal_strconv_AppendInt_w1 (iv : Int) (base : Int) (l : List Int) : Option (List Int) := Option.bind (if iv < 0 then none else some ()) fun _ => Option.bind (internal_strconv_AppendUint_w1 ((IntKind.u64).wrap iv) base l) fun a20 => some a20
abbrev strconv_AppendInt_w1_s0 (iv : Int) (base : Int) (l : List Int) : Store := [.one (vec 1 eU8 l)]
def strconv_AppendInt_w1 (iv : Int) (base : Int) (l : List Int) : Option (List Int) := Option.bind (internal_strconv_AppendInt_w1 iv base l) fun a10 => some a10
def belief_Key_l2 (a12 : List Int) : Int → (List Int) → Option (List Int) := fun t5 c4 => Option.bind (ix a12 t5) fun a18 => Option.bind (strconv_AppendInt_w1 a18 10 c4) fun a22 => Option.bind (app 1 a22 [44]) fun a24 => some a24
def belief_Key_l1 (l : List (List Int)) : Int → (List Int) → Option (List Int) := fun t3 c2 => Option.bind (ix l t3) fun a12 => (Option.bind (forR 0 (a12.length : Int) (belief_Key_l2 a12) c2) fun c4 => Option.bind (app 1 c4 [59]) fun a28 => some a28)
def belief_Key (l : List (List Int)) : Option ByteArray := (Option.bind (forR 0 (l.length : Int) (belief_Key_l1 l) []) fun c2 => some (strB c2))
noncomputable def strips_Can (t : TTask) (sv : List Int) (op : Int) : Option Bool := Option.bind (ix t.operators op) fun a11 => Option.bind (strips_Contains sv a11.pre) fun a14 => some a14
abbrev belief_Next_w_s0 (t : TTask) : Store := []
def belief_Next_w (t : TTask) : Option Unit := some ()
abbrev belief_Next_1_w_s0 (worlds : List (List Int)) (Facts : Int) (Init : List Int) (Goal : List Int) (Operators : List TOperator) : Store := [.one (.cells 4 [[int Facts, row 1 intI Init, row 1 intI Goal, row 4 eTOperator Operators]])]
def belief_Next_1_w (worlds : List (List Int)) (Facts : Int) (Init : List Int) (Goal : List Int) (Operators : List TOperator) : Option Unit := Option.bind (belief_Successors_w (⟨Facts, Init, Goal, Operators⟩ : TTask) worlds) fun a6 => some ()
abbrev belief_Breadth_int_w_s0 (start : List (List Int)) (Facts : Int) (Init : List Int) (Goal : List Int) (Operators : List TOperator) : Store := [.one (.cells 4 [[int Facts, row 1 intI Init, row 1 intI Goal, row 4 eTOperator Operators]])]
def belief_Breadth_int_w_l2 (c59 : List Tbelief_entry_int) : ((List Int) × Int) → Option (((List Int) × Int) ⊕ (List Int)) := fun (c64, iv65) => Option.bind (ix c59 iv65) fun a43 => if 0 ≤ a43.ffrom then Option.bind (ix c59 iv65) fun a55 => Option.bind (app 8 c64 [a55.step]) fun a59 => Option.bind (ix c59 iv65) fun a49 => some (.inl (a59, a49.ffrom)) else some (.inr c64)
noncomputable def belief_Breadth_int_w_l3 (Facts : Int) (Init : List Int) (Goal : List Int) (Operators : List TOperator) (c61 : Int) (a66 : Tbelief_entry_int) : Int → ((List (ByteArray × Int)) × (List Tbelief_entry_int)) → Option (((List (ByteArray × Int)) × (List Tbelief_entry_int)) ⊕ (((List (ByteArray × Int)) × (List Tbelief_entry_int)) ⊕ ((List (ByteArray × Int)) × (List Tbelief_entry_int)))) := fun t75 (c73, c74) => Option.bind (ix Operators t75) fun ai12 => Option.bind (belief_Sure a66.node ai12.pre) fun ai17 => if ai17 = true then Option.bind (belief_After (⟨Facts, Init, Goal, Operators⟩ : TTask) a66.node t75) fun ai24 => Option.bind (belief_Key ai24) fun ab74 => if 0 < Option.getD (mget c73 ab74) 0 then some (.inl (c73, c74)) else if (c74.length : Int) = 2000 then some (.inr (.inr (c73, c74))) else Option.bind (app 40 c74 [(⟨ai24, c61, t75⟩ : Tbelief_entry_int)]) fun ab90 => some (.inl (mset c73 ab74 1, ab90)) else some (.inl (c73, c74))
noncomputable def belief_Breadth_int_w_r4 (Facts : Int) (Init : List Int) (Goal : List Int) (Operators : List TOperator) (c59 : List Tbelief_entry_int) (c60 : List (ByteArray × Int)) (c61 : Int) (a66 : Tbelief_entry_int) : Option (((List (ByteArray × Int)) × (List Tbelief_entry_int)) ⊕ ((List (ByteArray × Int)) × (List Tbelief_entry_int))) := (Option.bind (rngX 0 (Operators.length : Int) (belief_Breadth_int_w_l3 Facts Init Goal Operators c61 a66) (c60, c59)) fun | .inl (c73, c74) => some (.inl (c73, c74)) | .inr x => some x)
noncomputable def belief_Breadth_int_w_l1 (Facts : Int) (Init : List Int) (Goal : List Int) (Operators : List TOperator) : ((List Tbelief_entry_int) × (List (ByteArray × Int)) × Int) → Option (((List Tbelief_entry_int) × (List (ByteArray × Int)) × Int) ⊕ (Unit ⊕ ((List Int) × Bool × Bool))) := fun (c59, c60, c61) => if c61 < (c59.length : Int) then Option.bind (ix c59 c61) fun a36 => Option.bind (belief_Small_int_1 a36.node) fun a39 => if a39 = true then Option.bind (Loop (belief_Breadth_int_w_l2 c59) ([], c61)) fun c66 => some (.inr (.inr (c66.reverse, true, true))) else Option.bind (ix c59 c61) fun a66 => Option.bind (belief_Next_1_w a66.node Facts Init Goal Operators) fun a69 => Option.bind (belief_Breadth_int_w_r4 Facts Init Goal Operators c59 c60 c61 a66) fun | .inl (c69, c70) => some (.inl (c70, c69, w64 (c61 + 1))) | .inr (c71, c72) => some (.inr (.inr ([], false, false))) else some (.inr (.inl ()))
noncomputable def belief_Breadth_int_w (start : List (List Int)) (Facts : Int) (Init : List Int) (Goal : List Int) (Operators : List TOperator) : Option ((List Int) × Bool × Bool) := Option.bind (belief_Key start) fun a25 => Option.bind (Loop (belief_Breadth_int_w_l1 Facts Init Goal Operators) ([(⟨start, -1, 0⟩ : Tbelief_entry_int)], mset ([] : List (ByteArray × Int)) a25 1, 0)) fun | .inl _ => some ([], false, true) | .inr x => some x
abbrev belief_Small_int_w_s0 (l : List (List Int)) (Facts : Int) (Init : List Int) (Goal : List Int) (Operators : List TOperator) : Store := [.one (vec 1 eLi64 l), .one (.cells 4 [[int Facts, row 1 intI Init, row 1 intI Goal, row 4 eTOperator Operators]])]
noncomputable def belief_Small_int_w (l : List (List Int)) (Facts : Int) (Init : List Int) (Goal : List Int) (Operators : List TOperator) : Option Bool := Option.bind (belief_Breadth_int_w l Facts Init Goal Operators) fun a14 => some a14.2.2
abbrev repair_searcher_add_w2_s0 (nv : Trepair_node) (t : TTask) (plan : List Int) (l : List Trepair_node) (l5 : List (List Int)) (l6 : List (ByteArray × Int)) : Store := [.one (.cells 8 [[int t.facts, row 1 intI t.init, row 1 intI t.goal, row 4 eTOperator t.operators, row 1 intI plan, .own 1 0 l.length, .own 2 0 l5.length, .map 3]]), .one (vec 5 eTrepair_node l), mat (2, []) 1 intI l5, .one (mapB Value.string (Value.int .i64) l6)]
def repair_searcher_add_w2_l1 (nv : Trepair_node) : (List (List Int)) → Option ((List (List Int)) ⊕ (List (List Int))) := fun c61 => if (c61.length : Int) ≤ nv.change then Option.bind (app 24 c61 [[]]) fun a61 => some (.inl a61) else some (.inr c61)
noncomputable def repair_searcher_add_w2 (nv : Trepair_node) (t : TTask) (plan : List Int) (l : List Trepair_node) (l5 : List (List Int)) (l6 : List (ByteArray × Int)) : Option ((List (ByteArray × Int)) × (List Trepair_node) × (List (List Int))) := Option.bind (belief_Key ([nv.fs, [nv.fat]])) fun a13 => if ((Option.isSome (mget l6 a13)) && (decide (Option.getD (mget l6 a13) 0 ≤ nv.change))) = true then some (l6, l, l5) else Option.bind (app 56 l [nv]) fun a44 => Option.bind (Loop (repair_searcher_add_w2_l1 nv) l5) fun c62 => Option.bind (ix c62 nv.change) fun a76 => Option.bind (app 8 a76 [w64 ((a44.length : Int) - 1)]) fun a85 => Option.bind (ix c62 nv.change) fun a86 => some (mset l6 a13 nv.change, a44, c62.set nv.change.toNat a85)
abbrev repair_searcher_steps_w_s0 (iv : Int) (t : TTask) (plan : List Int) (l : List Trepair_node) (l5 : List (List Int)) (l6 : List (ByteArray × Int)) : Store := [.one (.cells 8 [[int t.facts, row 1 intI t.init, row 1 intI t.goal, row 4 eTOperator t.operators, row 1 intI plan, .own 1 0 l.length, .own 2 0 l5.length, .map 3]]), .one (vec 5 eTrepair_node l), mat (2, []) 1 intI l5, .one (mapB Value.string (Value.int .i64) l6)]
def repair_searcher_steps_w_l1 (l : List Trepair_node) : ((List Int) × Int) → Option (((List Int) × Int) ⊕ (List Int)) := fun (c58, iv59) => if 0 ≤ iv59 then Option.bind (Option.bind (ix l iv59) fun a22 => if 0 ≤ a22.op then Option.bind (app 8 c58 [a22.op]) fun a30 => some a30 else some c58) fun c62 => Option.bind (ix l iv59) fun a14 => some (.inl (c62, a14.ffrom)) else some (.inr c58)
noncomputable def repair_searcher_steps_w (iv : Int) (t : TTask) (plan : List Int) (l : List Trepair_node) (l5 : List (List Int)) (l6 : List (ByteArray × Int)) : Option (List Int) := Option.bind (Loop (repair_searcher_steps_w_l1 l) ([], iv)) fun c60 => some c60.reverse
abbrev strips_Successors_w_s0 (t : TTask) (sv : List Int) : Store := []
def strips_Successors_w (t : TTask) (sv : List Int) : Option Unit := some ()
abbrev repair_searcher_expand_w_s0 (iv : Int) (t : TTask) (plan : List Int) (l : List Trepair_node) (l5 : List (List Int)) (l6 : List (ByteArray × Int)) : Store := [.one (.cells 8 [[int t.facts, row 1 intI t.init, row 1 intI t.goal, row 4 eTOperator t.operators, row 1 intI plan, .own 1 0 l.length, .own 2 0 l5.length, .map 3]]), .one (vec 5 eTrepair_node l), mat (2, []) 1 intI l5, .one (mapB Value.string (Value.int .i64) l6)]
noncomputable def repair_searcher_expand_w_l1 (iv : Int) (t : TTask) (plan : List Int) (a13 : Trepair_node) : Int → ((List (ByteArray × Int)) × (List Trepair_node) × (List (List Int))) → Option ((List (ByteArray × Int)) × (List Trepair_node) × (List (List Int))) := fun t77 (c74, c75, c76) => Option.bind (strips_Can t a13.fs t77) fun ai14 => if ai14 = true then Option.bind (strips_Next t a13.fs t77) fun ai21 => Option.bind (repair_searcher_add_w2 (⟨ai21, a13.fat, iv, t77, w64 (a13.change + 1)⟩ : Trepair_node) t plan c75 c76 c74) fun ab88 => some (ab88.1, ab88.2.1, ab88.2.2) else some (c74, c75, c76)
noncomputable def repair_searcher_expand_w_r2 (iv : Int) (t : TTask) (plan : List Int) (a13 : Trepair_node) (c60 : List (ByteArray × Int)) (c61 : List Trepair_node) (c62 : List (List Int)) : Option ((List (ByteArray × Int)) × (List Trepair_node) × (List (List Int))) := (Option.bind (forR 0 (t.operators.length : Int) (repair_searcher_expand_w_l1 iv t plan a13) (c60, c61, c62)) fun ⟨c74, c75, c76⟩ => some (c74, c75, c76))
noncomputable def repair_searcher_expand_w (iv : Int) (t : TTask) (plan : List Int) (l : List Trepair_node) (l5 : List (List Int)) (l6 : List (ByteArray × Int)) : Option ((List (ByteArray × Int)) × (List Trepair_node) × (List (List Int))) := Option.bind (ix l iv) fun a13 => Option.bind (if a13.fat < (plan.length : Int) then Option.bind (ix plan a13.fat) fun a29 => Option.bind (Option.bind (strips_Can t a13.fs a29) fun a38 => if a38 = true then Option.bind (strips_Next t a13.fs a29) fun a47 => Option.bind (repair_searcher_add_w2 (⟨a47, w64 (a13.fat + 1), iv, a29, a13.change⟩ : Trepair_node) t plan l l5 l6) fun a56 => some (a56.1, a56.2.1, a56.2.2) else some (l6, l, l5)) fun ⟨c65, c66, c67⟩ => Option.bind (repair_searcher_add_w2 (⟨a13.fs, w64 (a13.fat + 1), iv, -1, w64 (a13.change + 1)⟩ : Trepair_node) t plan c66 c67 c65) fun a68 => some (a68.1, a68.2.1, a68.2.2) else some (l6, l, l5)) fun ⟨c60, c61, c62⟩ => Option.bind (strips_Successors_w t a13.fs) fun a75 => Option.bind (repair_searcher_expand_w_r2 iv t plan a13 c60 c61 c62) fun ⟨c71, c72, c73⟩ => some (c71, c72, c73)
noncomputable def repair_Plan_l2 (t : TTask) (plan : List Int) (change8 : Int) : ((List (ByteArray × Int)) × (List Trepair_node) × (List (List Int)) × Int) → Option (((List (ByteArray × Int)) × (List Trepair_node) × (List (List Int)) × Int) ⊕ (((List (ByteArray × Int)) × (List Trepair_node) × (List (List Int))) ⊕ ((List Int) × Int × Bool × TFault))) := fun (c10, c11, c12, j13) => Option.bind (ix c12 change8) fun a54 => if j13 < (a54.length : Int) then Option.bind (ix c12 change8) fun a65 => Option.bind (ix a65 j13) fun a68 => Option.bind (Option.bind (ix c11 a68) fun a75 => if a75.fat = (plan.length : Int) then Option.bind (ix c11 a68) fun a87 => Option.bind (strips_Contains a87.fs t.goal) fun a92 => some a92 else some false) fun t18 => if t18 = true then Option.bind (repair_searcher_steps_w a68 t plan c11 c12 c10) fun a96 => if 60 < (a96.length : Int) then some (.inr (.inr ([], 0, false, (⟨10, -5⟩ : TFault)))) else some (.inr (.inr (a96, change8, true, (⟨0, 0⟩ : TFault)))) else Option.bind (repair_searcher_expand_w a68 t plan c11 c12 c10) fun a106 => some (.inl (a106.1, a106.2.1, a106.2.2, w64 (j13 + 1))) else some (.inr (.inl (c10, c11, c12)))
noncomputable def repair_Plan_l1 (t : TTask) (plan : List Int) : ((List (ByteArray × Int)) × (List Trepair_node) × (List (List Int)) × Int) → Option (((List (ByteArray × Int)) × (List Trepair_node) × (List (List Int)) × Int) ⊕ (Unit ⊕ ((List Int) × Int × Bool × TFault))) := fun (c5, c6, c7, change8) => if change8 < (c7.length : Int) then Option.bind (Loop (repair_Plan_l2 t plan change8) (c5, c6, c7, 0)) fun | .inl (c14, c15, c16) => some (.inl (c14, c15, c16, w64 (change8 + 1))) | .inr x => some (.inr (.inr x)) else some (.inr (.inl ()))
noncomputable def repair_Plan (t : TTask) (plan : List Int) : Option ((List Int) × Int × Bool × TFault) := Option.bind (strips_PlanFault t plan) fun a16 => if (!((decide (a16.code = 0)) && (decide (a16.index = 0)))) = true then some ([], 0, false, a16) else Option.bind (belief_Next_w t) fun a25 => Option.bind (belief_Small_int_w [t.init] t.facts t.init t.goal t.operators) fun a26 => if (!a26) = true then some ([], 0, false, (⟨10, -7⟩ : TFault)) else Option.bind (repair_searcher_add_w2 (⟨t.init, 0, -1, -1, 0⟩ : Trepair_node) t plan ([] : List Trepair_node) ([] : List (List Int)) ([] : List (ByteArray × Int))) fun a38 => Option.bind (Loop (repair_Plan_l1 t plan) (a38.1, a38.2.1, a38.2.2, 0)) fun | .inl _ => some ([], 0, false, (⟨0, 0⟩ : TFault)) | .inr x => some x
def equal_Numbers_l1 (av : List Int) (bv : List Int) : Int → Unit → Option (Unit ⊕ Bool) := fun iv4 _ => Option.bind (ix av iv4) fun a19 => Option.bind (ix bv iv4) fun a23 => if a19 = a23 then some (.inl ()) else some (.inr false)
def equal_Numbers (av : List Int) (bv : List Int) : Option Bool := if (av.length : Int) = (bv.length : Int) then (Option.bind (rngX 0 (av.length : Int) (equal_Numbers_l1 av bv) ()) fun | .inl _ => some true | .inr x => some x) else some false
noncomputable def law8_nearest : Option Bool := Option.bind (repair_Distance [1, 2] [2, 3]) fun a10 => Option.bind (law8_step) fun a14 => Option.bind (repair_Plan a14 [1]) fun a16 => Option.bind (if a10.2.code = 0 then if a16.2.2.2.code = 0 then if a10.1 = 2 then if a16.2.2.1 = true then if a16.2.1 = 0 then Option.bind (equal_Numbers a16.1 [1]) fun a43 => some a43 else some false else some false else some false else some false else some false) fun t1 => some t1
noncomputable def strips_Run_l1 (t : TTask) (plan : List Int) : ((List (List Int)) × (List Int) × Int) → Option (((List (List Int)) × (List Int) × Int) ⊕ (List (List Int))) := fun (c4, sv5, t6) => if t6 < (plan.length : Int) then Option.bind (ix plan t6) fun a17 => Option.bind (strips_Can t sv5 a17) fun a22 => if (!a22) = true then some (.inr c4) else Option.bind (strips_Next t sv5 a17) fun a27 => Option.bind (app 24 c4 [a27]) fun a31 => some (.inl (a31, a27, w64 (t6 + 1))) else some (.inr c4)
noncomputable def strips_Run (t : TTask) (sv : List Int) (plan : List Int) : Option (List (List Int)) := Option.bind (slices_Clone_int_int sv) fun a11 => Option.bind (Loop (strips_Run_l1 t plan) ([a11], sv, 0)) fun c7 => some c7
noncomputable def strips_Works (t : TTask) (sv : List Int) (plan : List Int) : Option Bool := Option.bind (strips_Run t sv plan) fun a11 => Option.bind (if (a11.length : Int) = w64 ((plan.length : Int) + 1) then Option.bind (ix a11 (plan.length : Int)) fun a22 => Option.bind (strips_Contains a22 t.goal) fun a26 => some a26 else some false) fun t4 => some t4
noncomputable def strips_Solves (t : TTask) (plan : List Int) : Option (Bool × TFault) := Option.bind (strips_PlanFault t plan) fun a9 => if (!((decide (a9.code = 0)) && (decide (a9.index = 0)))) = true then some (false, a9) else Option.bind (strips_Works t t.init plan) fun a18 => some (a18, (⟨0, 0⟩ : TFault))
noncomputable def law8_RepairKeepsSolutions (t : TTask) (plan : List Int) : Option Bool := Option.bind (strips_Solves t plan) fun a14 => Option.bind (repair_Plan t plan) fun a20 => if (((!(decide (a14.2.code = 0))) || (!(decide (a20.2.2.2.code = 0)))) || (!a14.1)) = true then Option.bind (law8_nearest) fun a37 => some a37 else Option.bind (if a20.2.2.1 = true then if a20.2.1 = 0 then Option.bind (equal_Numbers a20.1 plan) fun a46 => if a46 = true then Option.bind (law8_nearest) fun a49 => some a49 else some false else some false else some false) fun t4 => some t4
def ref1_In (nv : Int) (low : Int) (high : Int) : Option Bool := some ((decide (low ≤ nv)) && (decide (nv ≤ high)))
def ref1_IsSet_l1 (l : List Int) (nv : Int) : Int → Unit → Option (Unit ⊕ Bool) := fun iv3 _ => Option.bind (Option.bind (ix l iv3) fun a14 => Option.bind (ref1_In a14 0 (w64 (nv - 1))) fun a18 => if (!a18) = true then some true else if 0 < iv3 then Option.bind (ix l iv3) fun a26 => Option.bind (ix l (iv3 - 1)) fun a31 => some (decide (a26 ≤ a31)) else some false) fun t4 => if t4 = true then some (.inr false) else some (.inl ())
def ref1_IsSet (l : List Int) (nv : Int) : Option Bool := (Option.bind (rngX 0 (l.length : Int) (ref1_IsSet_l1 l nv) ()) fun | .inl _ => some true | .inr x => some x)
def ref1_Has_l1 (l : List Int) (nv : Int) : Int → Unit → Option (Unit ⊕ Bool) := fun iv3 _ => Option.bind (ix l iv3) fun a14 => if a14 = nv then some (.inr true) else some (.inl ())
def ref1_Has (l : List Int) (nv : Int) : Option Bool := (Option.bind (rngX 0 (l.length : Int) (ref1_Has_l1 l nv) ()) fun | .inl _ => some false | .inr x => some x)
def ref1_Disjoint_l1 (av : List Int) (bv : List Int) : Int → Unit → Option (Unit ⊕ Bool) := fun iv3 _ => Option.bind (ix av iv3) fun a15 => Option.bind (ref1_Has bv a15) fun a17 => if a17 = true then some (.inr false) else some (.inl ())
def ref1_Disjoint (av : List Int) (bv : List Int) : Option Bool := (Option.bind (rngX 0 (av.length : Int) (ref1_Disjoint_l1 av bv) ()) fun | .inl _ => some true | .inr x => some x)
def ref1_TaskFault_l1 (t : TTask) : Int → Unit → Option (Unit ⊕ TFault) := fun iv6 _ => Option.bind (ix t.operators iv6) fun a39 => Option.bind (Option.bind (ref1_IsSet a39.pre t.facts) fun a45 => if (!a45) = true then some true else Option.bind (ref1_IsSet a39.add t.facts) fun a52 => if (!a52) = true then some true else Option.bind (ref1_IsSet a39.del t.facts) fun a60 => if (!a60) = true then some true else Option.bind (ref1_Disjoint a39.add a39.del) fun a68 => some (!a68)) fun t7 => if t7 = true then Option.bind (ref1_At 5 iv6) fun a72 => some (.inr a72) else Option.bind (ref1_In a39.cost 0 100) fun a75 => if (!a75) = true then Option.bind (ref1_At 3 iv6) fun a78 => some (.inr a78) else some (.inl ())
def ref1_TaskFault (t : TTask) : Option TFault := Option.bind (ref1_In t.facts 0 24) fun a7 => if (!a7) = true then Option.bind (ref1_At 3 (-1)) fun a9 => some a9 else Option.bind (ref1_IsSet t.init t.facts) fun a14 => if (!a14) = true then Option.bind (ref1_At 5 (-2)) fun a16 => some a16 else Option.bind (ref1_IsSet t.goal t.facts) fun a21 => if (!a21) = true then Option.bind (ref1_At 5 (-3)) fun a23 => some a23 else if 40 < (t.operators.length : Int) then Option.bind (ref1_At 2 (-1)) fun a28 => some a28 else (Option.bind (rngX 0 (t.operators.length : Int) (ref1_TaskFault_l1 t) ()) fun | .inl _ => some (⟨0, 0⟩ : TFault) | .inr x => some x)
def ref1_StepsFault_l1 (operators : Int) (plan : List Int) : Int → Unit → Option (Unit ⊕ TFault) := fun iv4 _ => Option.bind (ix plan iv4) fun a18 => Option.bind (ref1_In a18 0 (w64 (operators - 1))) fun a22 => if (!a22) = true then Option.bind (ref1_At 3 (-6)) fun a24 => some (.inr a24) else some (.inl ())
def ref1_StepsFault (operators : Int) (plan : List Int) : Option TFault := if 60 < (plan.length : Int) then Option.bind (ref1_At 2 (-5)) fun a9 => some a9 else (Option.bind (rngX 0 (plan.length : Int) (ref1_StepsFault_l1 operators plan) ()) fun | .inl _ => some (⟨0, 0⟩ : TFault) | .inr x => some x)
def ref1_PlanFault (t : TTask) (plan : List Int) : Option TFault := Option.bind (ref1_TaskFault t) fun a7 => Option.bind (if a7.code = 0 then Option.bind (ref1_StepsFault (t.operators.length : Int) plan) fun a15 => some (a15.code, a15.index) else some (a7.code, a7.index)) fun ⟨c3, c4⟩ => some (⟨c3, c4⟩ : TFault)
end Ab
end
section
namespace Ab
open Go
section
open Go.Proofs
variable {P : Program} {σ0 : Store} {sz : Nat} {Q : Post} {env : Env} {σv : Store} {ops : Array Oper} {rest : List Oper}
end
end Ab
end
section
namespace Go.Proofs
open Go.Shelf
def Tryd.lays189_ren : Go.Shelf.Ren := ⟨fun | 189 => 51 | 125 => 67 | 257 => 66 | 128 => 85 | 129 => 70 | 294 => 77 | 295 => 78 | 296 => 79 | 297 => 80 | 298 => 81 | 299 => 82 | 216 => 64 | 300 => 83 | 301 => 84 | 328 => 96 | 329 => 97 | 330 => 98 | 331 => 99 | 332 => 100 | 215 => 76 | 343 => 104 | n => n, fun | 28 => 22 | 3 => 3 | 46 => 105 | 0 => 0 | 51 => 113 | 53 => 88 | 4 => 4 | 183 => 119 | 182 => 118 | 131 => 70 | 5 => 5 | 9 => 9 | 218 => 130 | 222 => 134 | 228 => 140 | 229 => 141 | n => n, fun | n => n⟩
theorem Tryd.lays189 : Go.Proofs.Lays.n189 Tryd.prog Tryd.lays189_ren := {
  mixed := by kernel_rfl
  f125 := Tryd.func67.trans (congrArg some (by kernel_rfl))
  f128 := Tryd.func85.trans (congrArg some (by kernel_rfl))
  f129 := Tryd.func70.trans (congrArg some (by kernel_rfl))
  f189 := Tryd.func51.trans (congrArg some (by kernel_rfl))
  f215 := Tryd.func76.trans (congrArg some (by kernel_rfl))
  f216 := Tryd.func64.trans (congrArg some (by kernel_rfl))
  f257 := Tryd.func66.trans (congrArg some (by kernel_rfl))
  f294 := Tryd.func77.trans (congrArg some (by kernel_rfl))
  f295 := Tryd.func78.trans (congrArg some (by kernel_rfl))
  f296 := Tryd.func79.trans (congrArg some (by kernel_rfl))
  f297 := Tryd.func80.trans (congrArg some (by kernel_rfl))
  f298 := Tryd.func81.trans (congrArg some (by kernel_rfl))
  f299 := Tryd.func82.trans (congrArg some (by kernel_rfl))
  f300 := Tryd.func83.trans (congrArg some (by kernel_rfl))
  f301 := Tryd.func84.trans (congrArg some (by kernel_rfl))
  f328 := Tryd.func96.trans (congrArg some (by kernel_rfl))
  f329 := Tryd.func97.trans (congrArg some (by kernel_rfl))
  f330 := Tryd.func98.trans (congrArg some (by kernel_rfl))
  f331 := Tryd.func99.trans (congrArg some (by kernel_rfl))
  f332 := Tryd.func100.trans (congrArg some (by kernel_rfl))
  f343 := Tryd.func104.trans (congrArg some (by kernel_rfl))
  t0 := Tryd.underlying0
  a0 := Tryd.isAgg0
  z0 := Tryd.sizeOf0
  v0 := Tryd.zeroValue0
  t3 := Tryd.underlying3
  a3 := Tryd.isAgg3
  z3 := Tryd.sizeOf3
  v3 := Tryd.zeroValue3
  t4 := Tryd.underlying4
  a4 := Tryd.isAgg4
  z4 := Tryd.sizeOf4
  v4 := Tryd.zeroValue4
  t5 := Tryd.underlying5
  a5 := Tryd.isAgg5
  z5 := Tryd.sizeOf5
  v5 := Tryd.zeroValue5
  t9 := Tryd.underlying9
  a9 := Tryd.isAgg9
  z9 := Tryd.sizeOf9
  v9 := Tryd.zeroValue9
  t28 := Tryd.underlying22
  a28 := Tryd.isAgg22
  z28 := Tryd.sizeOf22
  v28 := Tryd.zeroValue22
  t46 := Tryd.underlying105
  a46 := Tryd.isAgg105
  z46 := Tryd.sizeOf105
  v46 := Tryd.zeroValue105
  t51 := Tryd.underlying113
  a51 := Tryd.isAgg113
  z51 := Tryd.sizeOf113
  v51 := Tryd.zeroValue113
  t53 := Tryd.underlying88
  a53 := Tryd.isAgg88
  z53 := Tryd.sizeOf88
  v53 := Tryd.zeroValue88
  t131 := Tryd.underlying70
  a131 := Tryd.isAgg70
  z131 := Tryd.sizeOf70
  v131 := Tryd.zeroValue70
  t182 := Tryd.underlying118
  a182 := Tryd.isAgg118
  z182 := Tryd.sizeOf118
  v182 := Tryd.zeroValue118
  t183 := Tryd.underlying119
  a183 := Tryd.isAgg119
  z183 := Tryd.sizeOf119
  v183 := Tryd.zeroValue119
  t218 := Tryd.underlying130
  a218 := Tryd.isAgg130
  z218 := Tryd.sizeOf130
  v218 := Tryd.zeroValue130
  t222 := Tryd.underlying134
  a222 := Tryd.isAgg134
  z222 := Tryd.sizeOf134
  v222 := Tryd.zeroValue134
  t228 := Tryd.underlying140
  a228 := Tryd.isAgg140
  z228 := Tryd.sizeOf140
  v228 := Tryd.zeroValue140
  t229 := Tryd.underlying141
  a229 := Tryd.isAgg141
  z229 := Tryd.sizeOf141
  v229 := Tryd.zeroValue141 }
open Go.Sort Go.RowKit in
theorem Tryd.slices_Sort_int (blk off cap : Nat) (zs : List Int) (w : World) (hH : Holds (Value.int .i64) w blk off zs.toArray) (hblk : blk < w.heap.size) (hsz : zs.length < 4611686018427387904) :
    Calls Tryd.prog 51 #[.slice (some ⟨blk, off, none⟩) zs.length cap] w fun e w' =>
      e = .returned (.tuple #[]) ∧ ∃ n os, w' = grow (putRow (Value.int .i64) (Sort.ahead w n) blk off (zs.mergeSort fun x y => decide (x ≤ y)).toArray) os := Any.slices_Sort_int Tryd.lays189 blk off cap zs w hH hblk hsz
def Tryd.lays112_ren : Go.Shelf.Ren := ⟨fun | 112 => 31 | n => n, fun | 28 => 22 | 3 => 3 | 4 => 4 | 0 => 0 | n => n, fun | n => n⟩
theorem Tryd.lays112 : Go.Proofs.Lays.n112 Tryd.prog Tryd.lays112_ren := {
  mixed := by kernel_rfl
  f112 := Tryd.func31.trans (congrArg some (by kernel_rfl))
  t0 := Tryd.underlying0
  a0 := Tryd.isAgg0
  z0 := Tryd.sizeOf0
  v0 := Tryd.zeroValue0
  t3 := Tryd.underlying3
  a3 := Tryd.isAgg3
  z3 := Tryd.sizeOf3
  v3 := Tryd.zeroValue3
  t4 := Tryd.underlying4
  a4 := Tryd.isAgg4
  z4 := Tryd.sizeOf4
  v4 := Tryd.zeroValue4
  t28 := Tryd.underlying22
  a28 := Tryd.isAgg22
  z28 := Tryd.sizeOf22
  v28 := Tryd.zeroValue22 }
open Go.RowKit Go.Lib Go.Sort in
/-- slices.Reverse at []int: "Reverse reverses the elements of the slice in place.": THE SLICE's CELLS HOLD 'zs.reverse' BEHIND THE CALL; all else is as' it was, but for the count of draws (the exchange 's[i], s[j] = s[j], s[i]' draws its order, once a round). IN THE WORDS OF slices.Sort's CONTRACT: 'Holds': the cells hold zs and none is frozen; 'putRow': the world with those cells holding another array. A slice of length 0 that is not nil is among them ('zs = []'); nil: '.._nil'. (LAID: no walk: one application.) -/
theorem Tryd.slices_Reverse_int (blk off cap : Nat) (zs : List Int) (w : World) (hH : Holds (Value.int .i64) w blk off zs.toArray) (hsz : zs.length ≤ 9223372036854775807) :
    Calls Tryd.prog 31 #[.slice (some ⟨blk, off, none⟩) zs.length cap] w fun e w' => e = .returned (.tuple #[]) ∧ ∃ n, w' = putRow (Value.int .i64) (Sort.ahead w n) blk off zs.reverse.toArray := Any.slices_Reverse_int Tryd.lays112 blk off cap zs w hH hsz
open Go.RowKit Go.Lib Go.Sort in
/-- The same at a slice of length 0, a nil one too: nothing is read, nothing written, nothing drawn. (LAID: no walk: one application.) -/
theorem Tryd.slices_Reverse_int_empty (a : Option Addr) (cap : Nat) (w : World) :
    Calls Tryd.prog 31 #[.slice a 0 cap] w fun e w' => e = .returned (.tuple #[]) ∧ w' = w := Any.slices_Reverse_int_empty Tryd.lays112 a cap w
def Tryd.laysNm220_ren : Go.Shelf.Ren := ⟨fun | 20 => 52 | n => n, fun | 22 => 22 | 3 => 3 | 4 => 4 | 0 => 0 | n => n, fun | n => n⟩
theorem Tryd.laysNm220 : Go.Proofs.Lays2.n20 Tryd.prog Tryd.laysNm220_ren := {
  mixed := by kernel_rfl
  f20 := Tryd.func52.trans (congrArg some (by kernel_rfl))
  t0 := Tryd.underlying0
  a0 := Tryd.isAgg0
  z0 := Tryd.sizeOf0
  v0 := Tryd.zeroValue0
  t3 := Tryd.underlying3
  a3 := Tryd.isAgg3
  z3 := Tryd.sizeOf3
  v3 := Tryd.zeroValue3
  t4 := Tryd.underlying4
  a4 := Tryd.isAgg4
  z4 := Tryd.sizeOf4
  v4 := Tryd.zeroValue4
  t22 := Tryd.underlying22
  a22 := Tryd.isAgg22
  z22 := Tryd.sizeOf22
  v22 := Tryd.zeroValue22
  i3 := by kernel_rfl }
open Go.RowKit Go.Lib Go.Sort in
/-- slices.Compact at []int: "Compact replaces consecutive runs of equal elements with a single copy. This is like the uniq command found on Unix. Compact modifies the contents of the slice s and returns the modified slice, which may have a smaller length. Compact zeroes the elements between the new length and the original length. The result preserves the nilness of s.": IT RETURNS THE SLICE CUT TO 'Lib.compact zs'; ITS CELLS HOLD 'Lib.compact zs', THEN ZERO VALUES up to the old length; all else is as' it was, but for the count of draws. IN THE WORDS OF slices.Sort's CONTRACT ('Holds', 'putRow'): so the everyday 'slices.Sort(xs); xs = slices.Compact(xs)' goes from the one contract to the other. It asks 'zs.length ≤ cap' (every slice's: the reslicing 's[:k]' looks at it). Length 0, nil: '.._empty'. (LAID: no walk: one application.) -/
theorem Tryd.slices_Compact_int (blk off cap : Nat) (zs : List Int) (w : World) (hH : Holds (Value.int .i64) w blk off zs.toArray) (hsz : zs.length ≤ 9223372036854775807) (hcap : zs.length ≤ cap) :
    Calls Tryd.prog 52 #[.slice (some ⟨blk, off, none⟩) zs.length cap] w fun e w' => e = .returned (.slice (some ⟨blk, off, none⟩) (Lib.compact zs).length cap) ∧ ∃ q, w' = putRow (Value.int .i64) (Sort.ahead w q) blk off (Lib.compact zs ++ List.replicate (zs.length - (Lib.compact zs).length) 0).toArray := Any.slices_Compact_int Tryd.laysNm220 blk off cap zs w hH hsz hcap
open Go.RowKit Go.Lib Go.Sort in
/-- The same at a slice of length 0, a nil one too: it comes back as' it is. (LAID: no walk: one application.) -/
theorem Tryd.slices_Compact_int_empty (a : Option Addr) (cap : Nat) (w : World) :
    Calls Tryd.prog 52 #[.slice a 0 cap] w fun e w' => e = .returned (.slice a 0 cap) ∧ w' = w := Any.slices_Compact_int_empty Tryd.laysNm220 a cap w
open Go.RowKit Go.Sort in
/-- .. and plain. (LAID: no walk: one application.) -/
theorem Tryd.slices_Sort_int_none (p : Option Addr) (cap : Nat) (w : World) :
    Calls Tryd.prog 51 #[.slice p 0 cap] w fun e w' => e = .returned (.tuple #[]) ∧ w' = w := Any.slices_Sort_int_none Tryd.lays189 p cap w
def Tryd.laysSlF6_f60_ren : Go.Shelf.Ren := ⟨fun | 6 => 60 | 15 => 67 | 14 => 74 | 28 => 85 | 29 => 70 | 20 => 88 | 21 => 89 | 22 => 90 | 23 => 91 | 24 => 92 | 25 => 93 | 26 => 94 | 27 => 95 | 46 => 101 | 47 => 97 | 48 => 98 | 49 => 102 | 50 => 103 | 57 => 105 | n => n, fun | 22 => 42 | 24 => 22 | 25 => 29 | 3 => 3 | 39 => 105 | 0 => 0 | 53 => 113 | 55 => 88 | 4 => 4 | 46 => 119 | 45 => 118 | 50 => 70 | 5 => 5 | 9 => 9 | 66 => 130 | 70 => 134 | 76 => 140 | 77 => 141 | n => n, fun | n => n⟩
theorem Tryd.laysSlF6_f60 : Go.Proofs.SlLaysF.n6 Tryd.prog Tryd.laysSlF6_f60_ren := {
  mixed := by kernel_rfl
  f6 := ⟨Tryd.f60.name, by decide, Tryd.func60.trans (congrArg some (by kernel_rfl))⟩
  f14 := ⟨Tryd.f74.name, by decide, Tryd.func74.trans (congrArg some (by kernel_rfl))⟩
  f15 := Tryd.func67.trans (congrArg some (by kernel_rfl))
  f20 := ⟨Tryd.f88.name, by decide, Tryd.func88.trans (congrArg some (by kernel_rfl))⟩
  f21 := ⟨Tryd.f89.name, by decide, Tryd.func89.trans (congrArg some (by kernel_rfl))⟩
  f22 := ⟨Tryd.f90.name, by decide, Tryd.func90.trans (congrArg some (by kernel_rfl))⟩
  f23 := ⟨Tryd.f91.name, by decide, Tryd.func91.trans (congrArg some (by kernel_rfl))⟩
  f24 := ⟨Tryd.f92.name, by decide, Tryd.func92.trans (congrArg some (by kernel_rfl))⟩
  f25 := ⟨Tryd.f93.name, by decide, Tryd.func93.trans (congrArg some (by kernel_rfl))⟩
  f26 := ⟨Tryd.f94.name, by decide, Tryd.func94.trans (congrArg some (by kernel_rfl))⟩
  f27 := ⟨Tryd.f95.name, by decide, Tryd.func95.trans (congrArg some (by kernel_rfl))⟩
  f28 := Tryd.func85.trans (congrArg some (by kernel_rfl))
  f29 := Tryd.func70.trans (congrArg some (by kernel_rfl))
  f46 := ⟨Tryd.f101.name, by decide, Tryd.func101.trans (congrArg some (by kernel_rfl))⟩
  f47 := Tryd.func97.trans (congrArg some (by kernel_rfl))
  f48 := Tryd.func98.trans (congrArg some (by kernel_rfl))
  f49 := ⟨Tryd.f102.name, by decide, Tryd.func102.trans (congrArg some (by kernel_rfl))⟩
  f50 := ⟨Tryd.f103.name, by decide, Tryd.func103.trans (congrArg some (by kernel_rfl))⟩
  f57 := ⟨Tryd.f105.name, by decide, Tryd.func105.trans (congrArg some (by kernel_rfl))⟩
  t0 := Tryd.underlying0
  a0 := Tryd.isAgg0
  z0 := Tryd.sizeOf0
  v0 := Tryd.zeroValue0
  t3 := Tryd.underlying3
  a3 := Tryd.isAgg3
  z3 := Tryd.sizeOf3
  v3 := Tryd.zeroValue3
  t4 := Tryd.underlying4
  a4 := Tryd.isAgg4
  z4 := Tryd.sizeOf4
  v4 := Tryd.zeroValue4
  t5 := Tryd.underlying5
  a5 := Tryd.isAgg5
  z5 := Tryd.sizeOf5
  v5 := Tryd.zeroValue5
  t9 := Tryd.underlying9
  a9 := Tryd.isAgg9
  z9 := Tryd.sizeOf9
  v9 := Tryd.zeroValue9
  t22 := Tryd.underlying42
  a22 := Tryd.isAgg42
  z22 := Tryd.sizeOf42
  v22 := Tryd.zeroValue42
  a24 := Tryd.isAgg22
  z24 := Tryd.sizeOf22
  t25 := Tryd.underlying29
  a25 := Tryd.isAgg29
  z25 := Tryd.sizeOf29
  v25 := Tryd.zeroValue29
  t39 := Tryd.underlying105
  a39 := Tryd.isAgg105
  z39 := Tryd.sizeOf105
  v39 := Tryd.zeroValue105
  t45 := Tryd.underlying118
  a45 := Tryd.isAgg118
  z45 := Tryd.sizeOf118
  v45 := Tryd.zeroValue118
  t46 := Tryd.underlying119
  a46 := Tryd.isAgg119
  z46 := Tryd.sizeOf119
  v46 := Tryd.zeroValue119
  t50 := Tryd.underlying70
  a50 := Tryd.isAgg70
  z50 := Tryd.sizeOf70
  v50 := Tryd.zeroValue70
  t53 := Tryd.underlying113
  a53 := Tryd.isAgg113
  z53 := Tryd.sizeOf113
  v53 := Tryd.zeroValue113
  t55 := Tryd.underlying88
  a55 := Tryd.isAgg88
  z55 := Tryd.sizeOf88
  v55 := Tryd.zeroValue88
  t66 := Tryd.underlying130
  a66 := Tryd.isAgg130
  z66 := Tryd.sizeOf130
  v66 := Tryd.zeroValue130
  t70 := Tryd.underlying134
  a70 := Tryd.isAgg134
  z70 := Tryd.sizeOf134
  v70 := Tryd.zeroValue134
  t76 := Tryd.underlying140
  a76 := Tryd.isAgg140
  z76 := Tryd.sizeOf140
  v76 := Tryd.zeroValue140
  t77 := Tryd.underlying141
  a77 := Tryd.isAgg141
  z77 := Tryd.sizeOf141
  v77 := Tryd.zeroValue141 }
open Go.RowKit Go.Lib Go.Sort in
/-- **slices.SortFunc, IN THE DOCUMENTATION's OWN TERMS: A PERMUTATION OF WHAT THE ROW HELD, SORTED BY 'cmp(a, b) < 0'.** Which of two equals comes first is left open ("The sort is not guaranteed to be stable"). (LAID AT THE INSTANCE 'slices.SortFunc[[][]int,[]int]': no walk: one application.) -/
theorem Tryd.slices_SortFunc {α : Type} [Inhabited α] (enc : α → Value) (h1 : OneCell enc) (cf : α → α → Int) (hO : SWO (ltOf cf)) (g : Nat) (cb : Array Value) (blk off cap : Nat) (d : Array α) (w : World) (eg : ∀ args w, (callFunc g args).run Tryd.prog w = .ok (.enter g args) w) (hcmp : CmpLays1 Tryd.prog g cb enc cf blk off d.size w) (hH : Holds enc w blk off d) (hblk : blk < w.heap.size) (hsz : d.size < 4611686018427387904) :
    Calls Tryd.prog 60 #[.slice (some ⟨blk, off, none⟩) d.size cap, .func (.func g) #[] cb] w fun e w' =>
      e = .returned (.tuple #[]) ∧ ∃ d' n os, PermIn 0 d.size d d' ∧ SortedIn (ltOf cf) 0 d.size d' ∧ w' = sortWorld enc w blk off n d' os := Any.slices_SortFunc Tryd.laysSlF6_f60 enc h1 cf hO g cb blk off cap d w eg hcmp hH hblk hsz
def Tryd.laysSlF06_f60_ren : Go.Shelf.Ren := ⟨fun | 6 => 60 | 15 => 67 | 14 => 74 | 28 => 85 | 29 => 70 | 20 => 88 | 21 => 89 | 22 => 90 | 23 => 91 | 24 => 92 | 25 => 93 | 26 => 94 | 27 => 95 | 46 => 101 | 47 => 97 | 48 => 98 | 49 => 102 | 50 => 103 | 57 => 105 | n => n, fun | 22 => 42 | 24 => 22 | 25 => 29 | 3 => 3 | 39 => 105 | 0 => 0 | 53 => 113 | 55 => 88 | 4 => 4 | 46 => 119 | 45 => 118 | 50 => 70 | 5 => 5 | 9 => 9 | 66 => 130 | 70 => 134 | 76 => 140 | 77 => 141 | n => n, fun | n => n⟩
theorem Tryd.laysSlF06_f60 : Go.Proofs.SlLaysF0.n6 Tryd.prog Tryd.laysSlF06_f60_ren := {
  mixed := by kernel_rfl
  f6 := ⟨Tryd.f60.name, by decide, Tryd.func60.trans (congrArg some (by kernel_rfl))⟩
  f14 := ⟨Tryd.f74.name, by decide, Tryd.func74.trans (congrArg some (by kernel_rfl))⟩
  f15 := Tryd.func67.trans (congrArg some (by kernel_rfl))
  f20 := ⟨Tryd.f88.name, by decide, Tryd.func88.trans (congrArg some (by kernel_rfl))⟩
  f21 := ⟨Tryd.f89.name, by decide, Tryd.func89.trans (congrArg some (by kernel_rfl))⟩
  f22 := ⟨Tryd.f90.name, by decide, Tryd.func90.trans (congrArg some (by kernel_rfl))⟩
  f23 := ⟨Tryd.f91.name, by decide, Tryd.func91.trans (congrArg some (by kernel_rfl))⟩
  f24 := ⟨Tryd.f92.name, by decide, Tryd.func92.trans (congrArg some (by kernel_rfl))⟩
  f25 := ⟨Tryd.f93.name, by decide, Tryd.func93.trans (congrArg some (by kernel_rfl))⟩
  f26 := ⟨Tryd.f94.name, by decide, Tryd.func94.trans (congrArg some (by kernel_rfl))⟩
  f27 := ⟨Tryd.f95.name, by decide, Tryd.func95.trans (congrArg some (by kernel_rfl))⟩
  f28 := Tryd.func85.trans (congrArg some (by kernel_rfl))
  f29 := Tryd.func70.trans (congrArg some (by kernel_rfl))
  f46 := ⟨Tryd.f101.name, by decide, Tryd.func101.trans (congrArg some (by kernel_rfl))⟩
  f47 := Tryd.func97.trans (congrArg some (by kernel_rfl))
  f48 := Tryd.func98.trans (congrArg some (by kernel_rfl))
  f49 := ⟨Tryd.f102.name, by decide, Tryd.func102.trans (congrArg some (by kernel_rfl))⟩
  f50 := ⟨Tryd.f103.name, by decide, Tryd.func103.trans (congrArg some (by kernel_rfl))⟩
  f57 := ⟨Tryd.f105.name, by decide, Tryd.func105.trans (congrArg some (by kernel_rfl))⟩
  t0 := Tryd.underlying0
  a0 := Tryd.isAgg0
  z0 := Tryd.sizeOf0
  v0 := Tryd.zeroValue0
  t3 := Tryd.underlying3
  a3 := Tryd.isAgg3
  z3 := Tryd.sizeOf3
  v3 := Tryd.zeroValue3
  t4 := Tryd.underlying4
  a4 := Tryd.isAgg4
  z4 := Tryd.sizeOf4
  v4 := Tryd.zeroValue4
  t5 := Tryd.underlying5
  a5 := Tryd.isAgg5
  z5 := Tryd.sizeOf5
  v5 := Tryd.zeroValue5
  t9 := Tryd.underlying9
  a9 := Tryd.isAgg9
  z9 := Tryd.sizeOf9
  v9 := Tryd.zeroValue9
  t22 := Tryd.underlying42
  a22 := Tryd.isAgg42
  z22 := Tryd.sizeOf42
  v22 := Tryd.zeroValue42
  t25 := Tryd.underlying29
  a25 := Tryd.isAgg29
  z25 := Tryd.sizeOf29
  v25 := Tryd.zeroValue29
  t39 := Tryd.underlying105
  a39 := Tryd.isAgg105
  z39 := Tryd.sizeOf105
  v39 := Tryd.zeroValue105
  t45 := Tryd.underlying118
  a45 := Tryd.isAgg118
  z45 := Tryd.sizeOf118
  v45 := Tryd.zeroValue118
  t46 := Tryd.underlying119
  a46 := Tryd.isAgg119
  z46 := Tryd.sizeOf119
  v46 := Tryd.zeroValue119
  t50 := Tryd.underlying70
  a50 := Tryd.isAgg70
  z50 := Tryd.sizeOf70
  v50 := Tryd.zeroValue70
  t53 := Tryd.underlying113
  a53 := Tryd.isAgg113
  z53 := Tryd.sizeOf113
  v53 := Tryd.zeroValue113
  t55 := Tryd.underlying88
  a55 := Tryd.isAgg88
  z55 := Tryd.sizeOf88
  v55 := Tryd.zeroValue88
  t66 := Tryd.underlying130
  a66 := Tryd.isAgg130
  z66 := Tryd.sizeOf130
  v66 := Tryd.zeroValue130
  t70 := Tryd.underlying134
  a70 := Tryd.isAgg134
  z70 := Tryd.sizeOf134
  v70 := Tryd.zeroValue134
  t76 := Tryd.underlying140
  a76 := Tryd.isAgg140
  z76 := Tryd.sizeOf140
  v76 := Tryd.zeroValue140
  t77 := Tryd.underlying141
  a77 := Tryd.isAgg141
  z77 := Tryd.sizeOf141
  v77 := Tryd.zeroValue141 }
open Go.RowKit Go.Lib Go.Sort in
/-- **slices.SortFunc AT NO ELEMENT, A nil SLICE TOO: nothing turns.** (LAID AT THE INSTANCE 'slices.SortFunc[[][]int,[]int]': no walk: one application.) -/
theorem Tryd.slices_SortFunc_none {α : Type} [Inhabited α] (p : Option Addr) (cap : Nat) (fv : Value) (w : World) :
    Calls Tryd.prog 60 #[.slice p 0 cap, fv] w fun e w' => e = .returned (.tuple #[]) ∧ w' = w := AnyF.slices_SortFunc_none Tryd.laysSlF06_f60 p cap fv w
end Go.Proofs
end
section
namespace Ab
open Go Go.Proofs
theorem sort_facts : fnFacts Tryd.prog 51 := ⟨_, Tryd.func51, rfl, rfl⟩
theorem compact_facts : fnFacts Tryd.prog 52 := ⟨_, Tryd.func52, rfl, rfl⟩
theorem sortL_ok : SortOk Tryd.prog 51 := fun hσ hl => sort_fn sort_facts (fun blk off cap zs w hH hb hs => Tryd.slices_Sort_int blk off cap zs w hH hb hs) (fun p cap w => Tryd.slices_Sort_int_none p cap w) hσ hl
theorem compactL_ok : CompactOk Tryd.prog 52 := fun hσ => compact_fn compact_facts (fun blk off cap zs w hH hs hc => Tryd.slices_Compact_int blk off cap zs w hH hs hc) (fun a cap w => Tryd.slices_Compact_int_empty a cap w) hσ
end Ab
end
section
namespace Ab
open Go Go.Proofs
theorem sortF_facts : fnFacts Tryd.prog 60 := ⟨_, Tryd.func60, rfl, rfl⟩
theorem sortF_LLi64_ok : SortFOk Tryd.prog 60 := fun hgn hO hT hg _ _ _ hσ hl => sortF_fn sortF_facts hgn hO hT hg (fun β _ enc h1 cf hO g cb blk off cap d w eg hcmp hH hblk hsz => Tryd.slices_SortFunc enc h1 cf hO g cb blk off cap d w eg hcmp hH hblk hsz) (fun p cap fv w => Tryd.slices_SortFunc_none (α := Unit) p cap fv w) hσ hl
end Ab
end
section
namespace Ab
open Go Go.Proofs
theorem reverse_facts : fnFacts Tryd.prog 31 := ⟨_, Tryd.func31, rfl, rfl⟩
theorem revL_ok : RevOk Tryd.prog 31 := fun hσ => rev_fn reverse_facts (fun blk off cap zs w hH hs => Tryd.slices_Reverse_int blk off cap zs w hH hs) (fun p cap w => Tryd.slices_Reverse_int_empty p cap w) hσ
end Ab
end
