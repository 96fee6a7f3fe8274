/-
  THE BRIDGE: what a row hands in, read as trees of data; a law that answers true.
-/
import Derived.Test.YtfjbddjoagefkaaAb17
import Derived.ProofKit
import Derived.Below
import Derived.ChangeSame
import Derived.OpenShut
namespace Ab
open Go Go.RowKit Go.WideShapes Go.ChangeShapes

/-- What a cell may hold. -/
inductive Sh where
  | int
  | bool
  | sl (l : List Sh)
  deriving Inhabited

def shFields (P : Program) (g : TypeId → Option (List Sh)) : Nat → List Field → Option (List Sh)
  | _, [] => some []
  | off, f :: fs => (g f.type).bind fun L => if Nat.beq f.offset off && Nat.beq (P.cellsOf f.type) L.length then (shFields P g (off + L.length) fs).map (L ++ ·) else none

def shRep (L : List Sh) : Nat → List Sh
  | 0 => []
  | n + 1 => L ++ shRep L n

/-- The cells of a type. -/
def shapes (P : Program) : Nat → TypeId → Option (List Sh)
  | 0, _ => none
  | n + 1, t => match P.underlying t with
    | some .bool => some [.bool]
    | some (.int .i64) => some [.int]
    | some (.slice e) => (shapes P n e).bind fun L => if Nat.beq (P.cellsOf e) L.length then some [.sl L] else none
    | some (.struct fs) => (shFields P (shapes P n) 0 fs.toList).bind fun L => if Nat.beq (P.cellsOf t) L.length then some L else none
    | some (.array m e) => (shapes P n e).bind fun L => if Nat.beq (P.cellsOf e) L.length && Nat.beq (P.cellsOf t) (shRep L m).length then some (shRep L m) else none
    | _ => none

/-- A row of cells that fits. -/
inductive DecL : List Sh → List I → Prop
  | nil : DecL [] []
  | int {n : Int} {L is} (h1 : -9223372036854775808 ≤ n) (h2 : n ≤ 9223372036854775807) (h : DecL L is) : DecL (.int :: L) (.val (.int .i64 n) :: is)
  | bool {b : Bool} {L is} (h : DecL L is) : DecL (.bool :: L) (.val (.bool b) :: is)
  | sl {L0 es L is} (he : ∀ e ∈ es, DecL L0 e) (h : DecL L is) : DecL (.sl L0 :: L) (.sl L0.length es :: is)

theorem DecL.length {L : List Sh} {is : List I} (h : DecL L is) : is.length = L.length := by
  induction h with
  | nil => rfl
  | int _ _ _ ih => simp [ih]
  | bool _ ih => simp [ih]
  | sl _ _ _ ih => simp [ih]

theorem DecL.append {L L' : List Sh} {is is' : List I} (h : DecL L is) (h' : DecL L' is') : DecL (L ++ L') (is ++ is') := by
  induction h with
  | nil => exact h'
  | int h1 h2 _ ih => exact .int h1 h2 ih
  | bool _ ih => exact .bool ih
  | sl he _ _ ih => exact .sl he ih

/-- What the cells of a value show. -/
def Shown (w : World) (A : Nat → Prop) (is : List I) (cs : List Value) : Prop := is.length = cs.length ∧ ∀ (i : Nat) (x : I) (v : Value), is[i]? = some x → cs[i]? = some v → RelI w A x v

theorem Shown.append {w : World} {A : Nat → Prop} {is is' : List I} {cs cs' : List Value} (h : Shown w A is cs) (h' : Shown w A is' cs') : Shown w A (is ++ is') (cs ++ cs') := by
  refine ⟨by simp [h.1, h'.1], fun i x v hi hv => ?_⟩
  rcases Nat.lt_or_ge i is.length with hl | hl
  · rw [List.getElem?_append_left hl] at hi
    rw [List.getElem?_append_left (by rw [← h.1]; exact hl)] at hv
    exact h.2 i x v hi hv
  · rw [List.getElem?_append_right hl] at hi
    rw [List.getElem?_append_right (by rw [← h.1]; exact hl), ← h.1] at hv
    exact h'.2 _ x v hi hv

theorem Shown.one {w : World} {A : Nat → Prop} {x : I} {v : Value} (h : RelI w A x v) : Shown w A [x] [v] := by
  refine ⟨rfl, fun i y u hi hu => ?_⟩
  match i with
  | 0 => cases hi; cases hu; exact h
  | i + 1 => simp at hi

theorem ex_list {α : Type} {p : Nat → α → Prop} : ∀ n : Nat, (∀ i, i < n → ∃ a, p i a) → ∃ l : List α, l.length = n ∧ ∀ i a, l[i]? = some a → p i a
  | 0, _ => ⟨[], rfl, fun i a h => by simp at h⟩
  | n + 1, h => by
    obtain ⟨l, h1, h2⟩ := ex_list n fun i hi => h i (by omega)
    obtain ⟨a, ha⟩ := h n (by omega)
    refine ⟨l ++ [a], by simp [h1], fun i b hb => ?_⟩
    rcases Nat.lt_or_ge i n with hi | hi
    · rw [List.getElem?_append_left (by omega)] at hb; exact h2 i b hb
    · rw [List.getElem?_append_right (by omega)] at hb
      have : i = n := by
        have := (List.getElem?_eq_some_iff.1 hb).1
        simp at this; omega
      subst this
      simp [h1] at hb; subst hb; exact ha

section
variable {H : Type} {enc : TypeId × Value → H} {P : Program} {w : World} {base : Nat} {spare : Nat → Bool} {held : Bool} {A : Nat → Prop}

/-- What 'trod' has read, shown. -/
def Reads (enc : TypeId × Value → H) (P : Program) (w : World) (base : Nat) (spare : Nat → Bool) (held : Bool) (A : Nat → Prop) (g : TypeId → Option (List Sh)) : Prop :=
  ∀ (t : TypeId) (L : List Sh) (fuel : Nat) (cs : List Value) (x : DataW H × List MemPlace), g t = some L → DataW.trod enc P w base spare held fuel t cs = some x → ∃ is, DecL L is ∧ Shown w A is cs

theorem reads_fields {g : TypeId → Option (List Sh)} (hg : Reads enc P w base spare held A g) : ∀ (fs : List Field) (off : Nat) (L : List Sh) (cs : List Value), shFields P g off fs = some L →
    (∀ f ∈ fs, ∃ (fuel : Nat) (x : DataW H × List MemPlace), DataW.trod enc P w base spare held fuel f.type ((cs.drop f.offset).take (P.cellsOf f.type)) = some x) →
    ∃ is, DecL L is ∧ Shown w A is ((cs.drop off).take L.length)
  | [], off, L, cs, h, _ => by
    simp only [shFields, Option.some.injEq] at h
    subst h
    exact ⟨[], .nil, rfl, fun i x v hi => by simp at hi⟩
  | f :: fs, off, L, cs, h, hf => by
    simp only [shFields, Option.bind_eq_some_iff] at h
    obtain ⟨L1, h1, h2⟩ := h
    split at h2
    · rename_i hb
      simp only [Bool.and_eq_true] at hb
      have b1 := Nat.eq_of_beq_eq_true hb.1
      have b2 := Nat.eq_of_beq_eq_true hb.2
      rw [Option.map_eq_some_iff] at h2
      obtain ⟨L2, h2, rfl⟩ := h2
      obtain ⟨fuel, x, hx⟩ := hf f (by simp)
      obtain ⟨i1, g1, g2⟩ := hg _ _ _ _ _ h1 hx
      obtain ⟨i2, g3, g4⟩ := reads_fields hg fs _ L2 cs h2 fun f' hf' => hf f' (by simp [hf'])
      refine ⟨i1 ++ i2, g1.append g3, ?_⟩
      rw [b1, b2] at g2
      have e : (cs.drop off).take (L1 ++ L2).length = (cs.drop off).take L1.length ++ (cs.drop (off + L1.length)).take L2.length := by
        rw [List.length_append, List.take_add, List.drop_drop]
      rw [e]
      exact g2.append g4
    · cases h2

theorem reads_rep {g : TypeId → Option (List Sh)} (hg : Reads enc P w base spare held A g) {e : TypeId} {L : List Sh} (hL : g e = some L) : ∀ (m off : Nat) (cs : List Value),
    (∀ i, i < m → ∃ (fuel : Nat) (x : DataW H × List MemPlace), DataW.trod enc P w base spare held fuel e ((cs.drop (off + i * L.length)).take L.length) = some x) →
    ∃ is, DecL (shRep L m) is ∧ Shown w A is ((cs.drop off).take (shRep L m).length)
  | 0, off, cs, _ => ⟨[], .nil, rfl, fun i x v hi => by simp at hi⟩
  | m + 1, off, cs, hf => by
    obtain ⟨fuel, x, hx⟩ := hf 0 (by omega)
    rw [Nat.zero_mul, Nat.add_zero] at hx
    obtain ⟨i1, g1, g2⟩ := hg _ _ _ _ _ hL hx
    obtain ⟨i2, g3, g4⟩ := reads_rep hg hL m (off + L.length) cs fun i hi => by
      have := hf (i + 1) (by omega)
      rwa [show off + (i + 1) * L.length = off + L.length + i * L.length by rw [Nat.add_mul]; omega] at this
    refine ⟨i1 ++ i2, g1.append g3, ?_⟩
    have e : (cs.drop off).take (shRep L (m + 1)).length = (cs.drop off).take L.length ++ (cs.drop (off + L.length)).take (shRep L m).length := by
      rw [shRep, List.length_append, List.take_add, List.drop_drop]
    rw [e]
    exact g2.append g4

theorem reads_shapes (hA : ∀ b, A b) : ∀ n : Nat, Reads enc P w base spare held A (shapes P n)
  | 0 => fun t L fuel cs x h => by simp [shapes] at h
  | n + 1 => fun t L fuel cs x h hx => by
    have ih := reads_shapes hA n
    unfold shapes at h
    split at h
    · rename_i ht
      cases h
      obtain ⟨b, rfl, _⟩ := DataW.trod_bool ht hx
      exact ⟨[.val (.bool b)], .bool .nil, .one (.val rfl)⟩
    · rename_i ht
      cases h
      obtain ⟨m, rfl, _, hw⟩ := DataW.trod_int ht hx
      have hb : -9223372036854775808 ≤ m ∧ m ≤ 9223372036854775807 := by
        simp only [Lit.wf, Bool.and_eq_true, decide_eq_true_eq] at hw
        simpa [IntKind.min, IntKind.max, IntKind.signed, IntKind.bits] using hw
      exact ⟨[.val (.int .i64 m)], .int hb.1 hb.2 .nil, .one (.val rfl)⟩
    · rename_i e ht
      rw [Option.bind_eq_some_iff] at h
      obtain ⟨L0, h0, h⟩ := h
      split at h
      · rename_i hb
        have hb := Nat.eq_of_beq_eq_true hb
        cases h
        rcases DataW.trod_slice ht hx with ⟨rfl, _⟩ | ⟨a, len, cap, elems, rest, m, _, rfl, _, hbase, hl, hm, hlen, hel, _, _⟩
        · exact ⟨[.sl L0.length []], .sl (fun e he => by simp at he) .nil, .one .slNil⟩
        · obtain ⟨es, e1, e2⟩ := ex_list (p := fun j is => DecL L0 is ∧ ∃ cs, (∀ o, o < L0.length → w.cell? (a.add (j * L0.length + o)) = cs[o]?) ∧ Shown w A is cs) len fun j hj => by
            have hj' := hel j hj
            rw [List.getElem?_eq_getElem (by omega), Option.bind_eq_some_iff] at hj'
            obtain ⟨cs, hcs, hy⟩ := hj'
            obtain ⟨_, c1, c2⟩ := World.cells?_some hcs
            obtain ⟨is, d1, d2⟩ := ih _ _ _ _ _ h0 hy
            refine ⟨is, d1, cs, fun o ho => ?_, d2⟩
            rw [← Addr.add_add, ← hb]
            exact c2 o (by rw [hb]; exact ho)
          refine ⟨[.sl L0.length es], .sl (fun e he => ?_) .nil, .one ?_⟩
          · obtain ⟨i, hi⟩ := List.getElem?_of_mem he
            exact (e2 i e hi).1
          · subst e1
            have cell : ∀ (j : Nat) (e : List I) (o : Nat) (x : I), es[j]? = some e → e[o]? = some x → ∃ u, w.cell? (a.add (j * L0.length + o)) = some u ∧ RelI w A x u := fun j e o x hj ho => by
              obtain ⟨d1, cs, c1, c2⟩ := e2 j e hj
              have ho' := (List.getElem?_eq_some_iff.1 ho).1
              rw [d1.length] at ho'
              have hcs : o < cs.length := by rw [← c2.1, d1.length]; exact ho'
              refine ⟨cs[o], by rw [c1 o ho']; simp [hcs], c2.2 o x _ ho (by simp [hcs])⟩
            refine .sl (fun j o => (w.cell? (a.add (j * L0.length + o))).getD undef) hl hm (fun j e hj => (e2 j e hj).1.length) (fun j e o x hj ho => ?_) (fun j e o x hj ho => ?_)
            · obtain ⟨u, hu, _⟩ := cell j e o x hj ho
              rw [hu]; exact ⟨hA _, rfl⟩
            · obtain ⟨u, hu, hr⟩ := cell j e o x hj ho
              rw [hu]; exact hr
      · cases h
    · rename_i fs ht
      rw [Option.bind_eq_some_iff] at h
      obtain ⟨L0, h0, h⟩ := h
      split at h
      · rename_i hb
        have hb := Nat.eq_of_beq_eq_true hb
        cases h
        obtain ⟨xs, m, _, _, hlen, hxs, hf⟩ := DataW.trod_struct ht hx
        obtain ⟨is, d1, d2⟩ := reads_fields (H := H) (base := base) (spare := spare) (held := held) (A := A) ih fs.toList 0 L cs h0 fun f hf' => by
          obtain ⟨i, hi⟩ := List.getElem?_of_mem hf'
          have hi' : fs[i]? = some f := by simpa using hi
          have hl : i < xs.length := by
            rw [hxs]
            exact (Array.getElem?_eq_some_iff.1 hi').1
          exact ⟨m, xs[i], by rw [hf i f hi']; simp [hl]⟩
        rw [List.drop_zero, List.take_of_length_le (by omega)] at d2
        exact ⟨is, d1, d2⟩
      · cases h
    · rename_i m e ht
      rw [Option.bind_eq_some_iff] at h
      obtain ⟨L0, h0, h⟩ := h
      split at h
      · rename_i hb
        simp only [Bool.and_eq_true] at hb
        have b1 := Nat.eq_of_beq_eq_true hb.1
        have b2 := Nat.eq_of_beq_eq_true hb.2
        cases h
        obtain ⟨xs, q, _, _, hlen, hxs, hf⟩ := Go.DataW.trod_array ht hx
        obtain ⟨is, d1, d2⟩ := reads_rep (H := H) (base := base) (spare := spare) (held := held) (A := A) ih h0 m 0 cs fun i hi => by
          have := hf i hi
          rw [b1] at this
          refine ⟨q, xs[i]'(by omega), ?_⟩
          rw [Nat.zero_add, this]
          simp [hxs, hi]
        rw [List.drop_zero, List.take_of_length_le (by omega)] at d2
        exact ⟨is, d1, d2⟩
      · cases h
    · cases h


/-- The tree of a value of type t whose cells show 'is'. -/
def treeOf (P : Program) (t : TypeId) (is : List I) : T := match P.underlying t with
  | some (.struct _) => .agg (is.map .imm)
  | some (.array _ _) => .agg (is.map .imm)
  | _ => match is with
    | x :: _ => .c (.imm x)
    | [] => .undef

/-- The trees that an argument of type t may be. -/
def ArgT (P : Program) (t : TypeId) (x : T) : Prop := ∃ L is, shapes P 9 t = some L ∧ DecL L is ∧ x = treeOf P t is

theorem relT_agg {φ : Phi} {σ : Store} {is : List I} {cs : Array Value} (h : Shown w A is cs.toList) : RelT w φ σ A (.agg (is.map .imm)) (.agg cs) := by
  have e : cs = ((List.range (is.map C.imm).length).map fun i => (cs.toList[i]?).getD undef).toArray := by
    apply Array.ext'
    simp only []
    rw [List.length_map, h.1]
    apply List.ext_getElem?
    intro i
    rw [List.getElem?_map]
    rcases Nat.lt_or_ge i cs.toList.length with hl | hl
    · rw [List.getElem?_range hl, Option.map_some, List.getElem?_eq_getElem hl]; rfl
    · rw [List.getElem?_eq_none hl, List.getElem?_eq_none (by simpa using hl)]; rfl
  rw [e]
  refine .agg _ fun i c hc => ?_
  rw [List.getElem?_map, Option.map_eq_some_iff] at hc
  obtain ⟨x, hx, rfl⟩ := hc
  have hl : i < cs.toList.length := by rw [← h.1]; exact (List.getElem?_eq_some_iff.1 hx).1
  rw [List.getElem?_eq_getElem hl]
  exact .imm (h.2 i x _ hx (List.getElem?_eq_getElem hl))

/-- An argument, as a tree. -/
theorem argT {φ : Phi} {σ : Store} (hA : ∀ b, A b) {r : Reach} {b0 : Nat} {t : TypeId} {v : Value} {d : DataW H} {ps : List MemPlace} (hs : (shapes P 9 t).isSome = true) (hok : Value.okWide P w r b0 t v) (hd : DataW.Trod enc P w base spare held t v d ps) :
    ∃ x, ArgT P t x ∧ RelT w φ σ A x v := by
  obtain ⟨L, hL⟩ := Option.isSome_iff_exists.1 hs
  obtain ⟨fuel, hf⟩ := hd
  obtain ⟨is, d1, d2⟩ := reads_shapes hA 9 t L fuel _ _ hL hf
  refine ⟨treeOf P t is, ⟨L, is, hL, d1, rfl⟩, ?_⟩
  have hL0 := hL
  unfold shapes at hL
  split at hL
  · rename_i ht
    obtain ⟨b, rfl⟩ := okWide_bool ht hok
    cases hL
    have hlen := d1.length
    match is, hlen with
    | [x], _ =>
      have : treeOf P t [x] = .c (.imm x) := by simp [treeOf, ht]
      rw [this]
      exact .c (.imm (d2.2 0 x _ rfl rfl))
  · rename_i ht
    obtain ⟨b, rfl⟩ := okWide_int ht hok
    cases hL
    have hlen := d1.length
    match is, hlen with
    | [x], _ =>
      have : treeOf P t [x] = .c (.imm x) := by simp [treeOf, ht]
      rw [this]
      exact .c (.imm (d2.2 0 x _ rfl rfl))
  · rename_i e ht
    obtain ⟨a, len, cap, rfl⟩ := okWide_slice ht hok
    rw [Option.bind_eq_some_iff] at hL
    obtain ⟨L0, _, hL⟩ := hL
    split at hL
    · cases hL
      have hlen := d1.length
      match is, hlen with
      | [x], _ =>
        have : treeOf P t [x] = .c (.imm x) := by simp [treeOf, ht]
        rw [this]
        exact .c (.imm (d2.2 0 x _ rfl rfl))
    · cases hL
  · rename_i fs ht
    obtain ⟨cs, rfl, _⟩ := okWide_struct ht hok
    have : treeOf P t is = .agg (is.map .imm) := by simp [treeOf, ht]
    rw [this]
    exact relT_agg d2
  · rename_i m e ht
    have : ∃ cs, v = .agg cs := by
      simp only [Value.okWide, ht] at hok
      obtain ⟨cs, h1, _⟩ := hok
      exact ⟨cs, h1⟩
    obtain ⟨cs, rfl⟩ := this
    have : treeOf P t is = .agg (is.map .imm) := by simp [treeOf, ht]
    rw [this]
    exact relT_agg d2
  · cases hL

def ArgsT (P : Program) : List TypeId → List T → Prop
  | [], [] => True
  | t :: ts, x :: xs => ArgT P t x ∧ ArgsT P ts xs
  | _, _ => False

/-- All arguments, as trees. -/
theorem argsT {φ : Phi} {σ : Store} (hA : ∀ b, A b) {r : Reach} {b0 : Nat} : ∀ {ts : List TypeId} {vs : List Value} {ds : List (DataW H)} {ps : List MemPlace}, (∀ t ∈ ts, (shapes P 9 t).isSome = true) →
    (∀ (j : Nat) t v, ts[j]? = some t → vs[j]? = some v → Value.okWide P w r b0 t v) → DataW.TrodAll enc P w base spare held ts vs ds ps →
    ∃ xs : List T, ArgsT P ts xs ∧ xs.length = vs.length ∧ ∀ (i : Nat) (x : T) (u : Value), xs[i]? = some x → vs[i]? = some u → RelT w φ σ A x u
  | [], [], [], _, _, _, _ => ⟨[], trivial, rfl, fun i x u h => by simp at h⟩
  | t :: ts, v :: vs, d :: ds, ps, hs, hok, h => by
    obtain ⟨p, q, h1, h2, _⟩ := h
    obtain ⟨x, x1, x2⟩ := argT (φ := φ) (σ := σ) hA (hs t (by simp)) (hok 0 t v rfl rfl) h1
    obtain ⟨xs, y1, y2, y3⟩ := argsT (φ := φ) (σ := σ) hA (fun t' ht => hs t' (by simp [ht])) (fun j t' v' h1 h2 => hok (j + 1) t' v' (by simpa using h1) (by simpa using h2)) h2
    refine ⟨x :: xs, ⟨x1, y1⟩, by simp [y2], fun i y u hi hu => ?_⟩
    match i with
    | 0 => cases hi; cases hu; exact x2
    | i + 1 => exact y3 i y u (by simpa using hi) (by simpa using hu)
  | [], [], _ :: _, _, _, _, h => h.elim
  | [], _ :: _, _, _, _, _, h => by cases h
  | _ :: _, [], _, _, _, _, h => by cases h
  | _ :: _, _ :: _, [], _, _, _, h => h.elim

theorem good_all (W : World) : Good ⟨W, fun _ => False, fun _ => none, []⟩ :=
  ⟨⟨fun i b h => by simp at h, fun i j bi bj p q h => by simp at h⟩, fun b h => h.elim, fun i blk b base h => by simp at h⟩

theorem al_all (φ : Phi) (b : Nat) : Al (fun _ => False) φ [] b := ⟨id, fun i blk base h => by simp at h⟩


/-- A call of a law: it answers true, and leaves all as it was. -/
theorem law_calls {f : FuncId} {ts : List T} {vs : List Value} (hf : FnOk P f ts [] fun r _ => r = .c (bool true)) (hl : ts.length = vs.length)
    (hr : ∀ (i : Nat) (x : T) (u : Value), ts[i]? = some x → vs[i]? = some u → RelT w (fun _ => none) [] (Al (fun _ => False) (fun _ => none) []) x u) :
    Calls P f vs.toArray w fun e W' => e = .returned (.bool true) ∧ Below w.heap.size w W' :=
  (hf.run ⟨w, fun _ => False, fun _ => none, []⟩ vs rfl (good_all w) hl hr).mono fun e W' ⟨v, r, σ', φ', he, hq, hv, hs⟩ => by
    subst hq
    cases hv with | c hv => cases hv with | imm hv => cases hv with | val hv =>
      exact ⟨he, hs.os, hs.tape, hs.output, hs.size, fun k hk => hs.block k ⟨hk, fun i blk base h => by simp at h⟩⟩

theorem stays_all (hl : laidOutB P = true) {W W' : World} (hb : Below W.heap.size W W') {sp' : Nat → Bool} : ∀ {ts : List TypeId} {vs : List Value} {ds : List (DataW H)} {ps : List MemPlace}, (∀ t ∈ ts, P.readableRec t = true ∧ t < P.types.size) →
    DataW.TrodAll enc P W 0 (fun _ => true) true ts vs ds ps → (∀ p ∈ ps, p.block < W.heap.size) → (∀ p ∈ ps, sp' p.block = true) → DataW.TrodAll enc P W' 0 sp' true ts vs ds ps
  | [], [], [], _, _, h, _, _ => h
  | t :: ts, v :: vs, d :: ds, ps, ht, h, h1, h2 => by
    obtain ⟨p, q, g1, g2, rfl⟩ := h
    exact ⟨p, q, WideElems.Trod_stays hl (ht t (by simp)).1 (ht t (by simp)).2 g1 (fun x hx => hb.same (h1 x (by simp [hx]))) (fun x hx => h2 x (by simp [hx])),
      stays_all hl hb (fun t' ht' => ht t' (by simp [ht'])) g2 (fun x hx => h1 x (by simp [hx])) (fun x hx => h2 x (by simp [hx])), rfl⟩
  | [], [], _ :: _, _, _, h, _, _ => h.elim
  | [], _ :: _, _, _, _, h, _, _ => by cases h
  | _ :: _, [], _, _, _, h, _, _ => by cases h
  | _ :: _, _ :: _, [], _, _, h, _, _ => h.elim

theorem trodAll_len : ∀ {ts : List TypeId} {vs : List Value} {ds : List (DataW H)} {ps : List MemPlace}, DataW.TrodAll enc P w base spare held ts vs ds ps → ds.length = ts.length
  | [], [], [], _, _ => rfl
  | _ :: _, _ :: _, _ :: _, _, ⟨_, _, _, h, _⟩ => by simp [trodAll_len h]
  | [], [], _ :: _, _, h => h.elim
  | [], _ :: _, _, _, h => by cases h
  | _ :: _, [], _, _, h => by cases h
  | _ :: _, _ :: _, [], _, h => h.elim

/-- THE CONTRACT of a row whose law answers true at whatever comes in, and whose arguments read behind the call as before. -/
theorem law_contract {f : FuncId} {fn : Func} {s : ChangeSpec} {tb : TypeId} {apart fresh handsOn again : Bool} (hlo : laidOutB P = true) (hp : ∀ t ∈ fn.params.toList, (P.readableRec t = true ∧ t < P.types.size) ∧ (shapes P 9 t).isSome = true) (hv : s.vars = []) (hr : fn.resultTypes = #[tb]) (hb : P.underlying tb = some .bool)
    (hs : ∀ ds : List (DataW H), ds.length = fn.params.toList.length → s.fn H (ds ++ []) = { results := [.lit (.bool true)], args := ds })
    (hlaw : ∀ xs : List T, ArgsT P fn.params.toList xs → FnOk P f xs [] fun r _ => r = .c (bool true))
    {W : World} {base : Nat} {args : Array Value} {ds gs : List (DataW H)} {before : List MemPlace} (hval : ∀ (j : Nat) t v, fn.params[j]? = some t → args[j]? = some v → Value.okWide P W .any base t v) (hW : DataW.Whole enc P fn.params.toList s.vars apart W args.toList ds gs before) :
    Calls P f args W fun e W' => ∃ v, e = .returned v ∧ s.post enc P fn apart fresh handsOn again W args v W' := by
  obtain ⟨p, q, hA, hV, rfl, hfz, hnd⟩ := id hW
  rw [hv] at hV
  obtain ⟨rfl, rfl⟩ := trodVars_none hV
  obtain ⟨xs, x1, x2, x3⟩ := argsT (φ := fun _ => none) (σ := []) (al_all fun _ => none) (fun t ht => (hp t ht).2) (fun j t v h1 h2 => hval j t v (by simpa using h1) (by simpa using h2)) hA
  refine (law_calls (hlaw xs x1) x2 x3).mono fun e W' ⟨he, hbe⟩ => ⟨_, he, ?_⟩
  have hlt : ∀ x ∈ p ++ [], x.block < W.heap.size := fun x hx => hW.lt x hx
  have hS := hs ds (trodAll_len hA)
  have hres : ∀ (b : Nat) (sp : Nat → Bool) (hd : Bool), DataW.TrodAll enc P W' b sp hd fn.resultTypes.toList ((Value.bool true).resultList fn.resultTypes.size) (s.fn H (ds ++ [])).results [] := fun b sp hd => by
    rw [hS, hr]
    exact trodAll_mk1 (shut_bool hb true)
  have hargs : ∀ sp : Nat → Bool, (∀ x ∈ p ++ [], sp x.block = true) → DataW.TrodAll enc P W' 0 sp true fn.params.toList args.toList (s.fn H (ds ++ [])).args p := fun sp hsp => by
    rw [hS]
    exact stays_all hlo hbe (fun t ht => (hp t ht).1) hA (fun x hx => hlt x (by simp [hx])) (fun x hx => hsp x (by simp [hx]))
  have hvars : ∀ sp : Nat → Bool, DataW.TrodVars enc P W' sp s.vars (s.fn H (ds ++ [])).vars [] := fun sp => by
    rw [hS, hv]; rfl
  have hold : ∀ x ∈ p ++ [], (fun b => decide (b < W.heap.size)) x.block = true := fun x hx => by simpa using hlt x hx
  refine ⟨ds, [], p ++ [], [], p, [], hW, hres _ _ _, hargs _ hold, hvars _, World.keptBut_mono (fun x hx => ⟨hx, ?_⟩) (hbe.frame (· ∈ p ++ [])), fun _ => ?_⟩
  · simpa using hx
  · refine ⟨ok_one hr rfl (okWide_bool_mk hb true), _, _, ([] ++ p) ++ [], ⟨[] ++ p, [], trodAll_append (hargs _ (fun _ _ => rfl)) (hres _ _ _), hvars _, rfl, ?_, ?_⟩, ?_⟩
    · intro b off hx
      have hin : MemPlace.cell b off ∈ p ++ [] := by simpa using hx
      rw [hbe.frozen (hlt _ hin)]
      exact hfz b off hin
    · intro ha
      simpa using hnd ha
    · intro x hx _
      simpa using hx

end
end Ab
