/-
  CONTRACTS of the library's Sort and Compact at []int, turned into contracts over a store: Sort rewrites the argument's block, Compact gives it a new number.
-/
import Derived.Test.YtfjbddjoagefkaaSh6
import Derived.Sort.Grow
import Derived.Shelf.Slices.CompactI
namespace Ab
open Go Go.Sort

theorem Rs.refl {Γ : Cx} (h : Good Γ) : Rs Γ Γ.σ0 Γ.φ0 Γ.w0 where
  good := h
  st := h.st
  keep i blk b base hi hp hK := hK.2 i blk base hi hp
  os := rfl
  tape := rfl
  output := rfl
  size := Nat.le_refl _
  block _ _ := rfl
  kept := Kept.refl _ _ _ _

theorem Kept.ahead (w : World) (n : Nat) (φ : Phi) (σ : Store) (A : Nat → Prop) : Kept w (Go.Sort.ahead w n) φ φ σ σ A A :=
  ⟨fun _ _ _ => rfl, fun _ h _ => h, Nat.le_refl _, fun _ _ es _ h => ⟨es, h, rfl, rfl, fun _ _ arr _ _ h2 => ⟨arr, h2, rfl⟩⟩, fun _ p _ h => ⟨rfl, p, h⟩⟩
theorem Rs.ahead {Γ : Cx} {σ : Store} {φ : Phi} {w : World} (h : Rs Γ σ φ w) (n : Nat) : Rs Γ σ φ (Go.Sort.ahead w n) :=
  { good := h.good, st := ⟨fun i b hi => (h.st.blk i b hi).mono (Kept.ahead w n φ σ _) (fun _ _ _ => rfl), h.st.inj⟩,
    keep := h.keep, os := h.os, tape := h.tape, output := h.output, size := h.size, block := h.block,
    kept := Kept.trans h.size h.kept (Kept.ahead w n φ σ _) }

theorem Kept.grow (w : World) (os : Array Obj) (φ : Phi) (σ : Store) (A : Nat → Prop) : Kept w (Go.Sort.grow w os) φ φ σ σ A A :=
  ⟨fun _ _ hl => heap_grow_old w os hl, fun _ h _ => h, Nat.le_refl _, fun _ _ es _ h => ⟨es, h, rfl, rfl, fun _ _ arr _ _ h2 => ⟨arr, (heap_grow_old w os (Array.getElem?_eq_some_iff.1 h2).1).trans h2, rfl⟩⟩, fun _ p _ h => ⟨rfl, p, h⟩⟩
theorem Rs.blk_lt {Γ : Cx} {σ : Store} {φ : Phi} {w : World} (h : Rs Γ σ φ w) {i : Id} {blk : Blk} {b base : Nat} (hi : σ[i]? = some (some blk)) (hp : φ i = some (b, base)) : b < w.heap.size := Al.own_lt h.st hi hp
theorem Rs.grow {Γ : Cx} {σ : Store} {φ : Phi} {w : World} (h : Rs Γ σ φ w) (os : Array Obj) : Rs Γ σ φ (Go.Sort.grow w os) :=
  { good := h.good, st := ⟨fun i b hi => (h.st.blk i b hi).mono (Kept.grow w os φ σ _) (fun g base hp => heap_grow_old w os (h.blk_lt hi hp)), h.st.inj⟩,
    keep := h.keep, os := h.os, tape := h.tape, output := h.output, size := Nat.le_trans h.size (by simp), block := fun b hK => (heap_grow_old w os (Nat.lt_of_lt_of_le hK.1 h.size)).trans (h.block b hK),
    kept := Kept.trans h.size h.kept (Kept.grow w os φ σ _) }

theorem putRow_setRow {w : World} {b off : Nat} {arr : Array Value} {ety : TypeId} {fr : Nat × Nat} {d : Array Int} (hb : w.heap[b]? = some (.cells arr ety fr)) :
    putRow (Value.int .i64) w b off d = w.setRow b (putCells (Value.int .i64) off d arr) := by
  unfold putRow mapBlock World.setRow
  congr 1
  apply Array.ext_getElem?
  intro k
  simp only [Array.getElem?_modify]
  by_cases hk : b = k
  · subst hk; simp only [if_true, hb, Option.map_some, onCells]
  · simp [hk]
theorem setRow_self {w : World} {b : Nat} {arr : Array Value} {ety : TypeId} {fr : Nat × Nat} (hb : w.heap[b]? = some (.cells arr ety fr)) : w.setRow b arr = w := by
  have key : ∀ h : Array Obj, h = w.heap → ({ w with heap := h } : World) = w := by rintro _ rfl; rfl
  refine key _ ?_
  apply Array.ext_getElem?
  intro k
  simp only [Array.getElem?_modify]
  by_cases hk : b = k
  · subst hk; simp only [if_true, hb, Option.map_some]
  · simp [hk]

theorem putCells_size {off : Nat} {d : Array Int} {arr : Array Value} : (putCells (Value.int .i64) off d arr).size = arr.size := by simp [putCells]
theorem putCells_get {off : Nat} {d : List Int} {arr : Array Value} (h : off + d.length ≤ arr.size) {j : Nat} {x : Int} (hj : d[j]? = some x) : (putCells (Value.int .i64) off d.toArray arr)[off + j]? = some (.int .i64 x) := by
  have hjl := (List.getElem?_eq_some_iff.1 hj).1
  have hx := (List.getElem?_eq_some_iff.1 hj).2
  simp only [putCells, Array.getElem?_mapIdx]
  rw [Array.getElem?_eq_getElem (by omega)]
  simp only [Option.map_some, List.size_toArray]
  rw [if_pos (by omega)]
  simp [hjl, hx]

theorem int_cells {w : World} {φ : Phi} {σ : Store} {A : Nat → Prop} {l : List Int} {base : Nat} {arr : Array Value}
    (hc : ∀ (j : Nat) (e : List C) (o : Nat) (x : C), ((l.map intI).map (·.map C.imm))[j]? = some e → e[o]? = some x → ∃ u, arr[base + (j * 1 + o)]? = some u ∧ RelC w φ σ A x u) {j : Nat} {x : Int} (hj : l[j]? = some x) : arr[base + j]? = some (.int .i64 x) := by
  obtain ⟨u, hu, hr⟩ := hc j _ 0 (.imm (.val (.int .i64 x))) (by simp [hj]; rfl) rfl
  cases hr with | imm hr => cases hr; simpa using hu
theorem holds_of {w : World} {l : List Int} {b base : Nat} {arr : Array Value} {ety : TypeId} (hb : w.heap[b]? = some (.cells arr ety (0, 0))) (hc : ∀ (j : Nat) (x : Int), l[j]? = some x → arr[base + j]? = some (.int .i64 x)) : Holds (Value.int .i64) w b base l.toArray := by
  intro j hj
  have hjl : j < l.length := by simpa using hj
  refine ⟨?_, by simp [World.frozen?, hb]⟩
  rw [World.cell?]
  simp only [hb]
  rw [hc j l[j] (List.getElem?_eq_getElem hjl)]
  simp [hjl]

theorem vec_len {l : List Int} : ((l.map intI).map (·.map C.imm)).length = l.length := by simp
theorem vec_hk {l : List Int} {j : Nat} {e : List C} (h : ((l.map intI).map (·.map C.imm))[j]? = some e) : e.length = 1 := by
  simp only [List.map_map, List.getElem?_map, Option.map_eq_some_iff] at h
  obtain ⟨a, _, rfl⟩ := h; rfl
theorem vec_hc {w : World} {φ : Phi} {σ : Store} {A : Nat → Prop} {l : List Int} {base : Nat} {arr : Array Value} (h : ∀ (j : Nat) (x : Int), l[j]? = some x → arr[base + j]? = some (.int .i64 x)) (j : Nat) (e : List C) (o : Nat) (x : C) (he : ((l.map intI).map (·.map C.imm))[j]? = some e) (hx : e[o]? = some x) :
    ∃ u, arr[base + (j * 1 + o)]? = some u ∧ RelC w φ σ A x u := by
  simp only [List.map_map, List.getElem?_map, Option.map_eq_some_iff] at he
  obtain ⟨a, ha, rfl⟩ := he
  match o with
  | 0 =>
    cases hx
    exact ⟨_, by simpa using h j a ha, .imm (.val rfl)⟩
  | o + 1 => simp at hx

abbrev srt (l : List Int) : List Int := l.mergeSort fun x y => decide (x ≤ y)
def fnFacts (P : Program) (f : FuncId) : Prop := ∃ fn, P.funcs[f]? = some fn ∧ (fn.name == "runtime.NumGoroutine") = false ∧ fn.body.isNone = false

theorem sort_fn {P : Program} {f : FuncId} (hf : fnFacts P f)
    (hC : ∀ (blk off cap : Nat) (zs : List Int) (w : World), Holds (Value.int .i64) w blk off zs.toArray → blk < w.heap.size → zs.length < 4611686018427387904 → Calls P f #[.slice (some ⟨blk, off, none⟩) zs.length cap] w fun e w' => e = .returned (.tuple #[]) ∧ ∃ n os, w' = Go.Sort.grow (putRow (Value.int .i64) (Go.Sort.ahead w n) blk off (srt zs).toArray) os)
    (hC0 : ∀ (p : Option Addr) (cap : Nat) (w : World), Calls P f #[.slice p 0 cap] w fun e w' => e = .returned (.tuple #[]) ∧ w' = w)
    {σ : Store} {id : Id} {l : List Int} (hσ : σ[id]? = some (some (vec 1 intI l))) (hl : l.length < 4611686018427387904) :
    FnOk P f [.c (.own id 0 l.length)] σ fun r σ' => r = .tup [] ∧ σ'.length = σ.length ∧ ∀ i : Id, σ'[i]? = (σ.put id (some (vec 1 intI (srt l))))[i]? := by
  refine ⟨hf, fun Γ vs hΓ hG hlen hrel => ?_⟩
  subst hΓ
  match vs, hlen with
  | [u], _ =>
  have hu := own_inv (hrel 0 _ u rfl rfl) hσ
  have tupR : ∀ {w φ σ A}, RelT w φ σ A (.tup []) (.tuple #[]) := fun {w φ σ A} => RelT.tup (ts := []) (fun _ => undef) fun i t h => by simp at h
  rw [vec_len] at hu
  have empty : ∀ (p : Option Addr) (cap : Nat), l = [] → Calls P f #[.slice p 0 cap] Γ.w0 fun e w' => ∃ v r σ' φ', e = .returned v ∧ (r = .tup [] ∧ σ'.length = Γ.σ0.length ∧ ∀ i : Id, σ'[i]? = (Γ.σ0.put id (some (vec 1 intI (srt l))))[i]?) ∧ RelT w' φ' σ' (Al Γ.N φ' σ') r v ∧ Rs Γ σ' φ' w' := fun p cap he => by
    refine (hC0 p cap Γ.w0).mono ?_
    rintro e w' ⟨rfl, rfl⟩
    refine ⟨_, .tup [], Γ.σ0, Γ.φ0, rfl, ⟨rfl, rfl, fun i => ?_⟩, tupR, Rs.refl hG⟩
    have : srt l = l := by rw [he]; simp [srt]
    rw [this]
    by_cases hi : i = id
    · rw [hi, Store.get_put_eq hσ, hσ]
    · rw [Store.get_put_ne hi]
  rcases hu with ⟨_, hv, _, h0⟩ | ⟨b, base, cap, arr, ety, a, hp, hv, ha, hcap, hmax, hjn, hbk, hsz⟩
  · have he : l = [] := List.eq_nil_of_length_eq_zero (by omega)
    rw [hv]
    exact empty none 0 he
  · rw [hv]
    by_cases hc0 : 0 < cap
    · have := ha hc0
      subst this
      simp only [Nat.zero_mul, Nat.add_zero]
      have hR := Rs.refl hG
      rcases hR.st.blk _ _ hσ with ⟨h1, _⟩ | ⟨b', base', arr2, ety2, h1, h2, h3, h4, h5⟩
      · rw [hp] at h1; cases h1
      · rw [hp] at h1; cases h1
        rw [hbk] at h2; cases h2
        rw [vec_len] at h3
        have hcell : ∀ (j : Nat) (x : Int), l[j]? = some x → arr[base + j]? = some (.int .i64 x) := fun j x hj => int_cells h5 hj
        have hls : (srt l).length = l.length := by simp [srt]
        refine (hC b base cap l Γ.w0 (holds_of hbk hcell) (Array.getElem?_eq_some_iff.1 hbk).1 hl).mono ?_
        rintro e w' ⟨rfl, n, os, rfl⟩
        have hW := Rs.write (k := 1) (es' := ((srt l).map intI).map (·.map C.imm)) (arr' := putCells (Value.int .i64) base (srt l).toArray arr) hR hσ hp hbk (by rw [vec_len, vec_len, hls]) putCells_size (fun j e he => vec_hk he) (by rw [vec_len]; omega)
          (vec_hc fun j x hj => putCells_get (by omega) hj)
        rw [putRow_ahead, putRow_setRow hbk]
        refine ⟨_, .tup [], _, Γ.φ0, rfl, ⟨rfl, ?_, fun i => rfl⟩, tupR, (hW.2.ahead n).grow os⟩
        rw [Store.length_put]
    · have he : l = [] := List.eq_nil_of_length_eq_zero (by omega)
      have hl0 : l.length = 0 := by rw [he]; rfl
      rw [hl0]
      exact empty (some a) cap he

theorem compact_len_le (l : List Int) : (Go.Lib.compact l).length ≤ l.length := by
  unfold Go.Lib.compact Go.Lib.compactUpTo
  rw [List.length_map]
  exact Nat.le_trans (List.length_filter_le _ _) (by simp)

theorem compact_fn {P : Program} {f : FuncId} (hf : fnFacts P f)
    (hC : ∀ (blk off cap : Nat) (zs : List Int) (w : World), Holds (Value.int .i64) w blk off zs.toArray → zs.length ≤ 9223372036854775807 → zs.length ≤ cap → Calls P f #[.slice (some ⟨blk, off, none⟩) zs.length cap] w fun e w' => e = .returned (.slice (some ⟨blk, off, none⟩) (Go.Lib.compact zs).length cap) ∧ ∃ q, w' = putRow (Value.int .i64) (Go.Sort.ahead w q) blk off (Go.Lib.compact zs ++ List.replicate (zs.length - (Go.Lib.compact zs).length) 0).toArray)
    (hC0 : ∀ (a : Option Addr) (cap : Nat) (w : World), Calls P f #[.slice a 0 cap] w fun e w' => e = .returned (.slice a 0 cap) ∧ w' = w)
    {σ : Store} {id : Id} {l : List Int} (hσ : σ[id]? = some (some (vec 1 intI l))) :
    FnOk P f [.c (.own id 0 l.length)] σ fun r σ' => r = .c (.own (σ.length, []) 0 (Go.Lib.compact l).length) ∧ σ' = σ.put id none ++ [.one (vec 1 intI (Go.Lib.compact l))] := by
  refine ⟨hf, fun Γ vs hΓ hG hlen hrel => ?_⟩
  subst hΓ
  match vs, hlen with
  | [u], _ =>
  have hu := own_inv (hrel 0 _ u rfl rfl) hσ
  rw [vec_len] at hu
  have hR := Rs.refl hG
  have hidl := Store.lt_of hσ
  have cnil : Go.Lib.compact ([] : List Int) = [] := rfl
  have at_new : ∀ {m : List Int}, (Γ.σ0.put id none ++ [.one (vec 1 intI m)])[((Γ.σ0.length, []) : Id)]? = some (some (vec 1 intI m)) := fun {m} => by
    rw [Store.get_right (by simp)]; simp; rfl
  rcases hu with ⟨hp, hv, _, h0⟩ | ⟨b, base, cap, arr, ety, a, hp, hv, ha, hcap, hmax, hjn, hbk, hsz⟩
  · have he : l = [] := List.eq_nil_of_length_eq_zero (by omega)
    subst he
    rw [hv]
    refine (hC0 none 0 Γ.w0).mono ?_
    rintro e w' ⟨rfl, rfl⟩
    have hK := hR.kill id
    have hV := hK.2.virt 1
    refine ⟨_, _, _, fun i => if i = (Γ.σ0.length, []) then none else Γ.φ0 i, rfl, ⟨rfl, rfl⟩, ?_, ?_⟩
    rotate_left
    · have := hV.2
      rw [Store.length_put] at this
      exact this
    · refine .c (.own (by simp) rfl fun k es hes => .inl ⟨?_, rfl, rfl, rfl⟩)
      simp
  · rw [hv]
    rcases hR.st.blk _ _ hσ with ⟨h1, _⟩ | ⟨b', base', arr2, ety2, h1, h2, h3, h4, h5⟩
    · rw [hp] at h1; cases h1
    · rw [hp] at h1; cases h1
      rw [hbk] at h2; cases h2
      rw [vec_len] at h3
      have hcell : ∀ (j : Nat) (x : Int), l[j]? = some x → arr[base + j]? = some (.int .i64 x) := fun j x hj => int_cells h5 hj
      have hle := compact_len_le l
      by_cases hc0 : 0 < cap
      · have := ha hc0
        subst this
        simp only [Nat.zero_mul, Nat.add_zero]
        have hmx : l.length ≤ 9223372036854775807 := by simp only [maxLen] at hmax; omega
        refine (hC b base cap l Γ.w0 (holds_of hbk hcell) hmx hcap).mono ?_
        rintro e w' ⟨rfl, q, rfl⟩
        have hO := Rs.reown (k := 1) (base' := base) (es' := ((Go.Lib.compact l).map intI).map (·.map C.imm)) (arr' := putCells (Value.int .i64) base (Go.Lib.compact l ++ List.replicate (l.length - (Go.Lib.compact l).length) 0).toArray arr) hR hσ hp hbk (fun j e he => vec_hk he) (by rw [vec_len, putCells_size]; omega)
          (vec_hc fun j x hj => putCells_get (by simp; omega) (by rw [List.getElem?_append_left (List.getElem?_eq_some_iff.1 hj).1]; exact hj))
        rw [putRow_ahead, putRow_setRow hbk]
        refine ⟨_, _, _, _, rfl, ⟨rfl, rfl⟩, ?_, hO.2.ahead q⟩
        refine .c (.own (by simp) rfl fun k es hes => ?_)
        rw [at_new] at hes
        cases hes
        refine .inr ⟨b, base, cap, _, ety, ⟨b, base, none⟩, by simp, rfl, fun _ => by simp, by omega, hmax, by rw [vec_len]; omega, setRow_heap _ _ _ _ _ _ hbk, by rw [putCells_size]; omega⟩
      · have he : l = [] := List.eq_nil_of_length_eq_zero (by omega)
        subst he
        refine (hC0 (some a) cap Γ.w0).mono ?_
        rintro e w' ⟨rfl, rfl⟩
        have hO := Rs.reown (k := 1) (base' := base) (es' := []) (arr' := arr) hR hσ hp hbk (fun j e he => by simp at he) (by simp; omega) (fun j e o x he => by simp at he)
        rw [setRow_self hbk] at hO
        refine ⟨_, _, _, _, rfl, ⟨rfl, rfl⟩, ?_, hO.2⟩
        refine .c (.own (by simp) rfl fun k es hes => ?_)
        rw [at_new] at hes
        cases hes
        exact .inr ⟨b, base, cap, arr, ety, a, by simp, rfl, fun h => absurd h hc0, by omega, hmax, by simp [cnil], hbk, by omega⟩
end Ab
