/-
  Texts that the proof stands on.
-/
import Derived.Test.YthohgmigdbaedaaGreatDoorKRwRecOwn2
import Derived.WalkSmall
import Derived.Laws.Cover3
import Derived.Shelf.Small.Bits
import Derived.Shelf.Strconv.Itoa0
import Derived.Shelf.Strconv.Itoa1
import Derived.Shelf.LaysM
import Derived.Shelf.Strconv.Itoa2
import Derived.Shelf.Sort.Plain
import Derived.Shelf.Strconv.AppendUint10
import Derived.Shelf.Bits.Mul64
import Derived.Shelf.Slices.Reverse
import Derived.Shelf.Slices.Equal
import Derived.Ground.Names2Prog
import Derived.Shelf.Slices.Clone
import Derived.Shelf.Slices.SearchI
import Derived.Shelf.Slices.Cells
import Derived.Shelf.Slices.In.SortNone
import Derived.Shelf.Slices.Empties
import Derived.Shelf.Slices.Empties2
import Derived.Ground.SlgnProg
import Derived.Shelf.SlicesE.Reverse
import Derived.Shelf.SlicesE.Clone
import Derived.Ground.SlsfProg
import Derived.Shelf.SlSortCmp.Insertion
import Derived.Shelf.SlSortCmp.SiftDown1
import Derived.Shelf.SlSortCmp.HeapSort1
import Derived.Shelf.SlSortCmp.Insertion1
import Derived.Shelf.SlSortCmp.Median1
import Derived.Shelf.SlSortCmp.Pivot1
import Derived.Shelf.SlSortCmp.ReverseRange1
import Derived.Shelf.SlSortCmp.PartialInsertion1
import Derived.Shelf.SlSortCmp.PartitionEqual1
import Derived.Shelf.SlSortCmp.Partition1
import Derived.Shelf.SlSortCmp.Pdq1
import Derived.Shelf.SlSortCmp.NoneTotal
import Derived.Test.YthohgmigdbaedaaGreatDoorProg
set_option linter.all false
section
namespace Ab
open Go
def DatL:List C→List I→Prop
 | [],[]=>True
 | c::r,x::s=>(c=.imm x∨c=.imm (.val (.slice none 0 0))∧∃ k,x=.sl k [])∧DatL r s
 | _,_=>False
def DatLL:List (List C)→List (List I)→Prop
 | [],[]=>True
 | c::r,x::s=>DatL c x∧DatLL r s
 | _,_=>False
theorem DatL.get:∀ {l:List C} {m:List I},DatL l m→l.length=m.length∧∀ (i:Nat) (x:I),m[i]? =some x→∃ c,l[i]? =some c∧∀ {w:World} {φ:Phi} {σ:b8} {A:Nat→Prop} {u:Value},RelC w φ σ A c u→RelI w A x u
 | [],[],_=>⟨rfl,fun i x h=>by simp at h⟩
 | [],_::_,h=>h.elim
 | _::_,[],h=>h.elim
 | c::r,x::s,⟨h1,h2⟩=>by
  obtain ⟨g1,g2⟩:=DatL.get h2
  refine ⟨by simp [g1],fun i y hy=> ?_⟩
  cases i with
  | zero=>
   simp only [List.getElem?_cons_zero,Option.some.injEq] at hy
   subst hy
   refine ⟨c,rfl,fun {w φ σ A u} hr=> ?_⟩
   rcases h1 with rfl | ⟨rfl,k,rfl⟩
   ·cases hr with | imm h=>exact h
   ·cases hr with | imm h=>cases h with | val=>exact .slNil
  | succ i=>simpa using g2 i y (by simpa using hy)
theorem DatLL.get:∀ {l:List (List C)} {m:List (List I)},DatLL l m→l.length=m.length∧∀ (i:Nat) (x:List I),m[i]? =some x→∃ c,l[i]? =some c∧DatL c x
 | [],[],_=>⟨rfl,fun i x h=>by simp at h⟩
 | [],_::_,h=>h.elim
 | _::_,[],h=>h.elim
 | c::r,x::s,⟨h1,h2⟩=>by
  obtain ⟨g1,g2⟩:=DatLL.get h2
  refine ⟨by simp [g1],fun i y hy=> ?_⟩
  cases i with
  | zero=>simp only [List.getElem?_cons_zero,Option.some.injEq] at hy; subst hy; exact ⟨c,rfl,h1⟩
  | succ i=>simpa using g2 i y (by simpa using hy)
section
variable {P:Program} {σ0:b8} {sz:Nat} {Q:Post} {env env':Env} {σv σ':b8} {ops:Array Oper} {rest:List Oper} {dst:Option Nat} {ty:TypeId} {pos:String} {after:Array Edge}
theorem S.litD {α : Type} {f : α → List I} {l : List α} {t e : TypeId} {k bytes n : Nat} {z : Value} {zc : List C} {parts : List (Nat × Operand)} {ps : List (Nat × T)} {ess : List (List C)} [ht : TyD P t (.slice e)] [hs : TyS P e k bytes z] [hz : TyZ P e zc]
    (hl : Nat.beq zc.length k = true) (hkp : Nat.blt 0 k = true) (hn0 : Nat.blt 0 n = true) (hsm : Nat.ble (n * k) 16777216 = true) (hps : evP env parts = some ps) (hf : fillC (fun i => some (i * k, k)) (List.replicate n zc).flatten ps = some ess.flatten) (hlen : lens k ess = true) (hn : Nat.beq ess.length n = true)
    (hdat : DatLL ess (l.map f)) (hd : g8 sz dst = true)
    (h : AOps P σ0 sz ops Q rest (St.mk (putE env dst (.c (.imm (.sl k (l.map f))))) σv)) : AOps P σ0 sz ops Q (⟨dst, .buildSlice t n parts.toArray, ty, pos, after, none⟩ :: rest) (St.mk env σv) := by
  have hl' : zc.length = k := Nat.eq_of_beq_eq_true hl
  have hk0 : 0 < k := by simpa using hkp
  have hn1 : 0 < n := by simpa using hn0
  have hn' : ess.length = n := Nat.eq_of_beq_eq_true hn
  have hsm' : ¬ (16777216 < n * k) := by have : n * k ≤ 16777216 := Nat.le_of_ble_eq_true hsm
                                         omega
  have hle := lens_mem hlen
  obtain ⟨d1, d2⟩ := hdat.get
  refine AOps.valueW rfl hd (.c (.imm (.sl k (l.map f)))) σv (fun Γ φ a w hR => ?_) (by cases dst <;> exact h)
  obtain ⟨e1, e2⟩ := ak6 hR hps
  obtain ⟨size', bytes', z', v, hs', k1, k2⟩ := hz.h
  have hzz : z' = z := by
    obtain ⟨i, a1, _, _, a4⟩ := hs.h
    obtain ⟨i', b1, _, _, b4⟩ := hs'.h
    rw [a1] at b1; cases b1
    rw [a4] at b4; cases b4; rfl
  subst hzz
  obtain ⟨zr1, zr2⟩ := K5 (w := w) (φ := φ) (σ := σv) (A := Al Γ.N φ σv) (S8 k1) k2
  have hne : ¬ n * k = 0 := Nat.ne_of_gt (Nat.mul_pos hn1 hk0)
  have hbase : ∀ base, base = (Array.range (n * k)).map (fun i => (if n * k = 0 then (#[] : Array Value) else z'.cells)[i % (if n * k = 0 then (#[] : Array Value) else z'.cells).size]!) → RelL w φ σv (Al Γ.N φ σv) (List.replicate n zc).flatten base := by
    rintro base rfl
    refine ⟨by simp [hl'], fun i c hi => ?_⟩
    have hin : i < n * k := by
      have := (List.getElem?_eq_some_iff.1 hi).1
      simpa [hl'] using this
    rw [zrep_get (by omega) n i (by rw [hl']; exact hin), hl'] at hi
    obtain ⟨u, hu, hr⟩ := zr2 _ c hi
    refine ⟨u, ?_, hr⟩
    have hzs : z'.cells.size = k := by rw [zr1, hl']
    have hlt : i % k < z'.cells.size := by rw [hzs]; exact Nat.mod_lt _ hk0
    simp only [if_neg hne, Array.getElem?_map, Array.getElem?_range, hzs, hin, if_true, Option.map_some]
    rw [Array.getElem?_eq_getElem hlt] at hu
    simp [getElem!_pos, hlt, Option.some.inj hu]
  obtain ⟨arr', f1, f2⟩ := ag2 (w := w) e1 e2 (hbase _ rfl) hf
  have hfl : ess.flatten.length = n * k := by
    rw [List.length_flatten]
    have : ess.map List.length = List.replicate n k := by
      rw [← hn']
      apply List.ext_getElem?
      intro i
      rw [List.getElem?_map, List.getElem?_replicate]
      by_cases hi : i < ess.length
      · rw [if_pos hi, List.getElem?_eq_getElem hi]
        simp only [Option.map_some]
        rw [hle _ (List.getElem_mem hi)]
      · rw [if_neg hi, List.getElem?_eq_none (by omega)]; rfl
    rw [this, List.sum_replicate_nat]
  have hU := hR.toRs.allocU (.cells arr' e (0, 0))
  have hold : ∀ b, b < w.heap.size → (w.alloc (.cells arr' e)).heap[b]? = w.heap[b]? := fun b hb => by first | exact heap_alloc_old w _ hb | exact heap_alloc_old w _ _ hb
  have hnew : Al Γ.N φ σv w.heap.size := ⟨fun hN => by have := hR.toRs.good.lt _ hN; have := hR.toRs.size; omega, fun i blk base hi hp => by have := Al.own_lt hR.toRs.st hi hp; omega⟩
  have hnm : n ≤ maxLen := by
    have : n * 1 ≤ n * k := Nat.mul_le_mul_left _ hk0
    simp only [maxLen]; omega
  have hln : (l.map f).length = n := by rw [← d1, hn']
  have key : ∀ (j : Nat) (x : List I) (o : Nat) (y : I), (l.map f)[j]? = some x → x[o]? = some y → ∃ u, arr'[j * k + o]? = some u ∧ RelI w (Al Γ.N φ σv) y u := fun j x o y hx hy => by
    obtain ⟨c, c1, c2⟩ := d2 j x hx
    obtain ⟨_, c3⟩ := c2.get
    obtain ⟨c0, c4, c5⟩ := c3 o y hy
    obtain ⟨u, u1, u2⟩ := f2.2 _ c0 (flat_get hle j c o c0 c1 c4)
    exact ⟨u, u1, c5 u2⟩
  have hrel : RelT (w.alloc (.cells arr' e)) φ σv (Al Γ.N φ σv) (.c (.imm (.sl k (l.map f)))) (.slice (some ⟨w.heap.size, 0, none⟩) n n) := by
    refine .c (.imm ?_)
    have := RelI.sl (w := w.alloc (.cells arr' e)) (A := Al Γ.N φ σv) (k := k) (es := l.map f) (a := ⟨w.heap.size, 0, none⟩) (cap := n) (fun j o => (arr'[j * k + o]?).getD (.bool false)) (by rw [hln]; exact Nat.le_refl _) hnm (fun j x hx => by
        obtain ⟨c, c1, c2⟩ := d2 j x hx
        rw [← c2.get.1, hle c (List.mem_of_getElem? c1)]) (fun j x o y hx hy => by
        obtain ⟨u, u1, _⟩ := key j x o y hx hy
        refine ⟨hnew, ?_⟩
        rw [u1, Addr.add_lit]
        have hh := heap_alloc_new w (.cells arr' e)
        unfold World.cell?
        dsimp only
        rw [hh]
        simpa using u1) (fun j x o y hx hy => by
        obtain ⟨u, u1, u2⟩ := key j x o y hx hy
        rw [u1]
        exact u2.mono (fun b _ hb => hold b hb) fun b hb _ => hb)
    rw [hln] at this
    exact this
  refine ⟨.slice (some ⟨w.heap.size, 0, none⟩) n n, _, φ, ?_, hrel, hR.of hU.1 hU.2⟩
  have e3 : (execOp a.eval ⟨dst, .buildSlice t n parts.toArray, ty, pos, after, none⟩).run P w = ((Instr.buildSlice t n (parts.map fun p => (p.1, a.eval p.2)).toArray).run P w).andThen fun v w => .ok (.value v) w := by
    simp [execOp]
  rw [e3]
  simp only [if_neg hne] at f1
  have hz2 : (zeroValue e).run P w = .ok z' w := G9 (t := e) w
  simp [Instr.buildSlice, run_underlying ht.h, n4 (t := e), hz2, hne, hsm', newRow]
  try simp at f1
  rw [f1]
  simp
end
end Ab
end
section
namespace Ab
open Go
theorem Rs.adopt{Γ:Cx}{σ:b8}{φ:Phi}{w w':World}(h:Rs Γ σ φ w)(hos:w'.os=w.os)(ht:w'.tape=w.tape)(hdr:w.drawn≤w'.drawn)(ho:w'.output=w.output)(hs:w.heap.size≤w'.heap.size)(hold:∀ b,b<w.heap.size→w'.heap[b]? =w.heap[b]?)
  {k:Nat} {es:List (List C)} {q:Option (Nat × Nat)} (hq:∀ b base,q=some (b,base)→w.heap.size≤b) (hblk:∀ φ σ A,BlkR w' φ σ A q (.cells k es)):
  Kept w w' φ (fun i=>if i=(σ.length,[]) then q else φ i) σ (σ++[.one (.cells k es)]) (Al Γ.N φ σ) (Al Γ.N (fun i=>if i=(σ.length,[]) then q else φ i) (σ++[.one (.cells k es)]))∧
  Rs Γ (σ++[.one (.cells k es)]) (fun i=>if i=(σ.length,[]) then q else φ i) w':=by
 generalize hφ:(fun i=>if i=(σ.length,[]) then q else φ i)=φ'
 have plo:∀ i:Id,i.1<σ.length→φ' i=φ i:=fun i hi=>by
  have:i ≠ (σ.length,[]):=fun e=>by rw [e] at hi; exact Nat.lt_irrefl _ hi
  rw [← hφ]; simp [this]
 have pnew:φ' (σ.length,[])=q:=by rw [← hφ]; simp
 have cases2:∀ (i:Id) blk,(σ++[.one (.cells k es)])[i]? =some (some blk)→(i.1<σ.length∧σ[i]? =some (some blk))∨(i=(σ.length,[])∧blk=.cells k es):=fun i blk hi=>b8.get_new hi
 have A1:∀ b,Al Γ.N φ σ b→b<w.heap.size→Al Γ.N φ' (σ++[.one (.cells k es)]) b:=fun b hb hl=>⟨hb.1,fun i blk base hi hp=>by
  rcases cases2 i blk hi with ⟨h1,h2⟩ | ⟨rfl,rfl⟩
  ·rw [plo i h1] at hp; exact hb.2 i blk base h2 hp
  ·rw [pnew] at hp; have:=hq b base hp; omega⟩
 have hK:Kept w w' φ φ' σ (σ++[.one (.cells k es)]) (Al Γ.N φ σ) (Al Γ.N φ' (σ++[.one (.cells k es)])):=
  {imm:=fun b _ hl=>hold b hl,all:=A1,len:=by simp,
   cells:=fun i kk es' hi he=>by
    rw [b8.get_left hi] at he
    exact ⟨es',he,rfl,plo i hi,fun b base arr ety hp hb=>⟨arr,(hold b (Al.own_lt h.st he hp)).trans hb,rfl⟩⟩,
   obj:=fun i p' cs' hi he=>by
    rw [b8.get_left hi] at he
    exact ⟨plo i hi,p',cs',he⟩}
 refine ⟨hK, ?_⟩
 exact {
  good:=h.good
  st:=⟨fun i b hi=>by
    rcases cases2 i b hi with ⟨h1,h2⟩ | ⟨rfl,rfl⟩
    ·rw [plo i h1]
     exact (h.st.blk i b h2).mono hK fun g base hp=>hold g (Al.own_lt h.st h2 hp)
    ·rw [pnew]
     exact hblk _ _ _,
   fun i j bi bj p1 q1 hi hj hp hq1 he=>by
    obtain ⟨pb,po⟩:=p1
    obtain ⟨qb,qo⟩:=q1
    dsimp only at he
    subst he
    rcases cases2 i bi hi with ⟨h1,h2⟩ | ⟨rfl,rfl⟩<;>rcases cases2 j bj hj with ⟨g1,g2⟩ | ⟨rfl,rfl⟩
    ·rw [plo i h1] at hp; rw [plo j g1] at hq1
     exact h.st.inj i j bi bj _ _ h2 g2 hp hq1 rfl
    ·rw [plo i h1] at hp; rw [pnew] at hq1
     have:=Al.own_lt h.st h2 hp; have:=hq _ _ hq1; omega
    ·rw [plo j g1] at hq1; rw [pnew] at hp
     have:=Al.own_lt h.st g2 hq1; have:=hq _ _ hp; omega
    ·rfl⟩
  keep:=fun i blk b base hi hp hKb=>by
   rcases cases2 i blk hi with ⟨h1,h2⟩ | ⟨rfl,rfl⟩
   ·rw [plo i h1] at hp; exact h.keep i blk b base h2 hp hKb
   ·rw [pnew] at hp
    have:=hq _ _ hp
    have:=hKb.1; have:=h.size; omega
  os:=hos.trans h.os
  tape:=ht.trans h.tape
  drawn:=Nat.le_trans h.drawn hdr
  output:=ho.trans h.output
  size:=Nat.le_trans h.size hs
  block:=fun b hKb=>(hold b (Nat.lt_of_lt_of_le hKb.1 h.size)).trans (h.block b hKb)
  kept:=Kept.trans h.size h.kept hK}
section
variable {P:Program} {σ0:b8} {sz:Nat} {Q:Post} {env:Env} {σv σ':b8} {ops:Array Oper} {rest:List Oper} {dst:Option Nat} {ty:TypeId} {pos:String} {after:Array Edge}
theorem S.freshL{α:Type}{g:α→List I}{l:List α}{x:Operand}{as':List Operand}{ats:Array TypeId}{f:FuncId}{caps:List C}{ts ts':List T}{k:Nat}{n:Id}(hg:∀ a,((g a).map C.imm).all C.scal=true)(hx:ev env x=some (.c (.fn f caps)))(ha:evs env as'=some ts)(hl:ae1 σv (ts++caps.map T.c) ts')(hd:g8 sz dst=true)
  (hf:s7 P f ts' k (l.map g)) (hn:newF σv=some n) (hσ:s6 σv (.one (vec k g l))=some σ') (h:AOps P σ0 sz ops Q rest (St.mk (putE env dst (.c (.own n 0 l.length))) σ')):
  AOps P σ0 sz ops Q (⟨dst,.call ⟨.value x,as'.toArray,ats⟩,ty,pos,after,none⟩::rest) (St.mk env σv):=by
 have h1:=z6 hn; have h2:=p8 hσ
 subst h1 h2
 intro Γ φ a w hΓ hR ro
 obtain ⟨vs,h1,h2,h3⟩:=aj6 (P:=P) (dst:=dst) (ty:=ty) (pos:=pos) (after:=after) (ats:=ats) hR hx ha hf.fn
 obtain ⟨l1,l2⟩:=hl.get
 refine X2 rfl (am3 h1 ?_)
 refine (hf.run (Cx.open w) vs rfl (good_open w) (by rw [l1]; exact h2) (fun i t u hi hu=> ?_)).mono ?_
 ·obtain ⟨t0,ht0,hlend⟩:=l2 i t hi
  exact hlend.rel hR (al_open w) (h3 i t0 u ht0 hu)
 ·rintro e w' ⟨v,r',σ2,φ',rfl,⟨id',rfl,hid⟩,hrel,hs⟩
  have hview:=C2 hrel hid
  have hb:=hs.st.blk _ _ hid
  have hnew:∀ b base,φ' id'=some (b,base)→w.heap.size≤b:=fun b base hp=>by
   have:=hs.keep id' _ b base hid hp
   rcases Nat.lt_or_ge b w.heap.size with c | c
   ·exact absurd ⟨c,fun i blk base hi=>by simp [Cx.open] at hi⟩ this
   ·exact c
  have scal:∀ (j:Nat) (e:List C) (o:Nat) (y:C),((l.map g).map (·.map C.imm))[j]? =some e→e[o]? =some y→y.scal=true:=fun j e o y he hy=>by
   simp only [List.map_map,List.getElem?_map,Option.map_eq_some_iff,Function.comp_apply] at he
   obtain ⟨z,_,rfl⟩:=he
   have:=List.all_eq_true.1 (hg z)
   exact this y (List.mem_of_getElem? hy)
  obtain ⟨hK1,hR1⟩:=hR.toRs.adopt (w':=w') hs.os hs.tape hs.drawn hs.output hs.size (fun b hb=>hs.block b ⟨hb,fun i blk base hi=>by simp [Cx.open] at hi⟩) (k:=k) (es:=(l.map g).map (·.map C.imm)) (q:=φ' id') hnew (fun φ σ A=>by
   rcases hb with h | ⟨b,base,arr,ety,p1,p2,p3,p4,p5⟩
   ·exact .inl h
   ·refine .inr ⟨b,base,arr,ety,p1,p2,p3,p4,fun j e o y he hy=> ?_⟩
    obtain ⟨u,hu,hr⟩:=p5 j e o y he hy
    exact ⟨u,hu,C.scal_rel (scal j e o y he hy) hr⟩)
  have hlen:(l.map g).length=l.length:=List.length_map ..
  refine h Γ _ _ w' hΓ ((hR.of hK1 hR1).put hd ?_) ro
  refine I2 (k:=k) (es:=(l.map g).map (·.map C.imm)) (b8.get_last _ _) (by cases hrel with | c hr=>exact hr.one) ?_
  rw [hlen] at hview
  simpa using hview
end
end Ab
end
section
namespace Ab
open Go
def mvr(r n:Nat)(i:Id):Id:=((match Nat.beq i.1 r with | true=>n | false=>i.1),i.2)
theorem aq9{r n:Nat}{i:Id}(h:i.1=r):mvr r n i=(n,i.2):=by
 have:Nat.beq i.1 r=true:=by rw [h]; exact Nat.beq_refl r
 simp only [mvr,this]
theorem mvr_ne{r n:Nat}{i:Id}(h:i.1 ≠ r):mvr r n i=i:=by
 have:Nat.beq i.1 r=false:=ad8 h
 simp only [mvr,this]
section
variable {P:Program} {σ0:b8} {sz:Nat} {Q:Post} {env env':Env} {σv σ':b8} {ops:Array Oper} {rest:List Oper} {dst:Option Nat} {ty:TypeId} {pos:String} {after:Array Edge}
inductive EntR(r n:Nat)(σ:b8)(m i:Nat):Ent→Prop
 | dead:EntR r n σ m i .dead
 | one {b:Blk} (h1:b.ok m=true) (h2:σ[mvr r n (i,[])]? =some (some (b.ren (mvr r n)))):EntR r n σ m i (.one b)
 | vec {α:Type} {k:Nat} {f:α→List I} {l:List α} (h2:σ[mvr r n (i,[])]? =some (some (vec k f l))):EntR r n σ m i (.one (vec k f l))
 | mat {α:Type} {k j:Nat} {f:α→List I} {M:List (List α)} (hj:(mvr r n (i,[])).1=j) (hi:Nat.blt i m=true) (h:σ[j]? =some (mat (j,[]) k f M)):EntR r n σ m i (mat (i,[]) k f M)
 | any {e:Ent} (h:∀ p b,e.sub p=some b→b.ok m=true∧σ[mvr r n (i,p)]? =some (some (b.ren (mvr r n)))):EntR r n σ m i e
def StR_(r n:Nat)(σ:b8)(m:Nat):Nat→b8→Prop
 | _,[]=>True
 | i,e::l=>EntR r n σ m i e∧StR_ r n σ m (i+1) l
theorem EntR.get{r n:Nat}{σ:b8}{m i:Nat}{e:Ent}(h:EntR r n σ m i e){p:List Nat}{b:Blk}(hb:e.sub p=some b):b.ok m=true∧σ[mvr r n (i,p)]? =some (some (b.ren (mvr r n))):=by
 cases h with
 | dead=>cases p<;>cases hb
 | one h1 h2=>cases p with
  | nil=>cases hb; exact ⟨h1,h2⟩
  | cons=>cases hb
 | vec h2=>cases p with
  | nil=>cases hb; exact ⟨J8,by rw [Blk.im_ren]; exact h2⟩
  | cons=>cases hb
 | @mat α k j f M hj hi h=>
  have hi':i<m:=by simpa using hi
  have e:∀ q,mvr r n (i,q)=(j,q):=fun q=>by rw [← hj]; rfl
  rw [e,s9 h]
  cases p with
  | nil=>
   cases hb
   refine ⟨hdr_ok hi' _, ?_⟩
   rw [mat_main]
   congr 2
   simp only [Blk.ren]
   congr 1
   apply List.ext_getElem?
   intro q
   rw [List.getElem?_map]
   simp only [hdr,List.getElem?_mapIdx,Option.map_map]
   cases M[q]? with
   | none=>rfl
   | some row=>simp [C.renL,C.ren,e]
  | cons a q=>
   rw [mat_row] at hb ⊢
   split at hb
   ·rename_i row hrow
    cases q with
    | cons b q=>cases hb
    | nil=>cases hb; exact ⟨J8,by rw [Blk.im_ren]⟩
   ·cases hb
 | any h=>exact h p b hb
theorem StR_.get{r n m:Nat}{σ:b8}:∀ {i:Nat} {σ':b8},StR_ r n σ m i σ'→∀ (j:Nat) (p:List Nat) (b:Blk),σ'[((j,p):Id)]? =some (some b)→b.ok m=true∧σ[mvr r n (i+j,p)]? =some (some (b.ren (mvr r n)))
 | _,[],_,j,p,b,h=>by simp at h
 | i,e::l,h,0,p,b,hb=>by
  rw [b8.at_eq] at hb
  simp only [b8.at,List.getElem?_cons_zero,Option.some.injEq] at hb
  exact h.1.get hb
 | i,e::l,h,j+1,p,b,hb=>by
  have:=StR_.get (i:=i+1) h.2 j p b (by
   rw [b8.at_eq] at hb ⊢
   simpa [b8.at] using hb)
  rwa [show i+1+j=i+(j+1) by omega] at this
def EnvR(r n:Nat)(env:Env):Env→Prop
 | []=>True
 | (t,v)::l=>lookup t env=some (v.ren (mvr r n))∧EnvR r n env l
theorem EnvR.get{r n:Nat}:∀ {env':Env},EnvR r n env env'→∀ t v,lookup t env'=some v→lookup t env=some (v.ren (mvr r n))
 | [],_,t,v,h=>by simp [lookup] at h
 | (k,x)::l,⟨h1,h2⟩,t,v,h=>by
  simp only [lookup] at h
  split at h
  ·rename_i he; cases h; rw [← Nat.eq_of_beq_eq_true he]; exact h1
  ·exact EnvR.get h2 t v h
def deadR(σ:b8)(n:Nat):Bool:=match σ[n]? with
 | some .dead=>true
 | some _=>false
 | none=>true
theorem Sub.moveM(r n:Nat)(h0:Nat.ble σ0.length r=true)(hl:Nat.ble σ0.length σ'.length=true)(hn:deadR σ' n=true)(henv:EnvR r n env env')(he:envOk σ'.length env'=true)(hst:StR_ r n σv σ'.length 0 σ'):Sub σ0 ⟨env,σv⟩ ⟨env',σ'⟩:=by
 have h0':=Nat.le_of_ble_eq_true h0
 have hd:∀ (p:List Nat) b,σ'[((n,p):Id)]? ≠ some (some b):=fun p b hb=>by
  rw [b8.at_eq] at hb
  simp only [b8.at] at hb
  simp only [deadR] at hn
  split at hb
  ·rename_i e hx
   rw [hx] at hn
   cases e with
   | dead=>cases p<;>cases hb
   | one=>cases hn
   | node=>cases hn
  ·cases hb
 refine Sub.mk (mvr r n) (fun i hi=>mvr_ne (fun e=>by omega)) (Nat.le_of_ble_eq_true hl) (fun i j b b' hi hj h=> ?_) (fun i b hi=> ?_) (fun t v ht=>⟨an2 he t v ht,henv.get t v ht⟩)
 ·by_cases h1:i.1=r<;>by_cases h2:j.1=r
  ·rw [aq9 h1,aq9 h2] at h
   exact Prod.ext (h1.trans h2.symm) (Prod.mk.inj h).2
  ·rw [aq9 h1,mvr_ne h2] at h
   subst h; exact absurd hj (hd _ _)
  ·rw [aq9 h2,mvr_ne h1] at h
   subst h; exact absurd hi (hd _ _)
  ·rwa [mvr_ne h1,mvr_ne h2] at h
 ·have:=hst.get i.1 i.2 b hi
  rwa [Nat.zero_add] at this
theorem AWP.moveM{c:Code}(r n:Nat)(h0:Nat.ble σ0.length r=true)(hl:Nat.ble σ0.length σ'.length=true)(hn:deadR σ' n=true)(henv:EnvR r n env env')(he:envOk σ'.length env'=true)(hst:StR_ r n σv σ'.length 0 σ')(h:AWP P σ0 sz c Q (St.mk env' σ')):AWP P σ0 sz c Q (St.mk env σv):=
 AWP.sub (Sub.moveM r n h0 hl hn henv he hst) h
/-! ### A row of nothing appended to rows -/
end
end Ab
end
section
namespace Ab
open Go
section
variable {P:Program} {σ0:b8} {sz:Nat} {Q:Post} {env env':Env} {σv σ':b8}
end
end Ab
end
section
namespace Ab
open Go
section
variable {P:Program} {σ0:b8} {sz:Nat} {Q:Post} {env env':Env} {σv σ':b8} {ops:Array Oper} {rest:List Oper} {dst:Option Nat} {ty:TypeId} {pos:String} {after:Array Edge}
def aq2:TypeDesc→Bool
 | .interface _=>true
 | _=>false
theorem ifc1_inv{w:World}{φ:Phi}{σ:b8}{A:Nat→Prop}{t:TypeId}{c:C}{u:Value}(h:RelT w φ σ A (.c (.ifc t [c] false)) u):∃ v,u=.iface t v∧RelC w φ σ A c v:=by
 cases h with | c h=>cases h with | ifc1 h=>exact ⟨_,rfl,h⟩
theorem ifcA_inv{w:World}{φ:Phi}{σ:b8}{A:Nat→Prop}{t:TypeId}{cs:List C}{u:Value}(h:RelT w φ σ A (.c (.ifc t cs true)) u):∃ us:List Value,us.length=cs.length∧u=.iface t (.agg us.toArray)∧∀ (i:Nat) (c:C) (v:Value),cs[i]? =some c→us[i]? =some v→RelC w φ σ A c v:=by
 cases h with | c h=>cases h with | ifcA us h=>
  refine ⟨(List.range cs.length).map us,by simp,rfl,fun i c v hi hv=> ?_⟩
  rw [List.getElem?_map,Option.map_eq_some_iff] at hv
  obtain ⟨j,hj,rfl⟩:=hv
  obtain ⟨_,rfl⟩:=K6 hj
  exact h i c hi
theorem S.mkIfc{x:Operand}{t:TypeId}{d:TypeDesc}{c:C}[ht:TyD P t d](hi:aq2 d=false)(hx:ev env x=some (.c c))(hd:g8 sz dst=true)
  (h:AOps P σ0 sz ops Q rest (St.mk (putE env dst (.c (.ifc t [c] false))) σv)):AOps P σ0 sz ops Q (⟨dst,.makeInterface t x,ty,pos,after,none⟩::rest) (St.mk env σv):=
 .value rfl hd _ (fun Γ φ a w hR=>by
  have hr:=i6 hR hx
  generalize hu:a.eval x=u at hr
  cases hr with | c hr=>
   refine ⟨.iface t u, ?_,.c (.ifc1 hr)⟩
   cases d<;>first | (cases hi; done) | simp [execOp,Instr.makeInterface,run_underlying ht.h,hu]) h
theorem S.mkIfcA{x:Operand}{t:TypeId}{d:TypeDesc}{cs:List C}[ht:TyD P t d](hi:aq2 d=false)(hx:ev env x=some (.agg cs))(hd:g8 sz dst=true)
  (h:AOps P σ0 sz ops Q rest (St.mk (putE env dst (.c (.ifc t cs true))) σv)):AOps P σ0 sz ops Q (⟨dst,.makeInterface t x,ty,pos,after,none⟩::rest) (St.mk env σv):=
 .value rfl hd _ (fun Γ φ a w hR=>by
  have hr:=i6 hR hx
  generalize hu:a.eval x=u at hr
  cases hr with | agg us hr=>
   refine ⟨.iface t (.agg ((List.range cs.length).map us).toArray), ?_,.c (.ifcA us hr)⟩
   cases d<;>first | (cases hi; done) | simp [execOp,Instr.makeInterface,run_underlying ht.h,hu]) h
theorem S.assert{x:Operand}{xt t:TypeId}{d:TypeDesc}{c:C}[ht:TyD P t d](hi:aq2 d=false)(hx:ev env x=some (.c (.ifc t [c] false)))(hd:g8 sz dst=true)
  (h:AOps P σ0 sz ops Q rest (St.mk (putE env dst (.c c)) σv)):AOps P σ0 sz ops Q (⟨dst,.typeAssert x xt t false,ty,pos,after,none⟩::rest) (St.mk env σv):=
 .value rfl hd _ (fun Γ φ a w hR=>by
  obtain ⟨v,hv,hr⟩:=ifc1_inv (i6 hR hx)
  refine ⟨v, ?_,.c hr⟩
  cases d<;>first | (cases hi; done) | simp [execOp,Instr.typeAssert,run_underlying ht.h,hv]) h
theorem S.assertA{x:Operand}{xt t:TypeId}{d:TypeDesc}{cs:List C}[ht:TyD P t d](hi:aq2 d=false)(hx:ev env x=some (.c (.ifc t cs true)))(hd:g8 sz dst=true)
  (h:AOps P σ0 sz ops Q rest (St.mk (putE env dst (.agg cs)) σv)):AOps P σ0 sz ops Q (⟨dst,.typeAssert x xt t false,ty,pos,after,none⟩::rest) (St.mk env σv):=
 .value rfl hd _ (fun Γ φ a w hR=>by
  obtain ⟨us,hl,hv,hr⟩:=ifcA_inv (i6 hR hx)
  refine ⟨.agg us.toArray, ?_,RelT.agg' (by simp [hl]) fun i c v hc hv=>hr i c v hc (by simpa using hv)⟩
  cases d<;>first | (cases hi; done) | simp [execOp,Instr.typeAssert,run_underlying ht.h,hv]) h
/-! ### Calls through an interface -/
theorem AOps.enterS{o:Oper}{f:FuncId}{ts:List T}{Qc:T→b8→Prop}(hg:o.guard=none)(hd:g8 sz o.dst=true)(hf:FnOk P f ts σv Qc)
  (he:∀ Γ φ a w,R Γ sz (St.mk env σv) φ a w→∃ vs:List Value,(execOp a.eval o).run P w=.ok (.enter f vs.toArray) w∧ts.length=vs.length∧∀ (i:Nat) (t:T) (u:Value),ts[i]? =some t→vs[i]? =some u→RelT w φ σv (Al Γ.N φ σv) t u)
  (h:∀ r σ',Qc r σ'→AOps P σ0 sz ops Q rest ((St.mk env σ').put o.dst r)):AOps P σ0 sz ops Q (o::rest) (St.mk env σv):=fun Γ φ a w hΓ hR ro=>by
 obtain ⟨vs,h1,h2,h3⟩:=he Γ φ a w hR
 refine X2 hg (am3 h1 ?_)
 refine (hf.run ⟨w,Γ.N,φ,σv⟩ vs rfl hR.toRs.down h2 h3).mono ?_
 rintro e w' ⟨v,r,σ',φ',rfl,hq,hr,hs⟩
 exact h r σ' hq Γ φ' _ w' hΓ ((hR.of hs.kept (hR.toRs.up hs)).put hd hr) ro
class MethF (P:Program) (t:TypeId) (name:String) (f:outParam FuncId) (b:outParam Bool):Prop where
 h:((P.info? t).bind fun i=>(i.methods.find? (·.name==name)).map fun m=>(m.path.toList,m.func))=some ([],some (f,b))
theorem MethF.get{t:TypeId}{name:String}{f:FuncId}{b:Bool}[h:MethF P t name f b]:∃ i m,P.info? t=some i∧i.methods.find? (·.name==name)=some m∧m.path=#[]∧m.func=some (f,b):=by
 obtain ⟨i,h1,h2⟩:=Option.bind_eq_some_iff.1 h.h
 obtain ⟨m,h3,h4⟩:=Option.map_eq_some_iff.1 h2
 simp only [Prod.mk.injEq] at h4
 exact ⟨i,m,h1,h3,by simpa using h4.1,h4.2⟩
theorem run_recvP{t e:TypeId}{v:Value}{wr:Option String}{w:World}[hd:TyD P t (.pointer e)]:(receiverAt t (.val v) true wr).run P w=.ok v w:=by
 unfold receiverAt
 rw [Sem.run_bind,run_underlying hd.h]
 rfl
theorem run_recvV{t e:TypeId}{de:TypeDesc}{a:Addr}{u:Value}{wr:String}{w:World}[hd:TyD P t (.pointer e)][he:TyD P e de](ha:B4 de=false)(hu:w.cell? a=some u):(receiverAt t (.val (.pointer (some a))) false (some wr)).run P w=.ok u w:=by
 unfold receiverAt
 rw [Sem.run_bind,run_underlying hd.h]
 show (loadVar e a).run P w=_
 exact ad9 ha hu
theorem run_method{t:TypeId}{name:String}{f:FuncId}{b:Bool}{v u:Value}{w:World}[hm:MethF P t name f b](hr:∀ wr:String,(receiverAt t (.val v) b (some wr)).run P w=.ok u w):(method (P.types.size+Made.depth) t v name).run P w=.ok (f,u) w:=by
 obtain ⟨i,m,h1,h2,h3,h4⟩:=hm.get
 rw [show P.types.size+Made.depth=(P.types.size+99)+1 from rfl]
 have hi:(typeInfo t).run P w=.ok i w:=by simp [typeInfo,h1]
 unfold method
 rw [Sem.run_bind,hi]
 simp only [Result.andThen_ok,h2,h3,h4,follow]
 simp only [Sem.run_bind,Sem.run_pure,Result.andThen_ok,Array.isEmpty_empty,if_true]
 rw [hr]
 rfl
theorem fn_body{f:FuncId}(hfn:∃ fn,P.funcs[f]? =some fn∧(fn.name== "runtime.NumGoroutine")=false∧fn.body.isNone=false)(vs:Array Value)(w:World):(callFunc f vs).run P w=.ok (.enter f vs) w:=by
 obtain ⟨fn,h1,h2,h3⟩:=hfn
 have h2':¬ fn.name= "runtime.NumGoroutine" :=by simpa using h2
 have h3':¬ fn.body=none:=fun e=>by rw [e] at h3; cases h3
 simp [callFunc,h1,h2',h3']
theorem invoke_args{Γ:Cx}{φ:Phi}{a:Act}{w:World}(hR:R Γ sz (St.mk env σv) φ a w){as':List Operand}{ts:List T}(ha:evs env as'=some ts){c:C}{v:Value}(hc:RelC w φ σv (Al Γ.N φ σv) c v):
  (T.c c::ts).length=(v::as'.map a.eval).length∧∀ (i:Nat) (t:T) (u:Value),(T.c c::ts)[i]? =some t→(v::as'.map a.eval)[i]? =some u→RelT w φ σv (Al Γ.N φ σv) t u:=by
 obtain ⟨k1,k2⟩:=evs_rel hR ha
 refine ⟨by simp [k1],fun i t u hi hu=> ?_⟩
 cases i with
 | zero=>simp only [List.getElem?_cons_zero,Option.some.injEq] at hi hu; subst hi hu; exact .c hc
 | succ i=>exact k2 i t u (by simpa using hi) (by simpa using hu)
theorem S.invokeP{x:Operand}{as':List Operand}{ats:Array TypeId}{name:String}{t e:TypeId}{c:C}{f:FuncId}{ts:List T}{r2:T}{σ'':b8}[hd:TyD P t (.pointer e)][hm:MethF P t name f true](hx:ev env x=some (.c (.ifc t [c] false)))(ha:evs env as'=some ts)(hdst:g8 sz dst=true)
  (hf:FnOk P f (.c c::ts) σv fun r s=>r=r2∧s=σ'') (h:AOps P σ0 sz ops Q rest (St.mk (putE env dst r2) σ'')):
  AOps P σ0 sz ops Q (⟨dst,.call ⟨.invoke x name,as'.toArray,ats⟩,ty,pos,after,none⟩::rest) (St.mk env σv):=by
 refine AOps.enterS rfl hdst hf (fun Γ φ a w hR=> ?_) (fun r s ⟨h1,h2⟩=>by subst h1 h2; exact h)
 obtain ⟨v,hv,hr⟩:=ifc1_inv (i6 hR hx)
 refine ⟨v::as'.map a.eval, ?_,invoke_args hR ha hr⟩
 have:=fn_body hf.fn (v::as'.map a.eval).toArray w
 simp [execOp,resolve,invoke,callMethod,hv,run_method (P:=P) (t:=t) (name:=name) (fun wr=>run_recvP (e:=e))]
 simpa [List.take_of_length_le] using this
theorem S.invokeV{x:Operand}{as':List Operand}{ats:Array TypeId}{name:String}{t e:TypeId}{de:TypeDesc}{id:Id}{j o k:Nat}{es:List (List C)}{el:List C}{c:C}{f:FuncId}{ts:List T}{r2:T}{σ'':b8}[hd:TyD P t (.pointer e)][he:TyD P e de][hm:MethF P t name f false](hagg:B4 de=false)
  (hx:ev env x=some (.c (.ifc t [.ptr id j o] false))) (hσ:σv[id]? =some (some (.cells k es))) (hel:es[j]? =some el) (hc:el[o]? =some c) (ha:evs env as'=some ts) (hdst:g8 sz dst=true)
  (hf:FnOk P f (.c c::ts) σv fun r s=>r=r2∧s=σ'') (h:AOps P σ0 sz ops Q rest (St.mk (putE env dst r2) σ'')):
  AOps P σ0 sz ops Q (⟨dst,.call ⟨.invoke x name,as'.toArray,ats⟩,ty,pos,after,none⟩::rest) (St.mk env σv):=by
 refine AOps.enterS rfl hdst hf (fun Γ φ a w hR=> ?_) (fun r s ⟨h1,h2⟩=>by subst h1 h2; exact h)
 obtain ⟨v,hv,hr⟩:=ifc1_inv (i6 hR hx)
 obtain ⟨hid,b,base,hp,hv2⟩:=X3 (.c hr) hσ
 obtain ⟨arr,ety,hb,_,_,hcs⟩:=C8 hR hσ hp
 obtain ⟨u,hu,hru⟩:=hcs j el o c hel hc
 refine ⟨u::as'.map a.eval, ?_,invoke_args hR ha hru⟩
 have:=fn_body hf.fn (u::as'.map a.eval).toArray w
 simp [execOp,resolve,invoke,callMethod,hv,hv2,run_method (P:=P) (t:=t) (name:=name) (fun wr=>run_recvV (e:=e) hagg ((N6 hb).trans hu))]
 simpa [List.take_of_length_le] using this
/-! ### Maps: how many keys -/
theorem S.lenMap{K V:Type}{fk:K→Value}{fv:V→Value}{x:Operand}{t kt vt:TypeId}{id:Id}{m:List (K × V)}[ht:TyD P t (.map kt vt)](hx:ev env x=some (.c (.map id)))(hσ:σv[id]? =some (some (mapB fk fv m)))(hd:g8 sz dst=true)
  (h:AOps P σ0 sz ops Q rest (St.mk (putE env dst (.c (int (m.length:Int)))) σv)):AOps P σ0 sz ops Q (⟨dst,.call ⟨.builtin .len,#[x],#[t]⟩,ty,pos,after,none⟩::rest) (St.mk env σv):=
 .value rfl hd _ (fun Γ φ a w hR=>by
  obtain ⟨b,base,hp,hv⟩:=af9 (i6 hR hx) hσ
  obtain ⟨b',o,_,g1,g2,⟨es,c,rfl,g3⟩,_⟩:=hR.st.blk _ _ hσ
  rw [hp] at g1; cases g1
  have hl:es.size=m.length:=by
   have:=congrArg List.length g3
   simpa using this
  exact ⟨.int .i64 m.length,by simp [execOp,hv,resolve,invoke,builtin,Builtin.len_,run_underlying ht.h,Go.MapKept.run_getObj_map g2,goInt,hl,Result.andThen],.int _⟩) h
/-! ### Maps whose values are nothing (sets) -/
def noV:Unit→Value:=fun _=>.agg #[]
theorem W.lookupOkU{K:Type}[DecidableEq K]{fk:K→Value}{d:TypeDesc}{x y:Operand}{t kt vt:TypeId}{id:Id}{m:List (K × Unit)}{k:K}{size bytes:Nat}{zv:Value}[ht:TyD P t (.map kt vt)][hkt:TyD P kt d][hs:TyS P vt size bytes zv](hk:KeyT d fk)(hz:zv=.agg #[])
  (hx:ev env x=some (.c (.map id))) (hy:ev env y=some (.c (.imm (.val (fk k))))) (hσ:σv[id]? =some (some (mapB fk noV m))) (hd:g8 sz dst=true)
  (h:AOps P σ0 sz ops Q rest (St.mk (putE env dst (.tup [.agg [],.c (bool (mget m k).isSome)])) σv)):AOps P σ0 sz ops Q (⟨dst,.lookup t x y true,ty,pos,after,none⟩::rest) (St.mk env σv):=by
 refine .valueW rfl hd _ _ (fun Γ φ a w hR=> ?_) h
 obtain ⟨b,base,hp,hv⟩:=af9 (i6 hR hx) hσ
 obtain ⟨hv2,_⟩:=F1 (i6 hR hy)
 obtain ⟨b',o,_,g1,g2,⟨es,c,rfl,g3⟩,_⟩:=hR.st.blk _ _ hσ
 rw [hp] at g1; cases g1
 refine ⟨.tuple #[.agg #[],.bool (mget m k).isSome],w,φ, ?_,RelT.tup' (vs:=[.agg #[],.bool (mget m k).isSome]) rfl (fun i t u hi hu=> ?_),hR⟩
 ·rcases ab3 hk k m es.toList 0 g3 with ⟨q1,q2,_⟩ | ⟨v,j,e,q1,q2,_⟩
  ·simp [execOp,hv,hv2,Instr.lookup,run_underlying ht.h,Go.MapKept.run_getObj_map g2,Go.MapKept.run_checkKey hkt.h (hk.key k),Go.MapKept.run_findKey hkt.h q2,G9 (t:=vt),q1,hz,Result.andThen]
  ·simp [execOp,hv,hv2,Instr.lookup,run_underlying ht.h,Go.MapKept.run_getObj_map g2,Go.MapKept.run_checkKey hkt.h (hk.key k),Go.MapKept.run_findKey hkt.h q2,q1,noV,Result.andThen]
 ·match i with
  | 0=>cases hi; cases hu; exact RelT.agg' (vs:=[]) rfl (fun i c v hc=>by simp at hc)
  | 1=>cases hi; cases hu; exact .bool _
  | i+2=>simp at hi
theorem agg0_inv{w:World}{φ:Phi}{σ:b8}{A:Nat→Prop}{u:Value}(h:RelT w φ σ A (.agg []) u):u=.agg #[]:=by
 cases h with | agg us hr=>simp
theorem W.mapUpdateU{K:Type}[DecidableEq K]{fk:K→Value}{d:TypeDesc}{x y v:Operand}{t kt vt:TypeId}{id:Id}{m:List (K × Unit)}{k:K}[ht:TyD P t (.map kt vt)][hkt:TyD P kt d](hk:KeyT d fk)
  (hx:ev env x=some (.c (.map id))) (hy:ev env y=some (.c (.imm (.val (fk k))))) (hv:ev env v=some (.agg [])) (hσ:σv[id]? =some (some (mapB fk noV m))) (hσ':σv.put id (some (mapB fk noV (mset m k ())))=σ')
  (h:AOps P σ0 sz ops Q rest (St.mk env σ')):AOps P σ0 sz ops Q (⟨none,.mapUpdate t x y v,ty,pos,after,none⟩::rest) (St.mk env σv):=by
 subst hσ'
 refine .skipW rfl rfl _ (fun Γ φ ac w hR=> ?_) h
 obtain ⟨b,base,hp,e1⟩:=af9 (i6 hR hx) hσ
 obtain ⟨e2,_⟩:=F1 (i6 hR hy)
 have e3:=agg0_inv (i6 hR hv)
 obtain ⟨b',o,_,g1,g2,⟨es,c,rfl,g3⟩,_⟩:=hR.st.blk _ _ hσ
 rw [hp] at g1; cases g1
 rcases ab3 hk k m es.toList 0 g3 with ⟨q1,q2,q3⟩ | ⟨v0,j,e,q1,q2,q3,q4,q5⟩
 ·have hW:=Rs.writeO (q1:=mapP fk noV (mset m k ())) (o1:=.map (es.push {key:=fk k,val:=.agg #[],born:=c}) (c+1)) hR.toRs hσ hp g2 ⟨_,_,rfl,by rw [Array.toList_push]; exact q3 () c⟩
  refine ⟨_,φ, ?_,hR.of hW.1 hW.2⟩
  simp [execOp,e1,e2,e3,Instr.mapUpdate,run_underlying ht.h,Go.MapKept.run_getObj_map g2,Go.MapKept.run_checkKey hkt.h (hk.key k),Go.MapKept.run_findKey hkt.h q2,Go.MapKept.run_setObj_map _ g2,Result.andThen]
 ·have hj:es[j]? =some e:=by simpa using q3
  have hW:=Rs.writeO (q1:=mapP fk noV (mset m k ())) (o1:=.map (es.modify j fun e=>{e with key:=fk k,val:=.agg #[]}) c) hR.toRs hσ hp g2 ⟨_,_,rfl,by rw [Array.toList_modify]; exact q5 ()⟩
  refine ⟨_,φ, ?_,hR.of hW.1 hW.2⟩
  simp [execOp,e1,e2,e3,Instr.mapUpdate,run_underlying ht.h,Go.MapKept.run_getObj_map g2,Go.MapKept.run_checkKey hkt.h (hk.key k),Go.MapKept.run_findKey hkt.h q2,hj,q4,Go.MapKept.run_keyThatStays (hk.key k),Go.MapKept.run_setObj_map _ g2,Result.andThen]
theorem W.insertU{K:Type}[DecidableEq K]{fk:K→Value}{d:TypeDesc}{x y v:Operand}{t kt vt:TypeId}{id:Id}{m:List (K × Unit)}{k:K}[ht:TyD P t (.map kt vt)][hkt:TyD P kt d](hk:KeyT d fk)
  (hx:ev env x=some (.c (.map id))) (hy:ev env y=some (.c (.imm (.val (fk k))))) (hv:ev env v=some (.agg [])) (hσ:σv[id]? =some (some (mapB fk noV m))) (hσ':σv.put id (some (mapB fk noV (mset m k ())))=σ')
  (h:AOps P σ0 sz ops Q rest (St.mk env σ')):AOps P σ0 sz ops Q (⟨none,.insert t x y v,ty,pos,after,none⟩::rest) (St.mk env σv):=by
 subst hσ'
 refine .skipW rfl rfl _ (fun Γ φ ac w hR=> ?_) h
 obtain ⟨b,base,hp,e1⟩:=af9 (i6 hR hx) hσ
 obtain ⟨e2,_⟩:=F1 (i6 hR hy)
 have e3:=agg0_inv (i6 hR hv)
 obtain ⟨b',o,_,g1,g2,⟨es,c,rfl,g3⟩,_⟩:=hR.st.blk _ _ hσ
 rw [hp] at g1; cases g1
 rcases ab3 hk k m es.toList 0 g3 with ⟨q1,q2,q3⟩ | ⟨v0,j,e,q1,q2,q3,q4,q5⟩
 ·have hW:=Rs.writeO (q1:=mapP fk noV (mset m k ())) (o1:=.map (es.push {key:=fk k,val:=.agg #[],born:=c}) (c+1)) hR.toRs hσ hp g2 ⟨_,_,rfl,by rw [Array.toList_push]; exact q3 () c⟩
  refine ⟨_,φ, ?_,hR.of hW.1 hW.2⟩
  simp [execOp,e1,e2,e3,Instr.mapUpdate,run_underlying ht.h,Go.MapKept.run_getObj_map g2,Go.MapKept.run_checkKey hkt.h (hk.key k),Go.MapKept.run_findKey hkt.h q2,Go.MapKept.run_setObj_map _ g2,Result.andThen]
 ·have hj:es[j]? =some e:=by simpa using q3
  have hW:=Rs.writeO (q1:=mapP fk noV (mset m k ())) (o1:=.map (es.modify j fun e=>{e with key:=fk k,val:=.agg #[]}) c) hR.toRs hσ hp g2 ⟨_,_,rfl,by rw [Array.toList_modify]; exact q5 ()⟩
  refine ⟨_,φ, ?_,hR.of hW.1 hW.2⟩
  simp [execOp,e1,e2,e3,Instr.mapUpdate,run_underlying ht.h,Go.MapKept.run_getObj_map g2,Go.MapKept.run_checkKey hkt.h (hk.key k),Go.MapKept.run_findKey hkt.h q2,hj,q4,Go.MapKept.run_keyThatStays (hk.key k),Go.MapKept.run_setObj_map _ g2,Result.andThen]
end
/-! ### A struct without fields -/
theorem S.build0{P:Program}{σ0:b8}{sz:Nat}{Q:Post}{env:Env}{σv:b8}{ops:Array Oper}{rest:List Oper}{dst:Option Nat}{ty:TypeId}{pos:String}{after:Array Edge}{t:TypeId}{fs:Array Field}{size bytes:Nat}{z:Value}[ht:TyD P t (.struct fs)][hs:TyS P t size bytes z](hf:fs=#[])(hz:z=.agg #[])(hd:g8 sz dst=true)
  (h:AOps P σ0 sz ops Q rest (St.mk (putE env dst (.agg [])) σv)):AOps P σ0 sz ops Q (⟨dst,.build t #[],ty,pos,after,none⟩::rest) (St.mk env σv):=
 .value rfl hd _ (fun Γ φ a w hR=>by
  subst hf hz
  refine ⟨.agg #[], ?_,RelT.agg' (vs:=[]) rfl (fun i c v hc=>by simp at hc)⟩
  simp [execOp,Instr.build,G9 (t:=t),run_underlying ht.h,Value.cells,Instr.fill]) h
theorem S.store0{P:Program}{σ0:b8}{sz:Nat}{Q:Post}{env:Env}{σv:b8}{ops:Array Oper}{rest:List Oper}{ty:TypeId}{pos:String}{after:Array Edge}{x y:Operand}{t:TypeId}{fs:Array Field}{bytes k j o:Nat}{id:Id}{es:List (List C)}{z:Value}[ht:TyD P t (.struct fs)][hs:TyS P t 0 bytes z](hx:ev env x=some (.c (.ptr id j o)))(hy:ev env y=some (.agg []))(hσ:σv[id]? =some (some (.cells k es)))
  (h:AOps P σ0 sz ops Q rest (St.mk env σv)):AOps P σ0 sz ops Q (⟨none,.store t x y,ty,pos,after,none⟩::rest) (St.mk env σv):=
 .skipW rfl rfl σv (fun Γ φ a w hR=>by
  obtain ⟨hid,b,base,hp,hv⟩:=X3 (i6 hR hx) hσ
  have hv2:=agg0_inv (i6 hR hy)
  refine ⟨w,φ, ?_,hR⟩
  simp [execOp,hv,hv2,Instr.storeAt,Instr.sureAddr,storeVar,Value.cells,storeCells,n4 (t:=t)]) h
/-! ### Contracts with two kinds of ends -/
theorem FnOk.alt1{A B:Type}{P:Program}{f:FuncId}{args:List T}{σ:b8}{Q1:A→T→b8→Prop}{Q2:B→T→b8→Prop}{v:A}(h:FnOk P f args σ fun tt ss=>(∃ w,(Sum.inl v:A ⊕ B)=.inl w∧Q1 w tt ss)∨∃ w,(Sum.inl v:A ⊕ B)=.inr w∧Q2 w tt ss):FnOk P f args σ (Q1 v):=
 h.mono fun r s hq=>by
  rcases hq with ⟨w,e,hq⟩ | ⟨w,e,_⟩
  ·cases e; exact hq
  ·cases e
theorem FnOk.alt2{A B:Type}{P:Program}{f:FuncId}{args:List T}{σ:b8}{Q1:A→T→b8→Prop}{Q2:B→T→b8→Prop}{v:B}(h:FnOk P f args σ fun tt ss=>(∃ w,(Sum.inr v:A ⊕ B)=.inl w∧Q1 w tt ss)∨∃ w,(Sum.inr v:A ⊕ B)=.inr w∧Q2 w tt ss):FnOk P f args σ (Q2 v):=
 h.mono fun r s hq=>by
  rcases hq with ⟨w,e,_⟩ | ⟨w,e,hq⟩
  ·cases e
  ·cases e; exact hq
end Ab
end
section
namespace Ab
open Go
section
variable {α:Type}
def pool(size:Nat)(f:α→List I)(E:List α):Ent:=.node none (E.map fun e=>.one (vec size f [e]))
def prow(r:Nat)(l:List Int):Blk:=.cells 1 (l.map fun i=>[.ptr (r,[i.toNat]) 0 0])
def P4{K:Type}(fk:K→Value)(ks:List K):Obj→List Value→Prop:=fun o us=>∃ es c,o=.map es c∧es.toList.map (·.key)=ks.map fk∧es.toList.map (·.val)=us
def mapCB{K V:Type}(fk:K→Value)(fc:V→C)(m:List (K × V)):Blk:=.obj (P4 fk (m.map (·.1))) (m.map fun p=>fc p.2)
def P2(r:Nat)(i:Int):C:=.ptr (r,[i.toNat]) 0 0
def pmap{K:Type}(r:Nat)(fk:K→Value)(m:List (K × Int)):Blk:=mapCB fk (P2 r) m
def ptrO(r:Nat):Option Int→C
 | some i=>P2 r i
 | none=>.imm (.val (.pointer none))
theorem an4{r:Nat}{o:Option Int}{i:Int}(h:o=some i):some (T.c (ptrO r o))=some (T.c (.ptr (r,[i.toNat]) 0 0)):=by rw [h]; rfl
theorem W3{size:Nat}{f:α→List I}{E:List α}{p:List Nat}{b:Blk}(h:(pool size f E).sub p=some b):∃ i e,p=[i]∧E[i]? =some e∧b=vec size f [e]:=by
 cases p with
 | nil=>cases h
 | cons i q=>
  simp only [pool,Ent.sub,List.getElem?_map] at h
  cases hi:E[i]? with
  | none=>simp [hi] at h
  | some e=>
   rw [hi] at h
   cases q with
   | nil=>simp only [Option.map_some,Ent.sub,Option.some.injEq] at h; exact ⟨i,e,rfl,hi,h.symm⟩
   | cons=>simp [Ent.sub] at h
theorem aq6{size:Nat}{f:α→List I}{E:List α}{i:Nat}{e:α}(h:E[i]? =some e):(pool size f E).sub [i]=some (vec size f [e]):=by
 simp [pool,Ent.sub,h]
theorem o7{σ:b8}{r size:Nat}{f:α→List I}{E:List α}{i:Int}{e:α}(h:σ[r]? =some (pool size f E))(he:ix E i=some e):σ[((r,[i.toNat]):Id)]? =some (some (.cells size [(f e).map .imm])):=by
 rw [s9 h,aq6 (T6 he).2]; rfl
theorem n3{size n:Nat}{f:α→List I}{E:List α}:∀ q b,(pool size f E).sub q=some b→b.ok n=true:=fun q b h=>by
 obtain ⟨i,e,_,_,rfl⟩:=W3 h; exact J8
theorem pool_no{size:Nat}{f:α→List I}{E:List α}{id:Id}:∀ q b,(pool size f E).sub q=some b→b.no id=true:=fun q b h=>by
 obtain ⟨i,e,_,_,rfl⟩:=W3 h; exact Blk.im_no _ _ _
theorem pool_fwd{size:Nat}{f:α→List I}{E:List α}{π:Id→Id}:∀ p b,(pool size f E).sub p=some b→(pool size f E).sub p=some (b.ren π):=fun p b h=>by
 obtain ⟨i,e,rfl,_,rfl⟩:=W3 h; rw [h,I7]
theorem pool_bwd{size:Nat}{f:α→List I}{E:List α}{π:Id→Id}:∀ p b,(pool size f E).sub p=some b→∃ b0,(pool size f E).sub p=some b0∧b=b0.ren π:=fun p b h=>by
 obtain ⟨i,e,rfl,_,rfl⟩:=W3 h; exact ⟨_,h,I7.symm⟩
theorem RenE.pool{size r r':Nat}{f:α→List I}{E:List α}{π:Id→Id}:RenE π r (Ab.pool size f E) r' (Ab.pool size f E):=.any pool_fwd pool_bwd
theorem u6.pool{size r m a:Nat}{f:α→List I}{E:List α}{n:Id}{σ:b8}(hσ:σ[r]? =some (Ab.pool size f E)):u6 (a,[]) n σ m r (Ab.pool size f E):=by
 show ∀ (p:List Nat) (b:Blk),(Ab.pool size f E).sub p=some b→_
 intro p b hb
 obtain ⟨i,e,rfl,_,rfl⟩:=W3 hb
 have hm:mv (a,[]) n (r,[i])=(r,[i]):=by
  have:((r,[i]):Id) ≠ (a,[]):=fun e=>by cases e
  simp [mv,H9 this]
 rw [hm,s9 hσ,hb]
 exact ⟨J8,by rw [I7]⟩
theorem u6.poolR{size r m a q:Nat}{f:α→List I}{E:List α}{n:Id}{σ:b8}(h:Nat.beq a r=false)(hσ:σ[r]? =some (Ab.pool size f E)):u6 (a,[q]) n σ m r (Ab.pool size f E):=by
 show ∀ (p:List Nat) (b:Blk),(Ab.pool size f E).sub p=some b→_
 intro p b hb
 obtain ⟨i,e,rfl,_,rfl⟩:=W3 hb
 have hm:mv (a,[q]) n (r,[i])=(r,[i]):=by
  have:((r,[i]):Id) ≠ (a,[q]):=fun e=>by cases e; simp at h
  simp [mv,H9 this]
 rw [hm,s9 hσ,hb]
 exact ⟨J8,by rw [I7]⟩
theorem EntR.pool{size r n m i j:Nat}{f:α→List I}{E:List α}{σ:b8}(hj:(mvr r n (i,[])).1=j)(hσ:σ[j]? =some (Ab.pool size f E)):EntR r n σ m i (Ab.pool size f E):=.any fun p b hb=>by
 have e:∀ q,mvr r n (i,q)=(j,q):=fun q=>by rw [← hj]; rfl
 obtain ⟨k,e0,rfl,_,rfl⟩:=W3 hb
 rw [e,s9 hσ,hb]
 exact ⟨J8,by rw [I7]⟩
theorem FrzB.pool{size:Nat}{f:α→List I}{E:List α}{id:Id}{X:C→C→Prop}:FrzB id X (Ab.pool size f E) (Ab.pool size f E):=by
 show _=_∧_
 exact ⟨rfl,fun p b h=>pool_no p b h⟩
/-! ### Rows and maps of pointers among other blocks -/
theorem j7{r n:Nat}{l:List Int}(h:Nat.blt r n=true):(prow r l).ok n=true:=by
 simp only [prow,Blk.ok,List.all_map,List.all_eq_true]
 intro i _
 simp [C.okL,C.ok] at h ⊢
 exact h
theorem prow_no{r a:Nat}{l:List Int}:(prow r l).no (a,[])=true:=by
 simp only [prow,Blk.no,List.all_map,List.all_eq_true]
 intro i _
 have:idb ((r,[i.toNat]):Id) (a,[])=false:=H9 (fun e=>by cases e)
 simp [C.noL,C.no,this]
theorem prow_noR{r a p:Nat}{l:List Int}(h:Nat.beq a r=false):(prow r l).no (a,[p])=true:=by
 simp only [prow,Blk.no,List.all_map,List.all_eq_true]
 intro i _
 have:idb ((r,[i.toNat]):Id) (a,[p])=false:=H9 (fun e=>by cases e; simp at h)
 simp [C.noL,C.no,this]
theorem i8{r r':Nat}{l:List Int}{π:Id→Id}(h:∀ q,π (r,q)=(r',q)):(prow r l).ren π=prow r' l:=by
 simp [prow,Blk.ren,C.renL,C.ren,h]
theorem L9{r:Nat}{l:List Int}{a:Nat}{n:Id}:(prow r l).ren (mv (a,[]) n)=prow r l:=Blk.ren_no _ prow_no
theorem prow_mvR{r a q:Nat}{l:List Int}{n:Id}(h:Nat.beq a r=false):(prow r l).ren (mv (a,[q]) n)=prow r l:=Blk.ren_no _ (prow_noR h)
theorem y6{i n:Id}{id:Id}{b:Blk}{σ:b8}(h:σ[i]? =some (some b))(e:b.ren (mv id n)=b):σ[i]? =some (some (b.ren (mv id n))):=by rw [e]; exact h
theorem F9{r n i:Nat}{b b':Blk}{σ:b8}{j:Id}(hj:mvr r n (i,[])=j)(h:σ[j]? =some (some b'))(e:b.ren (mvr r n)=b'):σ[mvr r n (i,[])]? =some (some (b.ren (mvr r n))):=by rw [hj,e]; exact h
theorem renL_map{r r':Nat}{K:Type}{m:List (K × Int)}{π:Id→Id}(h:∀ q,π (r,q)=(r',q)):C.renL π (m.map fun p=>P2 r p.2)=m.map fun p=>P2 r' p.2:=by
 induction m with
 | nil=>rfl
 | cons p m ih=>
  have e:C.ren π (P2 r p.2)=P2 r' p.2:=by simp [P2,C.ren,h]
  simp only [List.map_cons,C.renL,ih,e]
section
variable {K:Type} {fk:K→Value} {r:Nat} {m:List (K × Int)}
theorem l0{n:Nat}(h:Nat.blt r n=true):(pmap r fk m).ok n=true:=by
 simp only [pmap,mapCB,Blk.ok]
 rw [J5,List.all_map,List.all_eq_true]
 intro p _
 simpa [P2,C.ok] using h
theorem pmap_no{a:Nat}:(pmap r fk m).no (a,[])=true:=by
 simp only [pmap,mapCB,Blk.no]
 rw [noL_eq,List.all_map,List.all_eq_true]
 intro p _
 have:idb ((r,[p.2.toNat]):Id) (a,[])=false:=H9 (fun e=>by cases e)
 simp [P2,C.no,this]
theorem pmap_noR{a q:Nat}(h:Nat.beq a r=false):(pmap r fk m).no (a,[q])=true:=by
 simp only [pmap,mapCB,Blk.no]
 rw [noL_eq,List.all_map,List.all_eq_true]
 intro p _
 have:idb ((r,[p.2.toNat]):Id) (a,[q])=false:=H9 (fun e=>by cases e; simp at h)
 simp [P2,C.no,this]
theorem m7{r':Nat}{π:Id→Id}(h:∀ q,π (r,q)=(r',q)):(pmap r fk m).ren π=pmap r' fk m:=by
 simp only [pmap,mapCB,Blk.ren,renL_map h]
theorem L5{a:Nat}{n:Id}:(pmap r fk m).ren (mv (a,[]) n)=pmap r fk m:=Blk.ren_no _ pmap_no
theorem pmap_mvR{a q:Nat}{n:Id}(h:Nat.beq a r=false):(pmap r fk m).ren (mv (a,[q]) n)=pmap r fk m:=Blk.ren_no _ (pmap_noR h)
end
theorem FrzB.prow{r a:Nat}{l:List Int}{X:C→C→Prop}:FrzB (a,[]) X (.one (Ab.prow r l)) (.one (Ab.prow r l)):=by
 have h:=prow_no (r:=r) (a:=a) (l:=l)
 unfold FrzB
 split
 ·rename_i h1 _; cases h1
 ·rename_i k1 e k2 e' h1 h2
  simp only [Ab.prow,Ent.one.injEq,Blk.cells.injEq] at h1 h2
  obtain ⟨rfl,h1⟩:=h1
  obtain ⟨rfl,h2⟩:=h2
  have:e=e':=by rw [h1] at h2; simpa using h2
  subst this
  refine ⟨rfl, ?_⟩
  obtain ⟨i,rfl⟩:∃ i,l=[i]:=by
   cases l with
   | nil=>simp at h1
   | cons i l=>cases l with
    | nil=>exact ⟨i,rfl⟩
    | cons b l=>simp at h1
  simp only [List.map_cons,List.map_nil,List.cons.injEq,and_true] at h1
  subst h1
  refine ⟨.inl ⟨rfl, ?_⟩,trivial⟩
  have:idb ((r,[i.toNat]):Id) (a,[])=false:=H9 (fun e=>by cases e)
  simp [C.no,this]
 ·rename_i h1 h2
  cases h1; cases h2
  exact ⟨rfl,h⟩
 ·rename_i h1; cases h1
 ·rename_i h1 h2 h3 h4
  first | exact (h3 _ _ rfl rfl).elim | exact (h4 _ _ rfl rfl).elim | exact (h2 _ _ rfl rfl).elim
end
section
variable {P:Program} {σ0:b8} {sz:Nat} {Q:Post} {env env':Env} {σv σ':b8} {ops:Array Oper} {rest:List Oper} {dst:Option Nat} {ty:TypeId} {pos:String} {after:Array Edge}
/-! ### Rows of pointers -/
theorem S.loadP{x:Operand}{t:TypeId}{d:TypeDesc}{h r:Nat}{i a:Int}{l:List Int}[ht:TyD P t d](he:ix l i=some a)(ha:B4 d=false)(hx:ev env x=some (.c (.ptr (h,[]) i.toNat 0)))(hσ:σv[((h,[]):Id)]? =some (some (prow r l)))(hd:g8 sz dst=true)
  (hh:AOps P σ0 sz ops Q rest (St.mk (putE env dst (.c (.ptr (r,[a.toNat]) 0 0))) σv)):AOps P σ0 sz ops Q (⟨dst,.load t x,ty,pos,after,none⟩::rest) (St.mk env σv):=
 .E (e:=[.ptr (r,[a.toNat]) 0 0]) ha hx hσ (by rw [List.getElem?_map,(T6 he).2]; rfl) rfl hd hh
theorem S.storeP{x y:Operand}{t:TypeId}{bytes h r:Nat}{z:Value}{i:Nat}{a:Int}{l:List Int}[hs:TyS P t 1 bytes z](hi:i<l.length)(hx:ev env x=some (.c (.ptr (h,[]) i 0)))(hy:ev env y=some (.c (.ptr (r,[a.toNat]) 0 0)))
  (hσ:σv[((h,[]):Id)]? =some (some (prow r l))) (hσ':putF σv (h,[]) (some (prow r (l.set i a)))=some σ') (hh:AOps P σ0 sz ops Q rest (St.mk env σ')):AOps P σ0 sz ops Q (⟨none,.store t x y,ty,pos,after,none⟩::rest) (St.mk env σv):=by
 have h2:=y4 hσ'
 subst h2
 refine AOps.store hx hy hσ (by rw [List.getElem?_map,List.getElem?_eq_getElem hi]; rfl) (by simp) ?_
 have e:(l.map fun i=>[C.ptr (r,[i.toNat]) 0 0]).set i [.ptr (r,[a.toNat]) 0 0]=(l.set i a).map fun i=>[C.ptr (r,[i.toNat]) 0 0]:=by rw [List.map_set]
 simp only [List.set_cons_zero]
 rw [e]
 exact hh
theorem S.appendP{x y:Operand}{t e:TypeId}{bytes m k h s r:Nat}{n:Id}{z:Value}{l new l':List Int}{σ1:b8}[ht:TyD P t (.slice e)][hs:TyS P e 1 bytes z]
  (ha:app bytes l new=some l') (hzk:(z.cells.size==1)=true) (hbp:Nat.blt 0 bytes=true) (hx:ev env x=some (.c (.own (h,[]) 0 m))) (hm:m=l.length) (hσ:σv[((h,[]):Id)]? =some (some (prow r l)))
  (hy:ev env y=some (.c (.own (s,[]) 0 k))) (hk:k=new.length) (hs':σv[((s,[]):Id)]? =some (some (prow r new))) (hn:newF σv=some n) (h1:putF σv (h,[]) none=some σ1) (hσ':s6 σ1 (.one (prow r l'))=some σ') (hd:g8 sz dst=true)
  (hh:AOps P σ0 sz ops Q rest (St.mk (putE env dst (.c (.own n 0 l'.length))) σ')):AOps P σ0 sz ops Q (⟨dst,.call ⟨.builtin .append,#[x,y],#[t,t]⟩,ty,pos,after,none⟩::rest) (St.mk env σv):=by
 obtain ⟨hb,rfl⟩:=app_get ha
 have h2:=y4 h1
 have h3:=z6 hn; have h4:=p8 hσ'
 subst hm hk h2 h3 h4
 have hsrc:=Src.own (σ:=σv) (j:=0) (n:=new.length) hs'
 refine AOps.append hzk hbp hx hσ hy hsrc ?_ hd ?_
 ·rw [List.drop_zero,List.take_of_length_le (by simp)]; simpa using hb
 ·have e1:(((l.map fun i=>[C.ptr (r,[i.toNat]) 0 0]).drop 0).take l.length)++(((new.map fun i=>[C.ptr (r,[i.toNat]) 0 0]).drop 0).take new.length)=(l++new).map fun i=>[C.ptr (r,[i.toNat]) 0 0]:=by
   rw [List.drop_zero,List.drop_zero,List.take_of_length_le (by simp),List.take_of_length_le (by simp)]; simp
  have e2:l.length+((((new.map fun i=>[C.ptr (r,[i.toNat]) 0 0]).drop 0).take new.length)).length=(l++new).length:=by simp
  rw [e1,e2]
  exact hh
theorem S.shrinkP{x y:Operand}{t e:TypeId}{bytes n h r:Nat}{z:Value}{kk:IntKind}{hi:Int}{l l':List Int}[ht:TyD P t (.slice e)][hs:TyS P e 1 bytes z]
  (hl:subL l 0 hi=some l') (hx:ev env x=some (.c (.own (h,[]) 0 n))) (hn:n=l.length) (hσ:σv[((h,[]):Id)]? =some (some (prow r l))) (hy:ev env y=some (.c (.imm (.val (.int kk hi))))) (hd:g8 sz dst=true)
  (hh:AOps P σ0 sz ops Q rest (St.mk (putE env dst (.c (.own (h,[]) 0 l'.length))) σv)):AOps P σ0 sz ops Q (⟨dst,.slice t x none (some y) none,ty,pos,after,none⟩::rest) (St.mk env σv):=by
 unfold subL at hl
 split at hl
 ·rename_i hc
  cases hl
  have e1:hi=((hi.toNat:Nat):Int):=by omega
  rw [e1] at hy
  refine AOps.sliceOwnTo hx hσ hy (by omega) hd ?_
  rw [show (List.drop (Int.toNat 0) (List.take hi.toNat l)).length=hi.toNat by simp; omega] at hh
  exact hh
 ·cases hl
/-! ### Entries -/
theorem setF_at{σ σ':b8}{n:Nat}{e e':Ent}(h:σ[n]? =some e)(h':setF σ n e'=some σ')(i:Id):σ'[i]? =if i.1=n then some (e'.sub i.2) else σ[i]? :=by
 obtain ⟨rfl,_⟩:=U3 h'
 exact set_ent h i
theorem S.storeE{α:Type}{size bytes o r:Nat}{f:α→List I}{E:List α}{i:Int}{e e':α}{c:I}{x y:Operand}{t:TypeId}{z:Value}[hs:TyS P t 1 bytes z](he:ix E i=some e)(hl:Nat.blt o (f e).length=true)(hf:(f e).set o c=f e')(hx:ev env x=some (.c (.ptr (r,[i.toNat]) 0 o)))(hy:ev env y=some (.c (.imm c)))
  (hσ:σv[r]? =some (pool size f E)) (hσ':setF σv r (pool size f (E.set i.toNat e'))=some σ') (hh:AOps P σ0 sz ops Q rest (St.mk env σ')):AOps P σ0 sz ops Q (⟨none,.store t x y,ty,pos,after,none⟩::rest) (St.mk env σv):=by
 have hlt:=i5 he
 have hlo:o<((f e).map C.imm).length:=by rw [List.length_map]; exact Nat.le_of_ble_eq_true hl
 refine AOps.store hx hy (o7 hσ he) rfl hlo ?_
 have e1:([(f e).map C.imm].set 0 (((f e).map C.imm).set o (.imm c)))=[(f e').map C.imm]:=by
  rw [← hf,List.map_set]; rfl
 rw [e1]
 have h2:=(U3 hσ').1
 refine AOps.sub (Sub.same (by rw [h2]; simp) fun j=> ?_) hh
 rw [setF_at hσ hσ']
 have hb:σv[((r,[i.toNat]):Id)]? =some (some (.cells size [(f e).map .imm])):=o7 hσ he
 by_cases hj:j=(r,[i.toNat])
 ·subst hj
  rw [b8.get_put_eq hb,if_pos rfl,aq6 (e:=e') (by simp [hlt])]
  rfl
 ·rw [b8.get_put_ne hj]
  by_cases hr:j.1=r
  ·obtain ⟨j1,q⟩:=j
   simp only at hr
   subst hr
   rw [if_pos rfl,s9 hσ]
   congr 1
   cases q with
   | nil=>rfl
   | cons a q=>
    simp only [pool,Ent.sub,List.getElem?_map,List.getElem?_set]
    by_cases ha:i.toNat=a
    ·subst ha
     cases q with
     | nil=>exact absurd rfl hj
     | cons b q=>
      rw [if_pos rfl,if_pos hlt,(T6 he).2]
      rfl
    ·rw [if_neg ha]
  ·rw [if_neg hr]
def chkH(n:Nat)(l:List Int):Option Unit:=if ∀ i ∈ l,i.toNat<n then some () else none
theorem chkH_get{n:Nat}{l:List Int}{u:Unit}(h:chkH n l=some u):∀ i ∈ l,i.toNat<n:=by
 unfold chkH at h
 split at h
 ·assumption
 ·cases h
theorem u6.adopt{α:Type}{size r m n:Nat}{f:α→List I}{E:List α}{e:α}{σ:b8}(hσ:σ[r]? =some (Ab.pool size f E))(hn:σ[((n,[]):Id)]? =some (some (vec size f [e]))):u6 (r,[E.length]) (n,[]) σ m r (Ab.pool size f (E++[e])):=by
 show ∀ (p:List Nat) (b:Blk),(Ab.pool size f (E++[e])).sub p=some b→_
 intro p b hb
 obtain ⟨i,e0,rfl,hi,rfl⟩:=W3 hb
 refine ⟨J8, ?_⟩
 rw [I7]
 rw [List.getElem?_append] at hi
 split at hi
 ·rename_i hlt
  have hm:mv (r,[E.length]) (n,[]) (r,[i])=(r,[i]):=by
   have:((r,[i]):Id) ≠ (r,[E.length]):=fun e=>by cases e; omega
   simp [mv,H9 this]
  rw [hm,s9 hσ,aq6 hi]
 ·rename_i hge
  have hi0:i=E.length:=by
   have:=(List.getElem?_eq_some_iff.1 hi).1
   simp at this; omega
  subst hi0
  simp at hi
  subst hi
  have hm:mv (r,[E.length]) (n,[]) (r,[E.length])=(n,[]):=by simp [mv,L8.2 rfl]
  rw [hm,hn]
theorem prow_adopt{r k:Nat}{l:List Int}{n:Id}{u:Unit}(h:chkH k l=some u):(prow r l).ren (mv (r,[k]) n)=prow r l:=by
 refine Blk.ren_no _ ?_
 simp only [prow,Blk.no,List.all_map,List.all_eq_true]
 intro i hi
 have:=chkH_get h i hi
 have:idb ((r,[i.toNat]):Id) (r,[k])=false:=H9 (fun e=>by cases e; omega)
 simp [C.noL,C.no,this]
theorem pmap_adopt{K:Type}{fk:K→Value}{r k:Nat}{m:List (K × Int)}{n:Id}{u:Unit}(h:chkH k (m.map (·.2))=some u):(pmap r fk m).ren (mv (r,[k]) n)=pmap r fk m:=by
 refine Blk.ren_no _ ?_
 simp only [pmap,mapCB,Blk.no]
 rw [noL_eq,List.all_map,List.all_eq_true]
 intro p hp
 have:=chkH_get h p.2 (List.mem_map.2 ⟨p,hp,rfl⟩)
 have:idb ((r,[p.2.toNat]):Id) (r,[k])=false:=H9 (fun e=>by cases e; omega)
 simp [P2,C.no,this]
theorem ptr_adopt{r n:Nat}{k:Nat}:some (T.c (.ptr (n,[]) 0 0))=some (T.ren (mv (r,[k]) (n,[])) (.c (.ptr (r,[((k:Int)).toNat]) 0 0))):=by
 simp [T.ren,C.ren,mv,L8.2 rfl]
theorem ac3{i id n:Id}{b:Blk}{σ:b8}(h:σ[i]? =some (some b))(e:b.ren (mv id n)=b)(hm:mv id n i=i):σ[mv id n i]? =some (some (b.ren (mv id n))):=by rw [hm,e]; exact h
theorem af6{r k a:Nat}{n:Id}:mv (r,[k]) n (a,[])=(a,[]):=by
 have:((a,[]):Id) ≠ (r,[k]):=fun e=>by cases e
 simp [mv,H9 this]
theorem Sub.newPool{α:Type}{size:Nat}{f:α→List I}(hσ:s6 σv (pool size f ([]:List α))=some σ'):Sub σ0 ⟨env,σv⟩ ⟨env,σ'⟩:=by
 have h:=p8 hσ
 subst h
 intro Γ sz φ a w hΓ hR
 have hV:=hR.toRs.virt 1
 have hK:=hV.2.kill (σv.length,[])
 refine (Sub.same (σ0:=σ0) (env:=env) (σ1:=b8.put (σv++[Ent.one (Blk.cells 1 [])]) (σv.length,[]) none) (by simp) fun i=> ?_) Γ sz _ a w hΓ ((hR.of hV.1 hV.2).of hK.1 hK.2)
 by_cases hi:i=(σv.length,[])
 ·subst hi
  have e0:(σv++[Ent.one (Blk.cells 1 [])])[((σv.length,[]):Id)]? =some (some (Blk.cells 1 [])):=by
   rw [b8.get_right (by simp)]; simp [b8.at_eq,b8.at,Ent.sub]
  rw [b8.get_put_eq e0,b8.get_right (by simp)]
  simp [b8.at_eq,b8.at,pool,Ent.sub]
 ·rw [b8.get_put_ne hi]
  rcases Nat.lt_or_ge i.1 σv.length with hl | hl
  ·rw [b8.get_left hl,b8.get_left hl]
  ·rw [b8.get_right hl,b8.get_right hl]
   obtain ⟨i1,q⟩:=i
   rw [b8.at_eq,b8.at_eq]
   simp only [b8.at]
   cases hk:i1 - σv.length with
   | zero=>
    cases q with
    | nil=>exact absurd (by simp at hl; congr 1; omega) hi
    | cons a q=>simp [pool,Ent.sub]
   | succ m=>rfl
/-! ### Maps of pointers -/
section
variable {K:Type} [DecidableEq K] {V:Type} {fk:K→Value} {d:TypeDesc}
def mdel:List (K × V)→K→List (K × V)
 | [],_=>[]
 | p::r,k=>if k=p.1 then r else p::mdel r k
theorem an1(hk:KeyT d fk)(k:K):∀ (m:List (K × V)) (l:List MapEntry) (i:Nat),l.map (·.key)=(m.map (·.1)).map fk→
  (mget m k=none∧Instr.findNow d (fk k) l i=some none∧(∀ v,mset m k v=m++[(k,v)])∧mdel m k=m)∨
  ∃ j p e,m[j]? =some p∧mget m k=some p.2∧l[j]? =some e∧e.key=fk k∧Instr.findNow d (fk k) l i=some (some (i+j,e.val))∧(∀ v,mset m k v=m.set j (k,v))∧mdel m k=m.eraseIdx j
 | [],[],i,_=>.inl ⟨rfl,rfl,fun v=>rfl,rfl⟩
 | [],_::_,i,h=>by simp at h
 | _::_,[],i,h=>by simp at h
 | p::m,e::l,i,h=>by
  simp only [List.map_cons,List.cons.injEq] at h
  obtain ⟨h1,h3⟩:=h
  obtain ⟨r,hr,hiff⟩:∃ r,Instr.sameNow d (fk k) e.key=some r∧(r=true↔fk k=e.key):=Go.MapKept.sameNow_of_keys (hk.key k) (by rw [h1]; exact hk.key p.1)
  by_cases c:k=p.1
  ·have:r=true:=hiff.2 (by rw [h1,c])
   subst this
   exact .inr ⟨0,p,e,rfl,by simp [mget,c],rfl,by rw [h1,c],by simp [Instr.findNow,hr],fun v=>by simp [mset,c],by simp [mdel,c]⟩
  ·have:r=false:=by
    cases r with
    | false=>rfl
    | true=>exact absurd (hk.inj ((hiff.1 rfl).trans h1)) c
   subst this
   rcases an1 hk k m l (i+1) h3 with ⟨g1,g2,g3,g4⟩ | ⟨j,p',e',g1,g2,g3,g4,g5,g6,g7⟩
   ·exact .inl ⟨by simp [mget,c,g1],by simp [Instr.findNow,hr,g2],fun v=>by simp [mset,c,g3],by simp [mdel,c,g4]⟩
   ·exact .inr ⟨j+1,p',e',by simpa using g1,by simp [mget,c,g2],by simpa using g3,g4,by simp [Instr.findNow,hr,g5]; omega,fun v=>by simp [mset,c,g6],by simp [mdel,c,g7]⟩
theorem al1{w:World}{φ:Phi}{σ:b8}{A:Nat→Prop}{id:Id}{p:Obj→List Value→Prop}{cs:List C}{u:Value}(h:RelT w φ σ A (.c (.map id)) u)(hσ:σ[id]? =some (some (.obj p cs))):∃ b base,φ id=some (b,base)∧u=.map (some b):=by
 cases h with | c h=>cases h with | map hid h1 h=>exact h _ _ hσ
theorem W.makeMapP{t:TypeId}{id:Id}(r:Nat)(fk:K→Value)(hid:newF σv=some id)(hσ:s6 σv (.one (pmap r fk ([]:List (K × Int))))=some σ')(hd:g8 sz dst=true)
  (h:AOps P σ0 sz ops Q rest (St.mk (putE env dst (.c (.map id))) σ')):AOps P σ0 sz ops Q (⟨dst,.makeMap t none,ty,pos,after,none⟩::rest) (St.mk env σv):=by
 have h2:=z6 hid; have h3:=p8 hσ
 subst h2 h3
 refine .valueW rfl hd _ _ (fun Γ φ a w hR=> ?_) h
 have hA:=Rs.allocB (p0:=P4 fk []) (cs0:=[]) (us0:=[]) (obj:=.map #[] 0) hR.toRs ⟨#[],0,rfl,rfl,rfl⟩ (fun i x hx=>by simp at hx)
 exact ⟨.map (some w.heap.size),w.alloc (.map #[] 0),_,by simp [execOp,Instr.makeMap],.c (.map (by simp) rfl fun p cs hp=>⟨w.heap.size,0,by simp [n5],rfl⟩),hR.of hA.1 hA.2⟩
theorem S.lookupOkP{x y:Operand}{t kt vt:TypeId}{id:Id}{r:Nat}{m:List (K × Int)}{k:K}{size bytes:Nat}{zv:Value}[ht:TyD P t (.map kt vt)][hkt:TyD P kt d][hs:TyS P vt size bytes zv](hk:KeyT d fk)(hz:zv=.pointer none)
  (hx:ev env x=some (.c (.map id))) (hy:ev env y=some (.c (.imm (.val (fk k))))) (hσ:σv[id]? =some (some (pmap r fk m))) (hd:g8 sz dst=true)
  (h:AOps P σ0 sz ops Q rest (St.mk (putE env dst (.tup [.c (ptrO r (mget m k)),.c (bool (mget m k).isSome)])) σv)):AOps P σ0 sz ops Q (⟨dst,.lookup t x y true,ty,pos,after,none⟩::rest) (St.mk env σv):=by
 refine .valueW rfl hd _ _ (fun Γ φ a w hR=> ?_) h
 obtain ⟨b,base,hp,hv⟩:=al1 (i6 hR hx) hσ
 obtain ⟨hv2,_⟩:=F1 (i6 hR hy)
 obtain ⟨b',o,us,g1,g2,⟨es,c,rfl,g3,g4⟩,g5⟩:=hR.st.blk _ _ hσ
 rw [hp] at g1; cases g1
 rcases an1 hk k m es.toList 0 g3 with ⟨q1,q2,_⟩ | ⟨j,p,e,q0,q1,q3,q4,q2,_⟩
 ·refine ⟨.tuple #[.pointer none,.bool false],w,φ, ?_,RelT.tup' (vs:=[.pointer none,.bool false]) rfl (fun i t u hi hu=> ?_),hR⟩
  ·simp [execOp,hv,hv2,Instr.lookup,run_underlying ht.h,Go.MapKept.run_getObj_map g2,Go.MapKept.run_checkKey hkt.h (hk.key k),Go.MapKept.run_findKey hkt.h q2,G9 (t:=vt),hz,Result.andThen]
  ·match i with
   | 0=>cases hi; cases hu; rw [q1]; exact .c (.imm (.val rfl))
   | 1=>cases hi; cases hu; rw [q1]; exact .bool _
   | i+2=>simp at hi
 ·obtain ⟨u,hu,hru⟩:=g5 j (P2 r p.2) (by rw [List.getElem?_map,q0]; rfl)
  have hue:u=e.val:=by
   rw [← g4,List.getElem?_map,q3] at hu
   simpa using hu.symm
  subst hue
  refine ⟨.tuple #[e.val,.bool true],w,φ, ?_,RelT.tup' (vs:=[e.val,.bool true]) rfl (fun i t u hi hu=> ?_),hR⟩
  ·simp [execOp,hv,hv2,Instr.lookup,run_underlying ht.h,Go.MapKept.run_getObj_map g2,Go.MapKept.run_checkKey hkt.h (hk.key k),Go.MapKept.run_findKey hkt.h q2,Result.andThen]
  ·match i with
   | 0=>cases hi; cases hu; rw [q1]; exact .c hru
   | 1=>cases hi; cases hu; rw [q1]; exact .bool _
   | i+2=>simp at hi
theorem S.mapUpdateP{x y v:Operand}{t kt vt:TypeId}{id:Id}{r:Nat}{m:List (K × Int)}{k:K}{a:Int}[ht:TyD P t (.map kt vt)][hkt:TyD P kt d](hk:KeyT d fk)
  (hx:ev env x=some (.c (.map id))) (hy:ev env y=some (.c (.imm (.val (fk k))))) (hv:ev env v=some (.c (.ptr (r,[a.toNat]) 0 0))) (hσ:σv[id]? =some (some (pmap r fk m))) (hσ':putF σv id (some (pmap r fk (mset m k a)))=some σ')
  (h:AOps P σ0 sz ops Q rest (St.mk env σ')):AOps P σ0 sz ops Q (⟨none,.mapUpdate t x y v,ty,pos,after,none⟩::rest) (St.mk env σv):=by
 have h2:=y4 hσ'
 subst h2
 refine .skipW rfl rfl _ (fun Γ φ ac w hR=> ?_) h
 obtain ⟨b,base,hp,e1⟩:=al1 (i6 hR hx) hσ
 obtain ⟨e2,_⟩:=F1 (i6 hR hy)
 have hrv:=i6 hR hv
 generalize e3:ac.eval v=u at hrv
 have hru:RelC w φ σv (Al Γ.N φ σv) (P2 r a) u:=by cases hrv with | c h=>exact h
 obtain ⟨b',o,us,g1,g2,⟨es,c,rfl,g3,g4⟩,g5⟩:=hR.st.blk _ _ hσ
 rw [hp] at g1; cases g1
 rcases an1 hk k m es.toList 0 g3 with ⟨q1,q2,q3,_⟩ | ⟨j,p,e,q0,q1,q3,q4,q2,q5,_⟩
 ·have hW:=Rs.writeB (q1:=P4 fk ((mset m k a).map (·.1))) (cs1:=(mset m k a).map fun p=>P2 r p.2) (us1:=us++[u]) (o1:=.map (es.push {key:=fk k,val:=u,born:=c}) (c+1)) hR.toRs hσ hp g2
   ⟨_,_,rfl,by rw [q3]; simp [g3],by simp [g4]⟩ (fun i x hx=>by
    rw [q3,List.map_append,List.getElem?_append] at hx
    split at hx
    ·obtain ⟨u',h1,h2⟩:=g5 i x hx
     exact ⟨u',by rw [List.getElem?_append_left (List.getElem?_eq_some_iff.1 h1).1]; exact h1,h2⟩
    ·rename_i hge
     have hl:us.length=m.length:=by rw [← g4]; have:=congrArg List.length g3; simpa using this
     simp only [List.length_map] at hx hge
     have h0:i=m.length:=by
      have:=(List.getElem?_eq_some_iff.1 hx).1
      simp at this; omega
     subst h0
     simp at hx
     subst hx
     exact ⟨u,by rw [← hl]; simp,hru⟩)
  refine ⟨_,φ, ?_,hR.of hW.1 hW.2⟩
  simp [execOp,e1,e2,e3,Instr.mapUpdate,run_underlying ht.h,Go.MapKept.run_getObj_map g2,Go.MapKept.run_checkKey hkt.h (hk.key k),Go.MapKept.run_findKey hkt.h q2,Go.MapKept.run_setObj_map _ g2,Result.andThen]
 ·have hj:es[j]? =some e:=by simpa using q3
  have hW:=Rs.writeB (q1:=P4 fk ((mset m k a).map (·.1))) (cs1:=(mset m k a).map fun p=>P2 r p.2) (us1:=us.set j u) (o1:=.map (es.modify j fun e=>{e with key:=fk k,val:=u}) c) hR.toRs hσ hp g2
   ⟨_,_,rfl,by
    rw [q5,Array.toList_modify]
    apply List.ext_getElem?
    intro i
    have hg:=congrArg (fun l=>l[i]?) g3
    simp only [List.getElem?_map,List.getElem?_modify,List.getElem?_set] at hg ⊢
    by_cases hi:j=i
    ·subst hi
     have hlt:=(List.getElem?_eq_some_iff.1 q0).1
     simp [q3,hlt]
    ·simpa [hi] using hg,by
    rw [Array.toList_modify]
    apply List.ext_getElem?
    intro i
    have hg:=congrArg (fun l=>l[i]?) g4
    simp only [List.getElem?_map,List.getElem?_modify,List.getElem?_set] at hg ⊢
    by_cases hi:j=i
    ·subst hi
     have hlt:j<us.length:=by rw [← g4]; simpa using (List.getElem?_eq_some_iff.1 q3).1
     simp [q3,hlt]
    ·simpa [hi] using hg⟩ (fun i x hx=>by
    rw [q5,List.getElem?_map,List.getElem?_set] at hx
    by_cases hi:j=i
    ·subst hi
     have hlt:=(List.getElem?_eq_some_iff.1 q0).1
     have hlu:j<us.length:=by rw [← g4]; simpa using (List.getElem?_eq_some_iff.1 q3).1
     simp [hlt] at hx
     subst hx
     exact ⟨u,by simp [hlu],hru⟩
    ·rw [if_neg hi,← List.getElem?_map] at hx
     obtain ⟨u',h1,h2⟩:=g5 i x hx
     exact ⟨u',by rw [List.getElem?_set,if_neg hi]; exact h1,h2⟩)
  refine ⟨_,φ, ?_,hR.of hW.1 hW.2⟩
  simp [execOp,e1,e2,e3,Instr.mapUpdate,run_underlying ht.h,Go.MapKept.run_getObj_map g2,Go.MapKept.run_checkKey hkt.h (hk.key k),Go.MapKept.run_findKey hkt.h q2,hj,q4,Go.MapKept.run_keyThatStays (hk.key k),Go.MapKept.run_setObj_map _ g2,Result.andThen]
theorem ac5{A B:Type}(f:A→B):∀ (l:List A) (j:Nat),(l.map f).eraseIdx j=(l.eraseIdx j).map f
 | [],_=>rfl
 | _::_,0=>rfl
 | a::l,j+1=>by simp [ac5 f l j]
theorem erase_rel{es:Array MapEntry}{us:List Value}{m:List (K × Int)}{r j:Nat}(g3:es.toList.map (·.key)=(m.map (·.1)).map fk)(g4:es.toList.map (·.val)=us):
  (es.eraseIdxIfInBounds j).toList.map (·.key)=((m.eraseIdx j).map (·.1)).map fk∧(es.eraseIdxIfInBounds j).toList.map (·.val)=us.eraseIdx j:=by
 have e0:(es.eraseIdxIfInBounds j).toList=es.toList.eraseIdx j:=by
  unfold Array.eraseIdxIfInBounds
  split
  ·rw [Array.toList_eraseIdx]
  ·rename_i h
   rw [List.eraseIdx_of_length_le (by simpa using h)]
 rw [e0]
 exact ⟨by rw [← ac5,g3,← ac5,← ac5],by rw [← ac5,g4]⟩
theorem S.deleteP{x y:Operand}{t kt kt' vt:TypeId}{id:Id}{r:Nat}{m:List (K × Int)}{k:K}[ht:TyD P t (.map kt vt)][hkt:TyD P kt d](hk:KeyT d fk)
  (hx:ev env x=some (.c (.map id))) (hy:ev env y=some (.c (.imm (.val (fk k))))) (hσ:σv[id]? =some (some (pmap r fk m))) (hd:g8 sz dst=true) (hσ':putF σv id (some (pmap r fk (mdel m k)))=some σ')
  (h:AOps P σ0 sz ops Q rest (St.mk (putE env dst (.tup [])) σ')):AOps P σ0 sz ops Q (⟨dst,.call ⟨.builtin .delete,#[x,y],#[t,kt']⟩,ty,pos,after,none⟩::rest) (St.mk env σv):=by
 have h2:=y4 hσ'
 subst h2
 refine .valueW rfl hd (.tup []) _ (fun Γ φ ac w hR=> ?_) h
 obtain ⟨b,base,hp,e1⟩:=al1 (i6 hR hx) hσ
 obtain ⟨e2,_⟩:=F1 (i6 hR hy)
 obtain ⟨b',o,us,g1,g2,⟨es,c,rfl,g3,g4⟩,g5⟩:=hR.st.blk _ _ hσ
 rw [hp] at g1; cases g1
 have hnil:∀ w φ σ A,RelT w φ σ A (.tup []) (.tuple #[]):=fun w φ σ A=>RelT.tup' (vs:=[]) rfl (fun i t u hi=>by simp at hi)
 rcases an1 hk k m es.toList 0 g3 with ⟨q1,q2,_,q6⟩ | ⟨j,p,e,q0,q1,q3,q4,q2,_,q6⟩
 ·have hW:=Rs.writeB (q1:=P4 fk ((mdel m k).map (·.1))) (cs1:=(mdel m k).map fun p=>P2 r p.2) (us1:=us) (o1:=.map es c) hR.toRs hσ hp g2 ⟨_,_,rfl,by rw [q6]; exact g3,g4⟩ (fun i x hx=>by rw [q6] at hx; exact g5 i x hx)
  refine ⟨.tuple #[],_,φ, ?_,hnil _ _ _ _,hR.of hW.1 hW.2⟩
  simp [execOp,resolve,invoke,builtin,e1,e2,Builtin.delete_,run_underlying ht.h,Go.MapKept.run_getObj_map g2,Go.MapKept.run_checkKey hkt.h (hk.key k),Go.MapKept.run_findKey hkt.h q2,Go.MapKept.run_setObj_map _ g2,Result.andThen]
 ·have he:=erase_rel (r:=r) (j:=j) g3 g4
  have hW:=Rs.writeB (q1:=P4 fk ((mdel m k).map (·.1))) (cs1:=(mdel m k).map fun p=>P2 r p.2) (us1:=us.eraseIdx j) (o1:=.map (es.eraseIdxIfInBounds j) c) hR.toRs hσ hp g2 ⟨_,_,rfl,by rw [q6]; exact he.1,he.2⟩ (fun i x hx=>by
   rw [q6,← ac5,List.getElem?_eraseIdx] at hx
   rw [List.getElem?_eraseIdx]
   split at hx
   ·rename_i hlt
    obtain ⟨u,h1,h2⟩:=g5 i x hx
    exact ⟨u,by rw [if_pos hlt]; exact h1,h2⟩
   ·rename_i hge
    obtain ⟨u,h1,h2⟩:=g5 (i+1) x hx
    exact ⟨u,by rw [if_neg hge]; exact h1,h2⟩)
  refine ⟨.tuple #[],_,φ, ?_,hnil _ _ _ _,hR.of hW.1 hW.2⟩
  simp [execOp,resolve,invoke,builtin,e1,e2,Builtin.delete_,run_underlying ht.h,Go.MapKept.run_getObj_map g2,Go.MapKept.run_checkKey hkt.h (hk.key k),Go.MapKept.run_findKey hkt.h q2,Go.MapKept.run_setObj_map _ g2,Result.andThen]
end
/-! ### A view becomes a row of its own -/
theorem Sub.reownC{id:Id}{k j n:Nat}{es:List (List C)}{n':Id}{σ1:b8}(t:Nat)(hx:lookup t env=some (.c (.own id j n)))(hσ:σv[id]? =some (some (.cells k es)))(hjl:j+n≤es.length)(h0:Nat.ble σ0.length id.1=true)(hid:newF σv=some n')
  (h1:putF σv id none=some σ1) (hσ':s6 σ1 (.one (.cells k ((es.drop j).take n)))=some σ') (henv:ReE env t (.own n' 0 n) env'):Sub σ0 ⟨env,σv⟩ ⟨env',σ'⟩:=fun Γ sz φ a w hΓ hR=>by
 have h2:=y4 h1
 have h3:=z6 hid; have h4:=p8 hσ'
 have hvl:((es.drop j).take n).length=n:=by rw [List.length_take,List.length_drop]; omega
 subst h2 h3 h4
 generalize hes:(es.drop j).take n=es' at *
 have at_new:(σv.put id none++[Ent.one (.cells k es')])[((σv.length,[]):Id)]? =some (some (.cells k es')):=by
  rw [b8.get_right (by simp)]; simp [b8.at_eq,b8.at,Ent.sub]
 obtain ⟨u0,hu0,hrel⟩:=hR.env t _ hx
 have ho:=C2 hrel hσ
 have fin:∀ (φ':Phi) (hk:Kept w w φ φ' σv (σv.put id none++[.one (.cells k es')]) (Al Γ.N φ σv) (Al Γ.N φ' (σv.put id none++[.one (.cells k es')]))) (hs:Rs Γ (σv.put id none++[.one (.cells k es')]) φ' w) (hview:N7 w (φ' (σv.length,[])) k es'.length 0 n u0),
   R Γ sz ⟨env',σv.put id none++[.one (.cells k es')]⟩ φ' a w:=fun φ' hk hs hview=>by
  have hR1:=hR.of hk hs
  refine {toRs:=hs,defers:=hR1.defers,asize:=hR.asize,env:=fun t' v' ht'=> ?_}
  rcases henv.get t' v' ht' with ⟨rfl,rfl⟩ | h
  ·refine ⟨u0,hu0,.c (.own (by simp) (by cases hrel with | c g2=>exact g2.one) fun k' es2 he=> ?_)⟩
   rw [at_new] at he
   cases he
   exact hview
  ·obtain ⟨u1,g1,g2⟩:=hR1.env t' v' h
   exact ⟨u1,g1,g2⟩
 rcases ho with ⟨p1,p2,p3,p4⟩ | ⟨b,base,cap,arr,ety,ad,hp,hvv,had,hcap,hmax,hjn,hbk,hsz⟩
 ·have hnil:es'=[]:=List.eq_nil_of_length_eq_zero (by rw [hvl,p4])
  subst hnil
  have hK:=hR.toRs.kill id
  have hV:=hK.2.virt k
  rw [b8.length_put] at hV
  refine ⟨fun i=>if i=(σv.length,[]) then none else φ i, ?_⟩
  exact fin _ (Kept.trans (Nat.le_refl _) hK.1 hV.1) hV.2 (.inl ⟨by simp,p2,rfl,p4⟩)
 ·obtain ⟨arr2,ety2,q1,q2,q3,q4⟩:=C8 hR hσ hp
  rw [hbk] at q1; cases q1
  have hO:=Rs.reown (k:=k) (base':=base+j * k) (es':=es') (arr':=arr) hR.toRs hσ hp hbk (fun i e he=>by
    rw [← hes,List.getElem?_take] at he
    split at he
    ·rw [List.getElem?_drop] at he
     exact q3 _ e he
    ·cases he) (by
    rw [hvl]
    have:(j+cap) * k=j * k+cap * k:=Nat.add_mul ..
    have:n * k≤cap * k:=Nat.mul_le_mul_right k hcap
    omega) (fun i e o x he hx=>by
    rw [← hes,List.getElem?_take] at he
    split at he
    ·rw [List.getElem?_drop] at he
     obtain ⟨u2,g1,g2⟩:=q4 _ e o x he hx
     refine ⟨u2, ?_,g2⟩
     rw [← g1,Nat.add_mul]
     congr 1; omega
    ·cases he)
  rw [Go.setRow_self w b arr ety (0,0) hbk] at hO
  refine ⟨fun i=>if i=(σv.length,[]) then some (b,base+j * k) else φ i, ?_⟩
  refine fin _ hO.1 hO.2 (.inr ⟨b,base+j * k,cap,arr,ety,ad,by simp,hvv,fun hc=> ?_,hcap,hmax,by omega,hbk, ?_⟩)
  ·rw [had hc,Nat.zero_mul,Nat.add_zero]
  ·have:(j+cap) * k=j * k+cap * k:=Nat.add_mul ..
   rw [Nat.zero_add]; omega
theorem Sub.reownP{h r m:Nat}{l l':List Int}{n':Id}{σ1:b8}{hi:Int}(t:Nat)(hl:subL l 0 hi=some l')(hx:lookup t env=some (.c (.own (h,[]) 0 m)))(hm:m=l'.length)(hσ:σv[((h,[]):Id)]? =some (some (prow r l)))(h0:Nat.ble σ0.length h=true)(hid:newF σv=some n')
  (h1:putF σv (h,[]) none=some σ1) (hσ':s6 σ1 (.one (prow r l'))=some σ') (henv:ReE env t (.own n' 0 m) env'):Sub σ0 ⟨env,σv⟩ ⟨env',σ'⟩:=by
 have hll:l'.length≤l.length∧l'=l.take l'.length:=by
  unfold subL at hl
  split at hl
  ·cases hl
   refine ⟨by simp; omega, ?_⟩
   simp
  ·cases hl
 have e:(prow r l')=.cells 1 (((l.map fun i=>[C.ptr (r,[i.toNat]) 0 0]).drop 0).take m):=by
  rw [List.drop_zero,← List.map_take,hm,← hll.2]; rfl
 rw [e] at hσ'
 exact Sub.reownC t hx hσ (by simp; omega) h0 hid h1 hσ' henv
/-! ### Places told by their bounds alone -/
theorem o6{β:Type}{l:List β}{i:Int}{a:β}(h:ix l i=some a):0≤i∧i.toNat<l.length:=⟨(T6 h).1,i5 h⟩
theorem S.idxPb{x y:Operand}{t e:TypeId}{bytes n h r:Nat}{z:Value}{kk:IntKind}{i:Int}{l:List Int}[ht:TyD P t (.slice e)][hs:TyS P e 1 bytes z]
  (hx:ev env x=some (.c (.own (h,[]) 0 n))) (hσ:σv[((h,[]):Id)]? =some (some (prow r l))) (hn:n=l.length) (hb:0≤i∧i.toNat<l.length) (hy:ev env y=some (.c (.imm (.val (.int kk i))))) (hd:g8 sz dst=true)
  (hh:AOps P σ0 sz ops Q rest (St.mk (putE env dst (.c (.ptr (h,[]) i.toNat 0))) σv)):AOps P σ0 sz ops Q (⟨dst,.indexAddr t x y,ty,pos,after,none⟩::rest) (St.mk env σv):=
 .indexAddrOwn hx hσ hy (by omega) hd (by rw [Nat.zero_add]; exact hh)
theorem pool_ex{α:Type}{σ:b8}{r size:Nat}{f:α→List I}{E:List α}{i:Int}(h:σ[r]? =some (pool size f E))(hb:i.toNat<E.length):∃ e:α,σ[((r,[i.toNat]):Id)]? =some (some (.cells size [(f e).map .imm])):=
 ⟨E[i.toNat],by rw [s9 h,aq6 (List.getElem?_eq_getElem hb)]; rfl⟩
theorem S.nilCheckE{α:Type}{size r o:Nat}{f:α→List I}{E:List α}{i:Int}{x:Operand}(hx:ev env x=some (.c (.ptr (r,[i.toNat]) 0 o)))(hσ:σv[r]? =some (pool size f E))(hb:i.toNat<E.length)(hd:g8 sz dst=true)
  (h:AOps P σ0 sz ops Q rest (St.mk (putE env dst (.c (.ptr (r,[i.toNat]) 0 o))) σv)):AOps P σ0 sz ops Q (⟨dst,.nilCheck x,ty,pos,after,none⟩::rest) (St.mk env σv):=by
 obtain ⟨e,he⟩:=pool_ex hσ hb
 exact AOps.ah hx he hd h
theorem S.fieldE{α:Type}{size r g off ft size' bytes:Nat}{f:α→List I}{E:List α}{i:Int}{x:Operand}{t:TypeId}{z:Value}[hf:FieldC P t g off ft][hs:TyS P ft size' bytes z](hz:Nat.beq size' 0=false)
  (hx:ev env x=some (.c (.ptr (r,[i.toNat]) 0 0))) (hσ:σv[r]? =some (pool size f E)) (hb:i.toNat<E.length) (hd:g8 sz dst=true)
  (h:AOps P σ0 sz ops Q rest (St.mk (putE env dst (.c (.ptr (r,[i.toNat]) 0 off))) σv)):AOps P σ0 sz ops Q (⟨dst,.fieldAddr t x g,ty,pos,after,none⟩::rest) (St.mk env σv):=by
 obtain ⟨e,he⟩:=pool_ex hσ hb
 exact W.fieldAddr hz hx he hd h
def M3{A B:Type}(l:List A)(l':List B):Option Unit:=if l.length=l'.length then some () else none
theorem S4{A B:Type}{l:List A}{l':List B}{u:Unit}(h:M3 l l'=some u):l.length=l'.length:=by
 unfold M3 at h
 split at h
 ·assumption
 ·cases h
theorem Sub.virtP(r:Nat){b:Id}{n kb o:Nat}{cs cs':List C}{σ1:b8}(hb:σv[b]? =some (some (.cells kb [cs])))(hc:cs[o]? =some (.imm (.val (.slice none 0 0))))(hn:newF σv=some (n,[]))(h1:s6 σv (.one (prow r []))=some σ1)
  (hs:setF cs o (.own (n,[]) 0 ([]:List Int).length)=some cs') (hσ':putF σ1 b (some (.cells kb [cs']))=some σ'):Sub σ0 ⟨env,σv⟩ ⟨env,σ'⟩:=
 Sub.virtB (α:=Int) 1 (fun _=>[]) hb hc hn h1 hs hσ'
theorem AWP.virtP{c:Code}(r:Nat){b:Id}{n kb o:Nat}{cs cs':List C}{σ1:b8}(hb:σv[b]? =some (some (.cells kb [cs])))(hc:cs[o]? =some (.imm (.val (.slice none 0 0))))(hn:newF σv=some (n,[]))(h1:s6 σv (.one (prow r []))=some σ1)
  (hs:setF cs o (.own (n,[]) 0 ([]:List Int).length)=some cs') (hσ':putF σ1 b (some (.cells kb [cs']))=some σ') (h:AWP P σ0 sz c Q (St.mk env σ')):AWP P σ0 sz c Q (St.mk env σv):=AWP.sub (Sub.virtP r hb hc hn h1 hs hσ') h
end
end Ab
end
section
namespace Ab
open Go
section
variable {K α:Type} [DecidableEq K]
def posM:List (K × List α)→K→Nat
 | [],_=>0
 | p::r,k=>if k=p.1 then 0 else posM r k+1
def rowM(m:List (K × List α))(k:K):List α:=(mget m k).getD []
def rowC(r:Nat)(m:List (K × List α))(k:K):C:=match mget m k with
 | some row=>.own (r,[posM m k]) 0 row.length
 | none=>.imm (.val (.slice none 0 0))
theorem N9(k:K):∀ m:List (K × List α),(mget m k=none∧posM m k=m.length∧∀ v,mset m k v=m++[(k,v)])∨∃ row,mget m k=some row∧m[posM m k]? =some (k,row)∧∀ v,mset m k v=m.set (posM m k) (k,v)
 | []=>.inl ⟨rfl,rfl,fun v=>rfl⟩
 | p::m=>by
  by_cases c:k=p.1
  ·exact .inr ⟨p.2,by simp [mget,c],by simp [posM,c],fun v=>by simp [mset,posM,c]⟩
  ·rcases N9 k m with ⟨h1,h2,h3⟩ | ⟨row,h1,h2,h3⟩
   ·exact .inl ⟨by simp [mget,c,h1],by simp [posM,c,h2],fun v=>by simp [mset,c,h3]⟩
   ·exact .inr ⟨row,by simp [mget,c,h1],by simpa [posM,c] using h2,fun v=>by simp [mset,posM,c,h3]⟩
def K7(r:Nat)(m:List (K × List α)):List C:=m.mapIdx fun i p=>.own (r,[i]) 0 p.2.length
def mmap(r k:Nat)(fk:K→Value)(f:α→List I)(m:List (K × List α)):Ent:=.node (some (.obj (P4 fk (m.map (·.1))) (K7 r m))) (m.map fun p=>.one (vec k f p.2))
def mmapD(r k:Nat)(fk:K→Value)(f:α→List I)(m:List (K × List α))(key:K):Ent:=.node (some (.obj (P4 fk (m.map (·.1))) (K7 r m))) ((m.map fun p=>.one (vec k f p.2)).set (posM m key) .dead)
def ai3(r:Nat)(m:List (K × List α))(key:K)(s n:Nat):List C:=if (mget m key).isSome=true then (K7 r m).set (posM m key) (.own (s,[]) 0 n) else K7 r m++[.own (s,[]) 0 n]
def mmapS(r k:Nat)(fk:K→Value)(f:α→List I)(m:List (K × List α))(key:K)(s n:Nat):Ent:=.node (some (.obj (P4 fk ((mset m key []).map (·.1))) (ai3 r m key s n))) ((m.map fun p=>.one (vec k f p.2)).set (posM m key) .dead)
variable {fk:K→Value} {f:α→List I} {m:List (K × List α)} {r k:Nat}
theorem heads_len:(K7 r m).length=m.length:=by simp [K7]
theorem heads_get{i:Nat}{x:C}(h:(K7 r m)[i]? =some x):∃ p,m[i]? =some p∧x=.own (r,[i]) 0 p.2.length:=by
 simp only [K7,List.getElem?_mapIdx,Option.map_eq_some_iff] at h
 obtain ⟨p,h1,h2⟩:=h
 exact ⟨p,h1,h2.symm⟩
theorem mm_sub{q:List Nat}{b:Blk}(h:(mmap r k fk f m).sub q=some b):(q=[]∧b=.obj (P4 fk (m.map (·.1))) (K7 r m))∨∃ i p,q=[i]∧m[i]? =some p∧b=vec k f p.2:=by
 cases q with
 | nil=>exact .inl ⟨rfl,by simpa [mmap,Ent.sub] using h.symm⟩
 | cons i q=>
  simp only [mmap,Ent.sub,List.getElem?_map] at h
  cases hi:m[i]? with
  | none=>simp [hi] at h
  | some p=>
   rw [hi] at h
   cases q with
   | nil=>simp only [Option.map_some,Ent.sub,Option.some.injEq] at h; exact .inr ⟨i,p,rfl,hi,h.symm⟩
   | cons=>simp [Ent.sub] at h
theorem mm_main:(mmap r k fk f m).sub []=some (.obj (P4 fk (m.map (·.1))) (K7 r m)):=rfl
theorem mm_row{i:Nat}{p:K × List α}(h:m[i]? =some p):(mmap r k fk f m).sub [i]=some (vec k f p.2):=by simp [mmap,Ent.sub,h]
theorem heads_ok{n:Nat}(h:Nat.blt r n=true):C.okL n (K7 r m)=true:=by
 rw [J5,List.all_eq_true]
 intro x hx
 obtain ⟨i,hi⟩:=List.getElem?_of_mem hx
 obtain ⟨p,_,rfl⟩:=heads_get hi
 simpa [C.ok] using h
theorem heads_no{id:Id}(h:id.1 ≠ r):C.noL id (K7 r m)=true:=by
 rw [noL_eq,List.all_eq_true]
 intro x hx
 obtain ⟨i,hi⟩:=List.getElem?_of_mem hx
 obtain ⟨p,_,rfl⟩:=heads_get hi
 have:idb ((r,[i]):Id) id=false:=H9 (fun e=>h (by rw [← e]))
 simp [C.no,this]
theorem mm_ok{n:Nat}(h:Nat.blt r n=true):∀ q b,(mmap r k fk f m).sub q=some b→b.ok n=true:=fun q b hb=>by
 rcases mm_sub hb with ⟨_,rfl⟩ | ⟨i,p,_,_,rfl⟩
 ·simpa [Blk.ok] using heads_ok h
 ·exact J8
theorem mm_no{id:Id}(h:id.1 ≠ r):∀ q b,(mmap r k fk f m).sub q=some b→b.no id=true:=fun q b hb=>by
 rcases mm_sub hb with ⟨_,rfl⟩ | ⟨i,p,_,_,rfl⟩
 ·simpa [Blk.no] using heads_no h
 ·exact Blk.im_no _ _ _
theorem u6.mmap{id n:Id}{mx:Nat}{σ:b8}(h:Nat.beq id.1 r=false)(hr:Nat.blt r mx=true)(hσ:σ[r]? =some (Ab.mmap r k fk f m)):u6 id n σ mx r (Ab.mmap r k fk f m):=by
 have hne:id.1 ≠ r:=fun e=>by simp [e] at h
 show ∀ (p:List Nat) (b:Blk),(Ab.mmap r k fk f m).sub p=some b→_
 intro p b hb
 have hm:mv id n (r,p)=(r,p):=by
  have:(r,p) ≠ id:=fun e=>hne (by rw [← e])
  simp [mv,H9 this]
 rw [hm,s9 hσ,hb]
 exact ⟨mm_ok hr p b hb,by rw [Blk.ren_no _ (mm_no hne p b hb)]⟩
theorem ar0{π:Id→Id}{r':Nat}(h:∀ q,π (r,q)=(r',q)):C.renL π (K7 r m)=K7 r' m:=by
 have renL_get:∀ (L:List C) (i:Nat),(C.renL π L)[i]? =(L[i]?).map (C.ren π):=fun L=>by
  induction L with
  | nil=>intro i; simp [C.renL]
  | cons x L ih=>intro i; cases i with
   | zero=>simp [C.renL]
   | succ i=>simpa [C.renL] using ih i
 apply List.ext_getElem?
 intro i
 rw [renL_get]
 simp only [K7,List.getElem?_mapIdx]
 cases m[i]? with
 | none=>rfl
 | some p=>simp [C.ren,h]
theorem EntR.mmap{r0 n mx i j:Nat}{σ:b8}(hj:(mvr r0 n (i,[])).1=j)(hr:Nat.blt i mx=true)(hσ:σ[j]? =some (Ab.mmap j k fk f m)):EntR r0 n σ mx i (Ab.mmap i k fk f m):=.any fun p b hb=>by
 have e:∀ q,mvr r0 n (i,q)=(j,q):=fun q=>by rw [← hj]; rfl
 rw [e,s9 hσ]
 refine ⟨mm_ok hr p b hb, ?_⟩
 rcases mm_sub hb with ⟨rfl,rfl⟩ | ⟨q,p',rfl,hq,rfl⟩
 ·rw [mm_main]
  simp only [Blk.ren,ar0 e]
 ·rw [mm_row hq,I7]
theorem RenE.mmap{r':Nat}{π:Id→Id}(h:∀ q,π (r,q)=(r',q)):RenE π r (Ab.mmap r k fk f m) r' (Ab.mmap r' k fk f m):=.any (fun p b hb=>by
  rcases mm_sub hb with ⟨rfl,rfl⟩ | ⟨q,p',rfl,hq,rfl⟩
  ·rw [mm_main]; simp only [Blk.ren,ar0 h]
  ·rw [mm_row hq,I7]) (fun p b hb=>by
  rcases mm_sub hb with ⟨rfl,rfl⟩ | ⟨q,p',rfl,hq,rfl⟩
  ·exact ⟨_,mm_main,by simp only [Blk.ren,ar0 h]⟩
  ·exact ⟨_,mm_row hq,I7.symm⟩)
theorem FrzB.mmap{id:Id}{X:C→C→Prop}(h:Nat.beq id.1 r=false):FrzB id X (Ab.mmap r k fk f m) (Ab.mmap r k fk f m):=by
 have hne:id.1 ≠ r:=fun e=>by simp [e] at h
 show _=_∧_
 exact ⟨rfl,fun p b h=>mm_no hne p b h⟩
end
section
variable {P:Program} {σ0:b8} {sz:Nat} {Q:Post} {env env':Env} {σv σ':b8} {ops:Array Oper} {rest:List Oper} {dst:Option Nat} {ty:TypeId} {pos:String} {after:Array Edge}
variable {K α:Type} [DecidableEq K] {fk:K→Value} {d:TypeDesc} {f:α→List I} {m:List (K × List α)} {r k:Nat}
theorem find_pos(hk:KeyT d fk)(key:K):∀ (m:List (K × List α)) (l:List MapEntry) (i:Nat),l.map (·.key)=(m.map (·.1)).map fk→
  (mget m key=none∧Instr.findNow d (fk key) l i=some none)∨∃ row e,mget m key=some row∧m[posM m key]? =some (key,row)∧l[posM m key]? =some e∧e.key=fk key∧Instr.findNow d (fk key) l i=some (some (i+posM m key,e.val))
 | [],[],i,_=>.inl ⟨rfl,rfl⟩
 | [],_::_,i,h=>by simp at h
 | _::_,[],i,h=>by simp at h
 | p::m,e::l,i,h=>by
  simp only [List.map_cons,List.cons.injEq] at h
  obtain ⟨h1,h3⟩:=h
  obtain ⟨r,hr,hiff⟩:∃ r,Instr.sameNow d (fk key) e.key=some r∧(r=true↔fk key=e.key):=Go.MapKept.sameNow_of_keys (hk.key key) (by rw [h1]; exact hk.key p.1)
  by_cases c:key=p.1
  ·have:r=true:=hiff.2 (by rw [h1,c])
   subst this
   exact .inr ⟨p.2,e,by simp [mget,c],by simp [posM,c],by simp [posM,c],by rw [h1,c],by subst c; simp [Instr.findNow,hr,posM]⟩
  ·have:r=false:=by
    cases r with
    | false=>rfl
    | true=>exact absurd (hk.inj ((hiff.1 rfl).trans h1)) c
   subst this
   rcases find_pos hk key m l (i+1) h3 with ⟨g1,g2⟩ | ⟨row,e',g1,g2,g3,g4,g5⟩
   ·exact .inl ⟨by simp [mget,c,g1],by simp [Instr.findNow,hr,g2]⟩
   ·exact .inr ⟨row,e',by simp [mget,c,g1],by simpa [posM,c] using g2,by simpa [posM,c] using g3,g4,by simp [Instr.findNow,hr,g5,posM,c]; omega⟩
theorem mm_rowAt(h:σv[r]? =some (mmap r k fk f m)){key:K}{row:List α}(he:mget m key=some row):σv[((r,[posM m key]):Id)]? =some (some (vec k f row)):=by
 rcases N9 key m with ⟨h1,_⟩ | ⟨row',h1,h2,_⟩
 ·rw [h1] at he; cases he
 ·rw [h1] at he; cases he
  rw [s9 h,mm_row h2]
theorem mm_get(h:σv[r]? =some (mmap r k fk f m)){key:K}{i:Int}{a:α}(ha:ix (rowM m key) i=some a):σv[((r,[posM m key]):Id)]? =some (some (vec k f (rowM m key))):=by
 unfold rowM at ha ⊢
 cases he:mget m key with
 | none=>rw [he] at ha; simp [ix] at ha
 | some row=>rw [Option.getD_some]; exact mm_rowAt h he
theorem snocF_all{β:Type}:∀ (l:List β) (x:β),s6 l x=some (l++[x])
 | [],x=>rfl
 | a::l,x=>by simp [s6,snocF_all l x]
theorem W.makeMapM{t:TypeId}(r k:Nat)(fk:K→Value)(f:α→List I)(hid:newF σv=some (r,[]))(hσ:s6 σv (mmap r k fk f ([]:List (K × List α)))=some σ')(hd:g8 sz dst=true)
  (h:AOps P σ0 sz ops Q rest (St.mk (putE env dst (.c (.map (r,[])))) σ')):AOps P σ0 sz ops Q (⟨dst,.makeMap t none,ty,pos,after,none⟩::rest) (St.mk env σv):=by
 have h2:=z6 hid; have h3:=p8 hσ
 cases h2
 subst h3
 have heq:∀ i:Id,(σv++[Ent.one (pmap 0 fk ([]:List (K × Int)))])[i]? =(σv++[mmap σv.length k fk f ([]:List (K × List α))])[i]? :=fun i=>by
  rcases Nat.lt_or_ge i.1 σv.length with hl | hl
  ·rw [b8.get_left hl,b8.get_left hl]
  ·rw [b8.get_right hl,b8.get_right hl]
   obtain ⟨i1,q⟩:=i
   rw [b8.at_eq,b8.at_eq]
   simp only [b8.at]
   cases i1 - σv.length with
   | zero=>cases q<;>rfl
   | succ m=>rfl
 exact W.makeMapP (K:=K) 0 fk hid (snocF_all _ _) hd (AOps.sub (Sub.same (by simp) heq) h)
theorem S.lookupM{x y:Operand}{t kt vt:TypeId}{r:Nat}{m:List (K × List α)}{key:K}{size bytes:Nat}{zv:Value}[ht:TyD P t (.map kt vt)][hkt:TyD P kt d][hs:TyS P vt size bytes zv](hk:KeyT d fk)(hz:zv=.slice none 0 0)
  (hx:ev env x=some (.c (.map (r,[])))) (hy:ev env y=some (.c (.imm (.val (fk key))))) (hσ:σv[r]? =some (mmap r k fk f m)) (hd:g8 sz dst=true)
  (h:AOps P σ0 sz ops Q rest (St.mk (putE env dst (.c (rowC r m key))) σv)):AOps P σ0 sz ops Q (⟨dst,.lookup t x y false,ty,pos,after,none⟩::rest) (St.mk env σv):=by
 refine .valueW rfl hd _ _ (fun Γ φ a w hR=> ?_) h
 have hmain:σv[((r,[]):Id)]? =some (some (.obj (P4 fk (m.map (·.1))) (K7 r m))):=by rw [s9 hσ]; rfl
 obtain ⟨b,base,hp,hv⟩:=al1 (i6 hR hx) hmain
 obtain ⟨hv2,_⟩:=F1 (i6 hR hy)
 obtain ⟨b',o,us,g1,g2,⟨es,c,rfl,g3,g4⟩,g5⟩:=hR.st.blk _ _ hmain
 rw [hp] at g1; cases g1
 unfold rowC
 rcases find_pos hk key m es.toList 0 g3 with ⟨q1,q2⟩ | ⟨row,e,q1,q0,q3,q4,q2⟩
 ·rw [q1]
  refine ⟨.slice none 0 0,w,φ, ?_,.c (.imm (.val rfl)),hR⟩
  simp [execOp,hv,hv2,Instr.lookup,run_underlying ht.h,Go.MapKept.run_getObj_map g2,Go.MapKept.run_checkKey hkt.h (hk.key key),Go.MapKept.run_findKey hkt.h q2,G9 (t:=vt),hz,Result.andThen]
 ·rw [q1]
  obtain ⟨u,hu,hru⟩:=g5 (posM m key) (.own (r,[posM m key]) 0 row.length) (by simp [K7,List.getElem?_mapIdx,q0])
  have hue:u=e.val:=by
   rw [← g4,List.getElem?_map,q3] at hu
   simpa using hu.symm
  subst hue
  refine ⟨e.val,w,φ, ?_,.c hru,hR⟩
  simp [execOp,hv,hv2,Instr.lookup,run_underlying ht.h,Go.MapKept.run_getObj_map g2,Go.MapKept.run_checkKey hkt.h (hk.key key),Go.MapKept.run_findKey hkt.h q2,Result.andThen]
theorem S.appendMM{new l':List α}{x y:Operand}{t e:TypeId}{bytes:Nat}{n:Id}{z:Value}{v:T}{key:K}{σ1:b8}[ht:TyD P t (.slice e)][hs:TyS P e k bytes z]
  (ha:app bytes (rowM m key) new=some l') (hzk:(z.cells.size==k)=true) (hbp:Nat.blt 0 bytes=true) (hx:ev env x=some (.c (rowC r m key))) (hσ:σv[r]? =some (mmap r k fk f m)) (hy:ev env y=some v) (hsrc:SrcF σv k f v new) (hn:newF σv=some n) (h1:setF σv r (mmapD r k fk f m key)=some σ1) (hσ':s6 σ1 (.one (vec k f l'))=some σ') (hd:g8 sz dst=true)
  (h:AOps P σ0 sz ops Q rest (St.mk (putE env dst (.c (.own n 0 l'.length))) σ')):
  AOps P σ0 sz ops Q (⟨dst,.call ⟨.builtin .append,#[x,y],#[t,t]⟩,ty,pos,after,none⟩::rest) (St.mk env σv):=by
 obtain ⟨hb,rfl⟩:=app_get ha
 have h2:=(U3 h1).1
 have h3:=z6 hn; have h4:=p8 hσ'
 subst h2 h3 h4
 unfold rowC at hx
 unfold rowM at hb h
 rcases N9 key m with ⟨q1,q2,_⟩ | ⟨row,q1,q2,_⟩
 ·rw [q1] at hx
  rw [q1,Option.getD_none,List.nil_append] at h
  rw [q1,Option.getD_none] at hb
  refine AOps.appendNil (new:=(new.map f).map (·.map .imm)) hzk hbp hx hy hsrc.src (by simpa using hb) hd ?_
  rw [show ((new.map f).map (·.map C.imm)).length=new.length by simp]
  refine AOps.sub (s':=⟨putE env dst (.c (.own (σv.length,[]) 0 new.length)),σv.set r (mmapD r k fk f m key)++[.one (vec k f new)]⟩) (Sub.same (by simp) fun i=> ?_) h
  have hset:∀ i:Id,(σv.set r (mmapD r k fk f m key))[i]? =σv[i]? :=fun i=>by
   rw [set_ent hσ]
   split
   ·rename_i hi
    obtain ⟨i1,q⟩:=i
    simp only at hi
    subst hi
    rw [s9 hσ]
    congr 1
    simp only [mmapD,mmap]
    rw [List.set_eq_of_length_le (by rw [q2]; simp)]
   ·rfl
  rcases Nat.lt_or_ge i.1 σv.length with hl | hl
  ·rw [b8.get_left hl,b8.get_left (by simpa using hl),hset]
  ·rw [b8.get_right hl,b8.get_right (by simpa using hl),List.length_set]; rfl
 ·rw [q1] at hx
  rw [q1,Option.getD_some] at h
  rw [q1,Option.getD_some] at hb
  have hrow:=mm_rowAt hσ q1
  refine AOps.append (new:=(new.map f).map (·.map .imm)) hzk hbp hx hrow hy hsrc.src (by simpa using hb) hd ?_
  have e1:(((((row.map f).map (·.map C.imm)).drop 0).take row.length)++(new.map f).map (·.map C.imm))=((row++new).map f).map (·.map C.imm):=by
   rw [List.drop_zero,List.take_of_length_le (by simp)]; simp
  have e2:row.length+((new.map f).map (·.map C.imm)).length=(row++new).length:=by simp
  rw [e1,e2]
  refine AOps.sub (s':=⟨putE env dst (.c (.own (σv.length,[]) 0 (row++new).length)),σv.set r (mmapD r k fk f m key)++[.one (vec k f (row++new))]⟩) (Sub.same (by simp) fun i=> ?_) h
  have hput:∀ i:Id,(σv.put (r,[posM m key]) none)[i]? =(σv.set r (mmapD r k fk f m key))[i]? :=fun i=>by
   rw [set_ent hσ]
   by_cases hi:i=(r,[posM m key])
   ·subst hi
    rw [b8.get_put_eq hrow,if_pos rfl]
    have:=(List.getElem?_eq_some_iff.1 q2).1
    simp [mmapD,Ent.sub,this]
   ·rw [b8.get_put_ne hi]
    by_cases hr:i.1=r
    ·obtain ⟨i1,q⟩:=i
     simp only at hr
     subst hr
     rw [if_pos rfl,s9 hσ]
     congr 1
     cases q with
     | nil=>rfl
     | cons a q=>
      simp only [mmap,mmapD,Ent.sub,List.getElem?_set,List.length_map,List.getElem?_map]
      by_cases hap:posM m key=a
      ·subst hap
       cases q with
       | nil=>exact absurd rfl hi
       | cons b q=>
        rw [if_pos rfl,if_pos (List.getElem?_eq_some_iff.1 q2).1,q2]
        rfl
      ·rw [if_neg hap]
    ·rw [if_neg hr]
  rcases Nat.lt_or_ge i.1 σv.length with hl | hl
  ·rw [b8.get_left (by simpa using hl),b8.get_left (by simpa using hl),hput]
  ·rw [b8.get_right (by simpa using hl),b8.get_right (by simpa using hl),b8.length_put,List.length_set]; rfl
theorem S.updateMM{x y v:Operand}{t kt vt:TypeId}{s n:Nat}{key:K}[ht:TyD P t (.map kt vt)][hkt:TyD P kt d](hk:KeyT d fk)
  (hx:ev env x=some (.c (.map (r,[])))) (hy:ev env y=some (.c (.imm (.val (fk key))))) (hv:ev env v=some (.c (.own (s,[]) 0 n))) (hσ:σv[r]? =some (mmapD r k fk f m key)) (hσ':setF σv r (mmapS r k fk f m key s n)=some σ')
  (h:AOps P σ0 sz ops Q rest (St.mk env σ')):AOps P σ0 sz ops Q (⟨none,.mapUpdate t x y v,ty,pos,after,none⟩::rest) (St.mk env σv):=by
 have hset:=U3 hσ'
 have hmain:σv[((r,[]):Id)]? =some (some (.obj (P4 fk (m.map (·.1))) (K7 r m))):=by rw [s9 hσ]; rfl
 refine .skipW rfl rfl (σv.put (r,[]) (some (.obj (P4 fk ((mset m key []).map (·.1))) (ai3 r m key s n)))) (fun Γ φ ac w hR=> ?_) (AOps.sub (s':=⟨env,σ'⟩) (Sub.same (by rw [hset.1]; simp) fun i=> ?_) h)
 ·obtain ⟨b,base,hp,e1⟩:=al1 (i6 hR hx) hmain
  obtain ⟨e2,_⟩:=F1 (i6 hR hy)
  have hrv:=i6 hR hv
  generalize e3:ac.eval v=u at hrv
  have hru:RelC w φ σv (Al Γ.N φ σv) (.own (s,[]) 0 n) u:=by cases hrv with | c h=>exact h
  obtain ⟨b',o,us,g1,g2,⟨es,c,rfl,g3,g4⟩,g5⟩:=hR.st.blk _ _ hmain
  rw [hp] at g1; cases g1
  have hlu:us.length=m.length:=by rw [← g4]; have:=congrArg List.length g3; simpa using this
  rcases find_pos hk key m es.toList 0 g3 with ⟨q1,q2⟩ | ⟨row,e,q1,q0,q3,q4,q2⟩
  ·have hms:mset m key ([]:List α)=m++[(key,[])]:=by
    rcases N9 key m with ⟨_,_,h3⟩ | ⟨row,h1,_⟩
    ·exact h3 _
    ·rw [q1] at h1; cases h1
   have hW:=Rs.writeB (q1:=P4 fk ((mset m key []).map (·.1))) (cs1:=ai3 r m key s n) (us1:=us++[u]) (o1:=.map (es.push {key:=fk key,val:=u,born:=c}) (c+1)) hR.toRs hmain hp g2
    ⟨_,_,rfl,by rw [hms]; simp [g3],by simp [g4]⟩ (fun i x hx=>by
     simp only [ai3,q1,Option.isSome_none,Bool.false_eq_true,if_false] at hx
     rw [List.getElem?_append] at hx
     split at hx
     ·obtain ⟨u',h1,h2⟩:=g5 i x hx
      exact ⟨u',by rw [List.getElem?_append_left (List.getElem?_eq_some_iff.1 h1).1]; exact h1,h2⟩
     ·rename_i hge
      rw [heads_len] at hx hge
      have h0:i=m.length:=by
       have:=(List.getElem?_eq_some_iff.1 hx).1
       simp at this; omega
      subst h0
      simp at hx
      subst hx
      exact ⟨u,by rw [← hlu]; simp,hru⟩)
   refine ⟨_,φ, ?_,hR.of hW.1 hW.2⟩
   simp [execOp,e1,e2,e3,Instr.mapUpdate,run_underlying ht.h,Go.MapKept.run_getObj_map g2,Go.MapKept.run_checkKey hkt.h (hk.key key),Go.MapKept.run_findKey hkt.h q2,Go.MapKept.run_setObj_map _ g2,Result.andThen]
  ·have hms:mset m key ([]:List α)=m.set (posM m key) (key,[]):=by
    rcases N9 key m with ⟨h1,_⟩ | ⟨row,_,_,h3⟩
    ·rw [q1] at h1; cases h1
    ·exact h3 _
   have hj:es[posM m key]? =some e:=by simpa using q3
   have hlt:=(List.getElem?_eq_some_iff.1 q0).1
   have hW:=Rs.writeB (q1:=P4 fk ((mset m key []).map (·.1))) (cs1:=ai3 r m key s n) (us1:=us.set (posM m key) u) (o1:=.map (es.modify (posM m key) fun e=>{e with key:=fk key,val:=u}) c) hR.toRs hmain hp g2
    ⟨_,_,rfl,by
     rw [hms,Array.toList_modify]
     apply List.ext_getElem?
     intro i
     have hg:=congrArg (fun l=>l[i]?) g3
     simp only [List.getElem?_map,List.getElem?_modify,List.getElem?_set] at hg ⊢
     by_cases hi:posM m key=i
     ·subst hi
      simp [q3,hlt]
     ·simpa [hi] using hg,by
     rw [Array.toList_modify]
     apply List.ext_getElem?
     intro i
     have hg:=congrArg (fun l=>l[i]?) g4
     simp only [List.getElem?_map,List.getElem?_modify,List.getElem?_set] at hg ⊢
     by_cases hi:posM m key=i
     ·subst hi
      simp [q3,hlu,hlt]
     ·simpa [hi] using hg⟩ (fun i x hx=>by
     simp only [ai3,q1,Option.isSome_some,if_true] at hx
     rw [List.getElem?_set] at hx
     by_cases hi:posM m key=i
     ·subst hi
      simp [heads_len,hlt] at hx
      subst hx
      exact ⟨u,by simp [hlu,hlt],hru⟩
     ·rw [if_neg hi] at hx
      obtain ⟨u',h1,h2⟩:=g5 i x hx
      exact ⟨u',by rw [List.getElem?_set,if_neg hi]; exact h1,h2⟩)
   refine ⟨_,φ, ?_,hR.of hW.1 hW.2⟩
   simp [execOp,e1,e2,e3,Instr.mapUpdate,run_underlying ht.h,Go.MapKept.run_getObj_map g2,Go.MapKept.run_checkKey hkt.h (hk.key key),Go.MapKept.run_findKey hkt.h q2,hj,q4,Go.MapKept.run_keyThatStays (hk.key key),Go.MapKept.run_setObj_map _ g2,Result.andThen]
 ·rw [setF_at hσ hσ']
  by_cases hi:i=(r,[])
  ·subst hi
   rw [b8.get_put_eq hmain,if_pos rfl]; rfl
  ·rw [b8.get_put_ne hi]
   by_cases hr:i.1=r
   ·obtain ⟨i1,q⟩:=i
    simp only at hr
    subst hr
    rw [if_pos rfl,s9 hσ]
    cases q with
    | nil=>exact absurd rfl hi
    | cons a q=>rfl
   ·rw [if_neg hr]
theorem u6.putMM{l:List α}{mx s n:Nat}{key:K}{σ:b8}(hr:Nat.blt r mx=true)(hσ:σ[r]? =some (mmapS r k fk f m key s n))(hn:n=l.length)(hs:σ[((s,[]):Id)]? =some (some (vec k f l))):u6 (r,[posM m key]) (s,[]) σ mx r (Ab.mmap r k fk f (mset m key l)):=by
 subst hn
 have hlt:∀ q,q ≠ posM m key→mv (r,[posM m key]) (s,[]) (r,[q])=(r,[q]):=fun q hq=>by
  have:((r,[q]):Id) ≠ (r,[posM m key]):=fun e=>by cases e; exact hq rfl
  simp [mv,H9 this]
 have hself:mv (r,[posM m key]) (s,[]) (r,[posM m key])=(s,[]):=by simp [mv,L8.2 rfl]
 have hroot:mv (r,[posM m key]) (s,[]) (r,[])=(r,[]):=af6
 show ∀ (p:List Nat) (b:Blk),(Ab.mmap r k fk f (mset m key l)).sub p=some b→_
 intro p b hb
 refine ⟨mm_ok hr p b hb, ?_⟩
 rcases mm_sub hb with ⟨rfl,rfl⟩ | ⟨i,p',rfl,hi,rfl⟩
 ·rw [hroot,s9 hσ]
  show some (some (Blk.obj (P4 fk ((mset m key []).map (·.1))) (ai3 r m key s l.length)))=_
  congr 2
  simp only [Blk.ren]
  have hkeys:(mset m key l).map (·.1)=(mset m key []).map (·.1):=by
   rcases N9 key m with ⟨_,_,h3⟩ | ⟨_,_,_,h3⟩
   ·rw [h3,h3]; simp
   ·rw [h3,h3]; simp [List.map_set]
  rw [hkeys]
  congr 1
  have renL_get:∀ (L:List C) (i:Nat),(C.renL (mv (r,[posM m key]) (s,[])) L)[i]? =(L[i]?).map (C.ren (mv (r,[posM m key]) (s,[]))):=fun L=>by
   induction L with
   | nil=>intro i; simp [C.renL]
   | cons x L ih=>intro i; cases i with
    | zero=>simp [C.renL]
    | succ i=>simpa [C.renL] using ih i
  apply List.ext_getElem?
  intro i
  rw [renL_get]
  simp only [ai3,K7]
  rcases N9 key m with ⟨h1,h2,h3⟩ | ⟨row,h1,h2,h3⟩
  ·rw [h1,h3]
   simp only [Option.isSome_none,Bool.false_eq_true,if_false,List.mapIdx_append,List.length_map]
   rcases Nat.lt_or_ge i m.length with hl | hl
   ·rw [List.getElem?_append_left (by simpa using hl),List.getElem?_append_left (by simpa using hl),List.getElem?_mapIdx]
    cases hm:m[i]? with
    | none=>rfl
    | some p=>simp [C.ren,hlt i (by omega)]
   ·rw [List.getElem?_append_right (by simpa using hl),List.getElem?_append_right (by simpa using hl)]
    simp only [List.length_mapIdx]
    cases hd:i - m.length with
    | zero=>
     have:i=m.length:=by omega
     simp [C.ren,h2,mv,L8.2 rfl]
    | succ j=>simp
  ·have hl:=(List.getElem?_eq_some_iff.1 h2).1
   rw [h1,h3]
   simp only [Option.isSome_some,if_true]
   by_cases hi:posM m key=i
   ·subst hi
    simp [List.getElem?_mapIdx,List.getElem?_set,hl,C.ren,hself]
   ·rw [List.getElem?_set,if_neg hi,List.getElem?_mapIdx,List.getElem?_mapIdx,List.getElem?_set,if_neg hi]
    cases hm:m[i]? with
    | none=>rfl
    | some p=>simp [C.ren,hlt i (fun e=>hi e.symm)]
 ·rw [I7]
  rcases N9 key m with ⟨h1,h2,h3⟩ | ⟨row,h1,h2,h3⟩
  ·rw [h3,List.getElem?_append] at hi
   split at hi
   ·rename_i hl
    rw [hlt i (by omega),s9 hσ]
    simp only [mmapS,Ent.sub,List.getElem?_set,List.getElem?_map]
    rw [if_neg (by omega),hi]; rfl
   ·rename_i hl
    have:i=m.length:=by
     have:=(List.getElem?_eq_some_iff.1 hi).1
     simp at this; omega
    subst this
    simp at hi
    subst hi
    rw [← h2,hself,hs]
  ·have hl:=(List.getElem?_eq_some_iff.1 h2).1
   rw [h3,List.getElem?_set] at hi
   by_cases e:posM m key=i
   ·subst e
    rw [if_pos rfl,if_pos hl] at hi
    cases hi
    rw [hself,hs]
   ·rw [if_neg e] at hi
    rw [hlt i (fun x=>e x.symm),s9 hσ]
    simp only [mmapS,Ent.sub,List.getElem?_set,List.getElem?_map]
    rw [if_neg e,hi]; rfl
theorem S.lenMM{x:Operand}{t e:TypeId}{key:K}[ht:TyD P t (.slice e)](hx:ev env x=some (.c (rowC r m key)))(hσ:σv[r]? =some (mmap r k fk f m))(hd:g8 sz dst=true)
  (h:(rowM m key).length≤9223372036854775807→AOps P σ0 sz ops Q rest (St.mk (putE env dst (.c (int ((rowM m key).length:Int)))) σv)):AOps P σ0 sz ops Q (⟨dst,.call ⟨.builtin .len,#[x],#[t]⟩,ty,pos,after,none⟩::rest) (St.mk env σv):=by
 unfold rowC at hx
 unfold rowM at h
 rcases N9 key m with ⟨q1,_⟩ | ⟨row,q1,_⟩
 ·rw [q1] at hx
  rw [q1] at h
  exact AOps.lenNil hx hd (h (by simp))
 ·rw [q1] at hx
  rw [q1] at h
  exact AOps.lenOwnB hx (mm_rowAt hσ q1) hd h
theorem ag6{n:Nat}{key:K}(h:Nat.blt r n=true):(T.c (rowC r m key)).ok n=true:=by
 simp only [T.ok]
 unfold rowC
 split
 ·simpa [C.ok] using h
 ·rfl
theorem rowC_mv{π:Id→Id}{o:Option T}{key:K}(hπ:∀ i,π (r,[i])=(r,[i]))(e:o=some (.c (rowC r m key))):o=some ((T.c (rowC r m key)).ren π):=by
 rw [e]
 unfold rowC
 split
 ·simp only [T.ren,C.ren,hπ]
 ·rfl
theorem S.idxMM{x y:Operand}{t e:TypeId}{bytes:Nat}{z:Value}{kk:IntKind}{i:Int}{a:α}{key:K}[ht:TyD P t (.slice e)][hs:TyS P e k bytes z]
  (ha:ix (rowM m key) i=some a) (hx:ev env x=some (.c (rowC r m key))) (hσ:σv[r]? =some (mmap r k fk f m)) (hy:ev env y=some (.c (.imm (.val (.int kk i))))) (hd:g8 sz dst=true)
  (h:AOps P σ0 sz ops Q rest (St.mk (putE env dst (.c (.ptr (r,[posM m key]) i.toNat 0))) σv)):AOps P σ0 sz ops Q (⟨dst,.indexAddr t x y,ty,pos,after,none⟩::rest) (St.mk env σv):=by
 have hrow:=mm_get hσ ha
 unfold rowC at hx
 unfold rowM at ha hrow
 cases he:mget m key with
 | none=>rw [he] at ha; simp [ix] at ha
 | some row=>
  rw [he] at hx ha hrow
  simp only [Option.getD_some] at ha hrow
  exact .indexAddrOwn hx hrow hy (by have:=T6 ha; have:=i5 ha; omega) hd (by rw [Nat.zero_add]; exact h)
end
end Ab
end
section
namespace Ab
open Go Go.Proofs Go.Sort Go.Lib
theorem rev_fn{P:Program}{f:FuncId}(hf:L6 P f)
  (hC:∀ (blk off cap:Nat) (zs:List Int) (w:World),Holds (Value.int .i64) w blk off zs.toArray→zs.length≤9223372036854775807→Calls P f #[.slice (some ⟨blk,off,none⟩) zs.length cap] w fun e w'=>e=.returned (.tuple #[])∧∃ n,w'=putRow (Value.int .i64) (Go.Sort.ahead w n) blk off zs.reverse.toArray)
  (hC0:∀ (p:Option Addr) (cap:Nat) (w:World),Calls P f #[.slice p 0 cap] w fun e w'=>e=.returned (.tuple #[])∧w'=w)
  {σ:b8} {id:Id} {l:List Int} (hσ:σ[id]? =some (some (vec 1 intI l))):
  FnOk P f [.c (.own id 0 l.length)] σ fun r σ'=>r=.tup []∧σ'.length=σ.length∧∀ i:Id,σ'[i]? =(σ.put id (some (vec 1 intI l.reverse)))[i]? :=by
 refine ⟨hf,fun Γ vs hΓ hG hlen hrel=> ?_⟩
 subst hΓ
 match vs,hlen with
 | [u],_=>
 have hu:=C2 (hrel 0 _ u rfl rfl) hσ
 have tupR:∀ {w φ σ A},RelT w φ σ A (.tup []) (.tuple #[]):=fun {w φ σ A}=>RelT.tup (ts:=[]) (fun _=>undef) fun i t h=>by simp at h
 rw [J1] at hu
 have empty:∀ (p:Option Addr) (cap:Nat),l=[]→Calls P f #[.slice p 0 cap] Γ.w0 fun e w'=>∃ v r σ' φ',e=.returned v∧(r=.tup []∧σ'.length=Γ.σ0.length∧∀ i:Id,σ'[i]? =(Γ.σ0.put id (some (vec 1 intI l.reverse)))[i]?)∧RelT w' φ' σ' (Al Γ.N φ' σ') r v∧Rs Γ σ' φ' w':=fun p cap he=>by
  refine (hC0 p cap Γ.w0).mono ?_
  rintro e w' ⟨rfl,rfl⟩
  refine ⟨_,.tup [],Γ.σ0,Γ.φ0,rfl,⟨rfl,rfl,fun i=> ?_⟩,tupR,Rs.refl hG⟩
  have:l.reverse=l:=by rw [he]; rfl
  rw [this]
  by_cases hi:i=id
  ·rw [hi,b8.get_put_eq hσ,hσ]
  ·rw [b8.get_put_ne hi]
 rcases hu with ⟨_,hv,_,h0⟩ | ⟨b,base,cap,arr,ety,a,hp,hv,ha,hcap,hmax,hjn,hbk,hsz⟩
 ·have he:l=[]:=List.eq_nil_of_length_eq_zero (by omega)
  rw [hv]
  exact empty none 0 he
 ·rw [hv]
  by_cases hc0:0<cap
  ·have:=ha hc0
   subst this
   simp only [Nat.zero_mul,Nat.add_zero]
   have hR:=Rs.refl hG
   rcases hR.st.blk _ _ hσ with ⟨h1,_⟩ | ⟨b',base',arr2,ety2,h1,h2,h3,h4,h5⟩
   ·rw [hp] at h1; cases h1
   ·rw [hp] at h1; cases h1
    rw [hbk] at h2; cases h2
    rw [J1] at h3
    have hcell:∀ (j:Nat) (x:Int),l[j]? =some x→arr[base+j]? =some (.int .i64 x):=fun j x hj=>int_cells h5 hj
    have hls:l.reverse.length=l.length:=by simp
    refine (hC b base cap l Γ.w0 (holds_of hbk hcell) (by simp only [maxLen] at hmax; omega)).mono ?_
    rintro e w' ⟨rfl,n,rfl⟩
    have hW:=Rs.write (k:=1) (es':=(l.reverse.map intI).map (·.map C.imm)) (arr':=putCells (Value.int .i64) base l.reverse.toArray arr) hR hσ hp hbk (by rw [J1,J1,hls]) aa5 (fun j e he=>vec_hk he) (by rw [J1]; omega)
     (vec_hc fun j x hj=>al3 (by omega) hj)
    rw [putRow_ahead,aj0 hbk]
    refine ⟨_,.tup [],_,Γ.φ0,rfl,⟨rfl, ?_,fun i=>rfl⟩,tupR,hW.2.ahead n⟩
    rw [b8.length_put]
  ·have he:l=[]:=List.eq_nil_of_length_eq_zero (by omega)
   have hl0:l.length=0:=by rw [he]; rfl
   rw [hl0]
   exact empty (some a) cap he
def RevOk(P:Program)(f:FuncId):Prop:=∀ {σ:b8} {id:Id} {l:List Int},σ[id]? =some (some (vec 1 intI l))→
  FnOk P f [.c (.own id 0 l.length)] σ fun r σ'=>r=.tup []∧σ'.length=σ.length∧∀ i:Id,σ'[i]? =(σ.put id (some (vec 1 intI l.reverse)))[i]?
section
variable {P:Program} {σ0:b8} {sz:Nat} {Q:Post} {env:Env} {σv σ':b8} {ops:Array Oper} {rest:List Oper} {dst:Option Nat} {ty:TypeId} {pos:String} {after:Array Edge}
theorem S.rev{x:Operand}{al:List Operand}{ats:Array TypeId}{f:FuncId}{id:Id}{n:Nat}{l:List Int}(hf:RevOk P f)(hx:ev env x=some (.c (.fn f [])))(ha:evs env al=some [.c (.own id 0 n)])(hn:n=l.length)(hσ:σv[id]? =some (some (vec 1 intI l)))
  (hd:g8 sz dst=true) (hσ':putF σv id (some (vec 1 intI l.reverse))=some σ') (h:AOps P σ0 sz ops Q rest (St.mk (putE env dst (.tup [])) σ')):
  AOps P σ0 sz ops Q (⟨dst,.call ⟨.value x,al.toArray,ats⟩,ty,pos,after,none⟩::rest) (St.mk env σv):=by
 have h2:=y4 hσ'
 subst h2 hn
 refine AOps.callS hx ha hd (hf hσ) ?_
 rintro r σ2 ⟨rfl,hl,he⟩
 refine AOps.sub (s':=⟨putE env dst (.tup []),σv.put id (some (vec 1 intI l.reverse))⟩) ?_ h
 have:=Sub.same (σ0:=σ0) (env:=putE env dst (.tup [])) (σ1:=σ2) (σ2:=σv.put id (some (vec 1 intI l.reverse))) (by rw [b8.length_put,hl]) he
 cases dst<;>exact this
end
end Ab
end
section
namespace Ab
open Go Go.Proofs
open Tryz
set_option maxHeartbeats 4000000
attribute [local irreducible] AWP AOps thn inB Done h9 s7 Sub
abbrev u64(n:Int):C:=.imm (.val (.int .u64 n))
theorem and32(n:Nat)(hn:n≤4294967295):Go.bits .and .u64 (n:Int) 4294967295=n:=by
 have h:=bits_and_u64_nat n 4294967295 (by omega) (by omega)
 rw [show (4294967295:Nat)=2 ^ 32 - 1 from rfl,Nat.and_two_pow_sub_one_eq_mod] at h
 rw [show ((4294967295:Int))=((2 ^ 32 - 1:Nat):Int) from rfl,h]
 omega
theorem small_facts(n:Nat)(hn:n≤4294967295):Go.bits .and .u64 (n:Int) 4294967295=n∧Int.fdiv (n:Int) (2 ^ (min (32:Int).toNat (IntKind.bits .u64)))=0∧IntKind.u64.wrap (1 * (n:Int))=n∧IntKind.u64.wrap (0 * (n:Int))=0:=by
 refine ⟨and32 n hn, ?_, ?_, ?_⟩
 ·show Int.fdiv (n:Int) 4294967296=0
  rw [Int.fdiv_eq_ediv_of_nonneg _ (by omega)]; omega
 ·simp only [IntKind.wrap,IntKind.bits,IntKind.signed,Bool.false_and]; simp; omega
 ·simp [IntKind.wrap,IntKind.bits,IntKind.signed]
theorem l9(n:Nat)(hn:n≤4294967295):h9 prog 92 [.c (u64 1),.c (u64 n)] (.tup [.c (u64 0),.c (u64 n)]):=by
 obtain ⟨f1,f2,f3,f4⟩:=small_facts n hn
 unfold h9
 refine FnOk.enter (rs:=[.t 4,.t 5]) func92 rfl ntmps92 results92 rfl ⟨trivial,trivial,trivial⟩ (by kernel_rfl) rfl ?_
 repeat (first | refine AOps.j rfl rfl ?_ | refine AOps.v rfl rfl ?_ | refine AOps.nil ?_ | refine AWP.q ?_ | refine AWP.u ?_ | refine b6 ?_ | refine AOps.andE (c:=(n:Int)) rfl rfl rfl f1 ?_ | refine AOps.andE (c:=1) rfl rfl rfl (by decide) ?_ | refine AOps.andE (c:=0) rfl rfl rfl (by decide) ?_ | refine AOps.shr (c:=0) rfl rfl rfl (by decide) (by first | exact f2 | decide) ?_ | refine AOps.mulE (c:=(n:Int)) rfl rfl rfl f3 ?_ | refine AOps.mulE (c:=0) rfl rfl rfl (by first | exact f4 | decide) ?_ | refine AOps.addE (c:=0) rfl rfl rfl (by decide) ?_)
 repeat (first | refine AWP.q ?_ | refine AWP.ret ?_ | refine g9 ?_ | refine m8 ?_ | refine AWP.skip ?_ | refine b6 ?_ | refine f5 ?_ | refine AWP.exit ?_ | refine f8 ?_ | refine k8 ?_ | refine B6 rfl ?_)
 exact Done.ret rfl rfl
theorem n9(n:Nat)(hn:n≤4294967295):h9 prog 72 [.c (u64 1),.c (u64 n)] (.tup [.c (u64 0),.c (u64 n)]):=by
 unfold h9
 refine FnOk.enter (rs:=[.t 4,.t 5]) func72 rfl ntmps72 results72 rfl ⟨trivial,trivial,trivial⟩ (by kernel_rfl) rfl ?_
 repeat (first | refine AWP.q ?_ | refine AWP.J ?_ | refine AWP.skip ?_ | refine b6 ?_ | refine f5 ?_ | refine AWP.condT rfl ?_ | refine AWP.condF rfl ?_)
 refine AWP.u ?_
 refine AOps.v rfl rfl ?_
 refine AOps.v rfl rfl ?_
 refine AOps.nil ?_
 repeat (first | refine b6 ?_ | refine f5 ?_)
 repeat (first | refine AWP.q ?_ | refine AWP.J ?_ | refine AWP.skip ?_ | refine b6 ?_ | refine f5 ?_ | refine AWP.condT rfl ?_ | refine AWP.condF rfl ?_)
 refine AWP.u ?_
 refine AOps.j rfl rfl ?_
 refine AOps.j rfl rfl ?_
 first | refine AOps.aa rfl rfl rfl rfl (l9 n hn) rfl ?_ | refine AOps.aa rfl rfl rfl rfl (l9 n hn) rfl ?_ | refine AOps.aa rfl rfl rfl rfl (l9 n hn) rfl ?_ | refine AOps.aa rfl rfl rfl rfl (l9 n hn) rfl ?_ | refine AOps.aa rfl rfl rfl rfl (l9 n hn) rfl ?_ | refine AOps.aa rfl rfl rfl rfl (l9 n hn) rfl ?_ | refine AOps.aa rfl rfl rfl rfl (l9 n hn) rfl ?_ | refine AOps.aa rfl rfl rfl rfl (l9 n hn) rfl ?_ | refine AOps.aa rfl rfl rfl rfl (l9 n hn) rfl ?_ | refine AOps.aa rfl rfl rfl rfl (l9 n hn) rfl ?_ | refine AOps.aa rfl rfl rfl rfl (l9 n hn) rfl ?_ | refine AOps.aa rfl rfl rfl rfl (l9 n hn) rfl ?_ | refine AOps.aa rfl rfl rfl rfl (l9 n hn) rfl ?_ | refine AOps.aa rfl rfl rfl rfl (l9 n hn) rfl ?_ | refine AOps.aa rfl rfl rfl rfl (l9 n hn) rfl ?_ | refine AOps.aa rfl rfl rfl rfl (l9 n hn) rfl ?_ | refine AOps.aa rfl rfl rfl rfl (l9 n hn) rfl ?_ | refine AOps.aa rfl rfl rfl rfl (l9 n hn) rfl ?_ | refine AOps.aa rfl rfl rfl rfl (l9 n hn) rfl ?_ | refine AOps.aa rfl rfl rfl rfl (l9 n hn) rfl ?_ | refine AOps.aa rfl rfl rfl rfl (l9 n hn) rfl ?_ | refine AOps.aa rfl rfl rfl rfl (l9 n hn) rfl ?_ | refine AOps.aa rfl rfl rfl rfl (l9 n hn) rfl ?_ | refine AOps.aa rfl rfl rfl rfl (l9 n hn) rfl ?_ | refine AOps.aa rfl rfl rfl rfl (l9 n hn) rfl ?_ | refine AOps.aa rfl rfl rfl rfl (l9 n hn) rfl ?_ | refine AOps.aa rfl rfl rfl rfl (l9 n hn) rfl ?_ | refine AOps.aa rfl rfl rfl rfl (l9 n hn) rfl ?_ | refine AOps.aa rfl rfl rfl rfl (l9 n hn) rfl ?_ | refine AOps.aa rfl rfl rfl rfl (l9 n hn) rfl ?_ | refine AOps.aa rfl rfl rfl rfl (l9 n hn) rfl ?_ | refine AOps.aa rfl rfl rfl rfl (l9 n hn) rfl ?_ | refine AOps.aa rfl rfl rfl rfl (l9 n hn) rfl ?_ | refine AOps.aa rfl rfl rfl rfl (l9 n hn) rfl ?_ | refine AOps.aa rfl rfl rfl rfl (l9 n hn) rfl ?_ | refine AOps.aa rfl rfl rfl rfl (l9 n hn) rfl ?_ | refine AOps.aa rfl rfl rfl rfl (l9 n hn) rfl ?_ | refine AOps.aa rfl rfl rfl rfl (l9 n hn) rfl ?_ | refine AOps.aa rfl rfl rfl rfl (l9 n hn) rfl ?_ | refine AOps.aa rfl rfl rfl rfl (l9 n hn) rfl ?_ | refine AOps.aa rfl rfl rfl rfl (l9 n hn) rfl ?_ | refine AOps.aa rfl rfl rfl rfl (l9 n hn) rfl ?_ | refine AOps.aa rfl rfl rfl rfl (l9 n hn) rfl ?_
 refine AOps.j rfl rfl ?_
 refine AOps.ac rfl rfl rfl ?_
 refine AOps.ac rfl rfl rfl ?_
 refine AOps.v rfl rfl ?_
 refine AOps.v rfl rfl ?_
 refine AOps.nil ?_
 repeat (first | refine b6 ?_ | refine f5 ?_)
 repeat (first | refine AWP.q ?_ | refine AWP.J ?_ | refine AWP.skip ?_ | refine b6 ?_ | refine f5 ?_ | refine AWP.condT rfl ?_ | refine AWP.condF rfl ?_)
 refine AWP.u ?_
 refine AOps.j rfl rfl ?_
 refine AOps.j rfl rfl ?_
 refine AOps.v rfl rfl ?_
 refine AOps.v rfl rfl ?_
 refine AOps.nil ?_
 repeat (first | refine b6 ?_ | refine f5 ?_)
 repeat (first | refine AWP.q ?_ | refine AWP.ret ?_ | refine g9 ?_ | refine m8 ?_ | refine AWP.skip ?_ | refine b6 ?_ | refine f5 ?_ | refine AWP.exit ?_ | refine f8 ?_ | refine k8 ?_ | refine B6 rfl ?_)
 exact Done.ret rfl rfl
theorem wrap_facts(n:Nat)(hn:n≤4294967295):IntKind.u64.wrap (n:Int)=n∧IntKind.i64.wrap (n:Int)=n:=by
 refine ⟨?_,wrap_i64 (by omega)⟩
 simp only [IntKind.wrap,IntKind.bits,IntKind.signed,Bool.false_and]; simp; omega
def repC(c:Int)(n i:Nat):List (List C):=(List.range n).map fun j=>[int (if j<i then c else 0)]
theorem rep_first{c:Int}{n:Nat}(h:1≤n):(List.replicate n [C.imm (.val (.int .i64 0))]).take 0++(([c]:List Int).map intI |>.map (·.map C.imm)).take 1++(List.replicate n [C.imm (.val (.int .i64 0))]).drop (0+1)=repC c n 1:=by
 apply List.ext_getElem?
 intro j
 simp only [repC,List.getElem?_map]
 match j with
 | 0=>simp [show 0<n by omega]
 | j+1=>
  simp only [List.take_zero,List.nil_append,List.map_cons,List.map_nil,List.take_succ_cons,List.take_nil,List.cons_append,List.getElem?_cons_succ,List.getElem?_drop,List.getElem?_replicate]
  by_cases hj:j+1<n
  ·rw [if_pos (by omega),List.getElem?_range hj]; simp
  ·rw [if_neg (by omega),List.getElem?_eq_none (by simp; omega)]; rfl
theorem rep_more{c:Int}{n i m:Nat}(h1:m≤i)(h2:i+m≤n):(repC c n i).take (0+i)++(((repC c n i).drop 0).take i).take m++(repC c n i).drop (0+i+m)=repC c n (i+m):=by
 apply List.ext_getElem?
 intro j
 have len:(repC c n i).length=n:=by simp [repC]
 have hg:∀ k j,(repC c n k)[j]? =if j<n then some [int (if j<k then c else 0)] else none:=fun k j=>by
  simp only [repC,List.getElem?_map]
  by_cases hj:j<n
  ·rw [List.getElem?_range hj,if_pos hj]; rfl
  ·rw [List.getElem?_eq_none (by simp; omega),if_neg hj]; rfl
 rw [Nat.zero_add,List.drop_zero,hg]
 rcases Nat.lt_or_ge j i with hl | hl
 ·rw [List.append_assoc,List.getElem?_append_left (by simp [len]; omega),List.getElem?_take,if_pos hl,hg]
  simp [show j<n by omega,hl,show j<i+m by omega]
 ·rcases Nat.lt_or_ge j (i+m) with hl2 | hl2
  ·rw [List.getElem?_append_left (by simp [len]; omega),List.getElem?_append_right (by simp [len]; omega),List.getElem?_take,if_pos (by simp [len]; omega),List.getElem?_take,if_pos (by simp [len]; omega),hg]
   have e:(List.take i (repC c n i)).length=i:=by simp [len]; omega
   rw [e,if_pos (by omega),if_pos (by omega),if_pos (by omega),if_pos (by omega)]
  ·rw [List.getElem?_append_right (by simp [len]; omega),List.getElem?_drop,hg]
   have e:(List.take i (repC c n i)++List.take m (List.take i (repC c n i))).length=i+m:=by simp [len]; omega
   rw [e,show i+m+(j - (i+m))=j by omega]
   split
   ·rw [if_neg (by omega),if_neg (by omega)]
   ·rfl
theorem rep_full(c:Int)(n:Nat):Blk.cells 1 (repC c n n)=Blk.im 1 (List.replicate n [.val (.int .i64 c)]):=by
 rw [Blk.im,repC]
 congr 1
 apply List.ext_getElem?
 intro j
 simp only [List.getElem?_map,List.getElem?_replicate]
 by_cases hj:j<n
 ·rw [List.getElem?_range hj,if_pos hj]; simp [hj]
 ·rw [List.getElem?_eq_none (by simp; omega),if_neg hj]; rfl
theorem repeat_ok(c:Int)(n:Nat)(h1:1≤n)(hn:n≤4294967295):s7 prog 42 [.c (ints [c]),.c (int n)] 1 (List.replicate n [.val (.int .i64 c)]):=by
 obtain ⟨w1,w2⟩:=wrap_facts n hn
 unfold s7
 refine FnOk.enter (rs:=[.t 4]) func42 rfl ntmps42 results42 rfl ⟨trivial,trivial⟩ (by kernel_rfl) rfl ?_
 repeat (first | refine AWP.q ?_ | refine AWP.J ?_ | refine AWP.skip ?_ | refine b6 ?_ | refine f5 ?_ | refine AWP.condT rfl ?_ | refine AWP.condF rfl ?_)
 refine AWP.u ?_
 refine AOps.v rfl rfl ?_
 refine AOps.nil ?_
 repeat (first | refine b6 ?_ | refine f5 ?_)
 have hd:decide ((n:Int)<0)=false:=decide_eq_false (by omega)
 repeat (first | refine AWP.q ?_ | refine AWP.J ?_ | refine AWP.skip ?_ | refine b6 ?_ | refine f5 ?_ | refine AWP.condT rfl ?_ | refine AWP.condF rfl ?_)
 refine AWP.u ?_
 refine AOps.j rfl rfl ?_
 refine AOps.F rfl rfl rfl ?_
 refine AOps.nil ?_
 repeat (first | refine b6 ?_ | refine f5 ?_)
 (repeat (refine AWP.q ?_)); first | refine AWP.condD rfl (fun hc=> ?_) (fun hc=> ?_) | refine AWP.condN rfl (fun hc=> ?_) (fun hc=> ?_) | refine AWP.condE rfl (fun hc=> ?_) (fun hc hc'=> ?_) | refine AWP.condB rfl (fun hc=> ?_) (fun hc=> ?_) | refine AWP.cond rfl (fun hc=> ?_) (fun hc=> ?_)
 ·omega
 repeat (first | refine AWP.skip ?_ | refine b6 ?_ | refine f5 ?_ | refine AWP.condT rfl ?_ | refine AWP.condF rfl ?_)
 repeat (first | refine AWP.q ?_ | refine AWP.J ?_ | refine AWP.skip ?_ | refine b6 ?_ | refine f5 ?_ | refine AWP.condT rfl ?_ | refine AWP.condF rfl ?_)
 refine AWP.u ?_
 refine AOps.j rfl rfl ?_
 first | refine AOps.lenB rfl rfl (fun _=> ?_) | refine AOps.lenOwnB rfl rfl rfl (fun _=> ?_) | refine AOps.lenNil rfl rfl ?_
 refine AOps.convE (c:=1) rfl rfl (show IntKind.u64.wrap ((1:Nat):Int)=1 by decide) ?_
 refine AOps.j rfl rfl ?_
 refine AOps.convE (c:=(n:Int)) rfl rfl w1 ?_
 first | refine AOps.aa rfl rfl rfl rfl (n9 n hn) rfl ?_ | refine AOps.aa rfl rfl rfl rfl (n9 n hn) rfl ?_ | refine AOps.aa rfl rfl rfl rfl (n9 n hn) rfl ?_ | refine AOps.aa rfl rfl rfl rfl (n9 n hn) rfl ?_ | refine AOps.aa rfl rfl rfl rfl (n9 n hn) rfl ?_ | refine AOps.aa rfl rfl rfl rfl (n9 n hn) rfl ?_ | refine AOps.aa rfl rfl rfl rfl (n9 n hn) rfl ?_ | refine AOps.aa rfl rfl rfl rfl (n9 n hn) rfl ?_ | refine AOps.aa rfl rfl rfl rfl (n9 n hn) rfl ?_ | refine AOps.aa rfl rfl rfl rfl (n9 n hn) rfl ?_ | refine AOps.aa rfl rfl rfl rfl (n9 n hn) rfl ?_ | refine AOps.aa rfl rfl rfl rfl (n9 n hn) rfl ?_ | refine AOps.aa rfl rfl rfl rfl (n9 n hn) rfl ?_ | refine AOps.aa rfl rfl rfl rfl (n9 n hn) rfl ?_ | refine AOps.aa rfl rfl rfl rfl (n9 n hn) rfl ?_ | refine AOps.aa rfl rfl rfl rfl (n9 n hn) rfl ?_ | refine AOps.aa rfl rfl rfl rfl (n9 n hn) rfl ?_ | refine AOps.aa rfl rfl rfl rfl (n9 n hn) rfl ?_ | refine AOps.aa rfl rfl rfl rfl (n9 n hn) rfl ?_ | refine AOps.aa rfl rfl rfl rfl (n9 n hn) rfl ?_ | refine AOps.aa rfl rfl rfl rfl (n9 n hn) rfl ?_ | refine AOps.aa rfl rfl rfl rfl (n9 n hn) rfl ?_ | refine AOps.aa rfl rfl rfl rfl (n9 n hn) rfl ?_ | refine AOps.aa rfl rfl rfl rfl (n9 n hn) rfl ?_ | refine AOps.aa rfl rfl rfl rfl (n9 n hn) rfl ?_ | refine AOps.aa rfl rfl rfl rfl (n9 n hn) rfl ?_ | refine AOps.aa rfl rfl rfl rfl (n9 n hn) rfl ?_ | refine AOps.aa rfl rfl rfl rfl (n9 n hn) rfl ?_ | refine AOps.aa rfl rfl rfl rfl (n9 n hn) rfl ?_ | refine AOps.aa rfl rfl rfl rfl (n9 n hn) rfl ?_ | refine AOps.aa rfl rfl rfl rfl (n9 n hn) rfl ?_ | refine AOps.aa rfl rfl rfl rfl (n9 n hn) rfl ?_ | refine AOps.aa rfl rfl rfl rfl (n9 n hn) rfl ?_ | refine AOps.aa rfl rfl rfl rfl (n9 n hn) rfl ?_ | refine AOps.aa rfl rfl rfl rfl (n9 n hn) rfl ?_ | refine AOps.aa rfl rfl rfl rfl (n9 n hn) rfl ?_ | refine AOps.aa rfl rfl rfl rfl (n9 n hn) rfl ?_ | refine AOps.aa rfl rfl rfl rfl (n9 n hn) rfl ?_ | refine AOps.aa rfl rfl rfl rfl (n9 n hn) rfl ?_ | refine AOps.aa rfl rfl rfl rfl (n9 n hn) rfl ?_ | refine AOps.aa rfl rfl rfl rfl (n9 n hn) rfl ?_ | refine AOps.aa rfl rfl rfl rfl (n9 n hn) rfl ?_ | refine AOps.aa rfl rfl rfl rfl (n9 n hn) rfl ?_
 refine AOps.j rfl rfl ?_
 refine AOps.ac rfl rfl rfl ?_
 refine AOps.ac rfl rfl rfl ?_
 refine AOps.v rfl rfl ?_
 refine AOps.v rfl rfl ?_
 refine AOps.nil ?_
 repeat (first | refine b6 ?_ | refine f5 ?_)
 have hd2:decide ((0:Int)<0)=false:=by decide
 repeat (first | refine AWP.q ?_ | refine AWP.J ?_ | refine AWP.skip ?_ | refine b6 ?_ | refine f5 ?_ | refine AWP.condT rfl ?_ | refine AWP.condF rfl ?_)
 refine AWP.u ?_
 refine AOps.j rfl rfl ?_
 refine AOps.gtr rfl rfl rfl ?_
 refine AOps.j rfl rfl ?_
 first | (refine AOps.B rfl rfl rfl (by assumption) ?_) | (refine AOps.ai rfl rfl rfl ?_) | (refine AOps.z rfl rfl rfl (by assumption) ?_; refine AOps.j rfl rfl ?_)
 first | (refine AOps.B rfl rfl rfl (by assumption) ?_) | (refine AOps.ai rfl rfl rfl ?_) | (refine AOps.z rfl rfl rfl (by assumption) ?_; refine AOps.gtr rfl rfl rfl ?_)
 first | refine AOps.O rfl (by assumption) rfl rfl ?_ | refine AOps.U rfl (by assumption) rfl rfl ?_
 refine AOps.nil ?_
 repeat (first | refine b6 ?_ | refine f5 ?_)
 (repeat (refine AWP.q ?_)); first | refine AWP.condD rfl (fun hc=> ?_) (fun hc=> ?_) | refine AWP.condN rfl (fun hc=> ?_) (fun hc=> ?_) | refine AWP.condE rfl (fun hc=> ?_) (fun hc hc'=> ?_) | refine AWP.condB rfl (fun hc=> ?_) (fun hc=> ?_) | refine AWP.cond rfl (fun hc=> ?_) (fun hc=> ?_)
 ·omega
 repeat (first | refine AWP.skip ?_ | refine b6 ?_ | refine f5 ?_ | refine AWP.condT rfl ?_ | refine AWP.condF rfl ?_)
 repeat (first | refine AWP.q ?_ | refine AWP.J ?_ | refine AWP.skip ?_ | refine b6 ?_ | refine f5 ?_ | refine AWP.condT rfl ?_ | refine AWP.condF rfl ?_)
 refine AWP.u ?_
 refine AOps.j rfl rfl ?_
 refine AOps.convE (c:=(n:Int)) rfl rfl w2 ?_
 refine W.make rfl rfl rfl (by omega) (by omega) rfl rfl rfl ?_
 refine AOps.v rfl rfl ?_
 refine AOps.nil ?_
 repeat (first | refine b6 ?_ | refine f5 ?_)
 repeat (first | refine AWP.q ?_ | refine AWP.J ?_ | refine AWP.skip ?_ | refine b6 ?_ | refine f5 ?_ | refine AWP.condT rfl ?_ | refine AWP.condF rfl ?_)
 refine AWP.u ?_
 refine AOps.j rfl rfl ?_
 refine AOps.j rfl rfl ?_
 refine AOps.copyE (m:=1) (es':=repC c n 1) rfl rfl (by omega) rfl .imm rfl (Nat.min_eq_left h1) (rep_first h1) rfl ?_
 refine AOps.v rfl rfl ?_
 refine AOps.nil ?_
 repeat (first | refine b6 ?_ | refine f5 ?_)
 refine AWP.q ?_
 refine AWP.J ?_
 refine AWP.loop (X:=Nat) (fun i=>⟨[(7,.c (.own 0 0 n)),(8,.c (int i))],[.one (.cells 1 (repC c n i))]⟩) (fun i=>1≤i∧i≤n) (fun i=>n - i) 1 (Sub.env ⟨rfl,rfl,trivial⟩) ⟨Nat.le_refl _,h1⟩ ?_
 rintro i ⟨i1,i2⟩
 repeat (first | refine AWP.q ?_ | refine AWP.J ?_ | refine AWP.skip ?_ | refine b6 ?_ | refine f5 ?_ | refine AWP.condT rfl ?_ | refine AWP.condF rfl ?_)
 refine AWP.u ?_
 refine AOps.j rfl rfl ?_
 refine AOps.j rfl rfl ?_
 first | refine AOps.lenB rfl rfl (fun _=> ?_) | refine AOps.lenOwnB rfl rfl rfl (fun _=> ?_) | refine AOps.lenNil rfl rfl ?_
 refine AOps.F rfl rfl rfl ?_
 refine AOps.nil ?_
 repeat (first | refine b6 ?_ | refine f5 ?_)
 (repeat (refine AWP.q ?_)); first | refine AWP.condD rfl (fun hc=> ?_) (fun hc=> ?_) | refine AWP.condN rfl (fun hc=> ?_) (fun hc=> ?_) | refine AWP.condE rfl (fun hc=> ?_) (fun hc hc'=> ?_) | refine AWP.condB rfl (fun hc=> ?_) (fun hc=> ?_) | refine AWP.cond rfl (fun hc=> ?_) (fun hc=> ?_)
 ·have hi:i<n:=by omega
  obtain ⟨m,hm⟩:∃ m,m=Nat.min i (n - i):=⟨_,rfl⟩
  have hm1:1≤m:=by rw [hm]; exact Nat.le_min.2 ⟨i1,by omega⟩
  have hm2:m≤i∧i+m≤n:=by
   have:=Nat.min_le_left i (n - i)
   have:=Nat.min_le_right i (n - i)
   change m=min i (n - i) at hm
   omega
  have hcm:Nat.min (((repC c n i).drop 0).take i).length (n - i)=m:=by
   rw [hm]
   congr 1
   simp [repC]; omega
  have hce:(repC c n i).take (0+i)++(((repC c n i).drop 0).take i).take m++(repC c n i).drop (0+i+m)=repC c n (i+m):=rep_more hm2.1 hm2.2
  repeat (first | refine AWP.skip ?_ | refine b6 ?_ | refine f5 ?_ | refine AWP.condT rfl ?_ | refine AWP.condF rfl ?_)
  repeat (first | refine AWP.q ?_ | refine AWP.J ?_ | refine AWP.skip ?_ | refine b6 ?_ | refine f5 ?_ | refine AWP.condT rfl ?_ | refine AWP.condF rfl ?_)
  refine AWP.drawEI [7] mixed rfl rfl rfl ?_
  apply e9.consN; exact rfl; exact rfl; intro E
  refine AOps.j rfl rfl ?_
  exact AOps.nil ⟨rfl,rfl⟩
  exact rfl
  apply e9.consN; exact rfl; exact rfl; intro E
  refine AOps.j rfl rfl ?_
  exact AOps.nil ⟨rfl,rfl⟩
  exact rfl
  apply e9.consN; exact rfl; exact rfl; intro E
  refine AOps.j rfl rfl ?_
  exact AOps.nil ⟨rfl,rfl⟩
  exact rfl
  apply e9.consN; exact rfl; exact rfl; intro E
  first | refine AOps.sliceArrI rfl (Nat.le_of_ble_eq_true rfl) rfl rfl ?_ | refine AOps.sliceOwnTo rfl rfl rfl (by omega) rfl ?_ | refine AOps.sliceOwnFrom rfl rfl rfl (by omega) rfl ?_
  exact AOps.nil ⟨rfl,rfl⟩
  exact rfl
  apply e9.consN; exact rfl; exact rfl; intro E
  refine AOps.j rfl rfl ?_
  exact AOps.nil ⟨rfl,rfl⟩
  exact rfl
  apply e9.consN; exact rfl; exact rfl; intro E
  refine AOps.j rfl rfl ?_
  exact AOps.nil ⟨rfl,rfl⟩
  exact rfl
  apply e9.consN; exact rfl; exact rfl; intro E
  first | refine AOps.sliceArrI rfl (Nat.le_of_ble_eq_true rfl) rfl rfl ?_ | refine AOps.sliceOwnTo rfl rfl rfl (by omega) rfl ?_ | refine AOps.sliceOwnFrom rfl rfl rfl (by omega) rfl ?_
  exact AOps.nil ⟨rfl,rfl⟩
  exact rfl
  apply e9.consE; exact rfl; exact rfl; intro E
  refine AOps.copyE rfl rfl (by omega) rfl (Src.own rfl) rfl hcm hce rfl ?_
  exact AOps.nil ⟨rfl,rfl⟩
  exact rfl
  exact rfl
  apply e9.consN; exact rfl; exact rfl; intro E
  refine AOps.add rfl rfl rfl (by omega) ?_
  exact AOps.nil ⟨rfl,rfl⟩
  exact rfl
  apply e9.consN; exact rfl; exact rfl; intro E
  refine AOps.v rfl rfl ?_
  exact AOps.nil ⟨rfl,rfl⟩
  exact rfl
  refine e9.done rfl ?_ ?_
  ·apply d9.cons; exact rfl; exact rfl
   first | refine b7.skip rfl ?_ | (apply b7.go; exact rfl; exact rfl; intro E; (refine AOps.j rfl rfl ?_); exact AOps.nil ⟨rfl,rfl⟩)
   first | refine b7.skip rfl ?_ | (apply b7.go; exact rfl; exact rfl; intro E; (refine AOps.j rfl rfl ?_); exact AOps.nil ⟨rfl,rfl⟩)
   exact b7.nil
   apply d9.cons; exact rfl; exact rfl
   first | refine b7.skip rfl ?_ | (apply b7.go; exact rfl; exact rfl; intro E; (refine AOps.j rfl rfl ?_); exact AOps.nil ⟨rfl,rfl⟩)
   first | refine b7.skip rfl ?_ | (apply b7.go; exact rfl; exact rfl; intro E; (refine AOps.j rfl rfl ?_); exact AOps.nil ⟨rfl,rfl⟩)
   exact b7.nil
   apply d9.cons; exact rfl; exact rfl
   first | refine b7.skip rfl ?_ | (apply b7.go; exact rfl; exact rfl; intro E; (refine AOps.j rfl rfl ?_); exact AOps.nil ⟨rfl,rfl⟩)
   first | refine b7.skip rfl ?_ | (apply b7.go; exact rfl; exact rfl; intro E; (refine AOps.j rfl rfl ?_); exact AOps.nil ⟨rfl,rfl⟩)
   exact b7.nil
   apply d9.cons; exact rfl; exact rfl
   first | refine b7.skip rfl ?_ | (apply b7.go; exact rfl; exact rfl; intro E; (first | refine AOps.sliceArrI rfl (Nat.le_of_ble_eq_true rfl) rfl rfl ?_ | refine AOps.sliceOwnTo rfl rfl rfl (by omega) rfl ?_ | refine AOps.sliceOwnFrom rfl rfl rfl (by omega) rfl ?_); exact AOps.nil ⟨rfl,rfl⟩)
   first | refine b7.skip rfl ?_ | (apply b7.go; exact rfl; exact rfl; intro E; (first | refine AOps.sliceArrI rfl (Nat.le_of_ble_eq_true rfl) rfl rfl ?_ | refine AOps.sliceOwnTo rfl rfl rfl (by omega) rfl ?_ | refine AOps.sliceOwnFrom rfl rfl rfl (by omega) rfl ?_); exact AOps.nil ⟨rfl,rfl⟩)
   exact b7.nil
   apply d9.cons; exact rfl; exact rfl
   first | refine b7.skip rfl ?_ | (apply b7.go; exact rfl; exact rfl; intro E; (refine AOps.j rfl rfl ?_); exact AOps.nil ⟨rfl,rfl⟩)
   first | refine b7.skip rfl ?_ | (apply b7.go; exact rfl; exact rfl; intro E; (refine AOps.j rfl rfl ?_); exact AOps.nil ⟨rfl,rfl⟩)
   exact b7.nil
   apply d9.cons; exact rfl; exact rfl
   first | refine b7.skip rfl ?_ | (apply b7.go; exact rfl; exact rfl; intro E; (refine AOps.j rfl rfl ?_); exact AOps.nil ⟨rfl,rfl⟩)
   first | refine b7.skip rfl ?_ | (apply b7.go; exact rfl; exact rfl; intro E; (refine AOps.j rfl rfl ?_); exact AOps.nil ⟨rfl,rfl⟩)
   exact b7.nil
   apply d9.cons; exact rfl; exact rfl
   first | refine b7.skip rfl ?_ | (apply b7.go; exact rfl; exact rfl; intro E; (first | refine AOps.sliceArrI rfl (Nat.le_of_ble_eq_true rfl) rfl rfl ?_ | refine AOps.sliceOwnTo rfl rfl rfl (by omega) rfl ?_ | refine AOps.sliceOwnFrom rfl rfl rfl (by omega) rfl ?_); exact AOps.nil ⟨rfl,rfl⟩)
   first | refine b7.skip rfl ?_ | (apply b7.go; exact rfl; exact rfl; intro E; (first | refine AOps.sliceArrI rfl (Nat.le_of_ble_eq_true rfl) rfl rfl ?_ | refine AOps.sliceOwnTo rfl rfl rfl (by omega) rfl ?_ | refine AOps.sliceOwnFrom rfl rfl rfl (by omega) rfl ?_); exact AOps.nil ⟨rfl,rfl⟩)
   exact b7.nil
   refine d9.skip rfl ?_
   apply d9.cons; exact rfl; exact rfl
   first | refine b7.skip rfl ?_ | (apply b7.go; exact rfl; exact rfl; intro E; (refine AOps.add rfl rfl rfl (by omega) ?_); exact AOps.nil ⟨rfl,rfl⟩)
   first | refine b7.skip rfl ?_ | (apply b7.go; exact rfl; exact rfl; intro E; (refine AOps.add rfl rfl rfl (by omega) ?_); exact AOps.nil ⟨rfl,rfl⟩)
   exact b7.nil
   apply d9.cons; exact rfl; exact rfl
   first | refine b7.skip rfl ?_ | (apply b7.go; exact rfl; exact rfl; intro E; (refine AOps.v rfl rfl ?_); exact AOps.nil ⟨rfl,rfl⟩)
   first | refine b7.skip rfl ?_ | (apply b7.go; exact rfl; exact rfl; intro E; (refine AOps.v rfl rfl ?_); exact AOps.nil ⟨rfl,rfl⟩)
   exact b7.nil
   exact d9.nil
  dsimp only [l8]
  repeat (first | refine b6 ?_ | refine f5 ?_)
  exact ⟨i+m,Sub.env ⟨rfl,rfl,trivial⟩,⟨by omega,by omega⟩,by omega⟩
 repeat (first | refine AWP.q ?_ | refine AWP.ret ?_ | refine g9 ?_ | refine m8 ?_ | refine AWP.skip ?_ | refine b6 ?_ | refine f5 ?_ | refine AWP.exit ?_ | refine f8 ?_ | refine k8 ?_ | refine B6 rfl ?_)
 repeat (first | refine AWP.q ?_ | refine AWP.J ?_ | refine AWP.skip ?_ | refine b6 ?_ | refine f5 ?_ | refine AWP.condT rfl ?_ | refine AWP.condF rfl ?_)
 refine AWP.u ?_
 refine AOps.j rfl rfl ?_
 refine AOps.v rfl rfl ?_
 refine AOps.nil ?_
 repeat (first | refine b6 ?_ | refine f5 ?_)
 repeat (first | refine AWP.q ?_ | refine AWP.ret ?_ | refine g9 ?_ | refine m8 ?_ | refine AWP.skip ?_ | refine b6 ?_ | refine f5 ?_ | refine AWP.exit ?_ | refine f8 ?_ | refine k8 ?_ | refine B6 rfl ?_)
 have hin:i=n:=by omega
 subst hin
 refine Done.ret rfl ⟨0,by simp, ?_⟩
 show some (some (Blk.cells 1 (repC c i i)))=_
 rw [rep_full]
def D8(x:List Int)(n:Int):Option (List Int):=match x with
 | [c]=>if 1≤n∧n≤4294967295 then some (List.replicate n.toNat c) else none
 | _=>none
theorem am2{x:List Int}{n:Int}{r:List Int}(h:D8 x n=some r):s7 prog 42 [.c (row 1 intI x),.c (int n)] 1 (List.map intI r):=by
 unfold D8 at h
 split at h
 ·rename_i c
  split at h
  ·rename_i hn
   cases h
   have:=repeat_ok c n.toNat (by omega) (by omega)
   rw [Int.toNat_of_nonneg (by omega)] at this
   rwa [List.map_replicate]
  ·cases h
 ·cases h
end Ab
end
section
namespace Ab
open Go
section
variable {P:Program} {σ0:b8} {sz:Nat} {Q:Post} {env:Env} {σv σ':b8} {ops:Array Oper} {rest:List Oper} {dst:Option Nat} {ty:TypeId} {pos:String} {after:Array Edge}
end
end Ab
end
section
namespace Ab
open Go Go.Proofs
end Ab
end
section
namespace Ab
open Go Go.Sort
abbrev U32:Type:={x:Int // 0≤x∧x<4294967296}
noncomputable def sortFU(cmp:Int→Int→Option Int)(l:List Int):Option (List Int):=open Classical in
 if h:∀ x ∈ l,0≤x∧x<4294967296 then (ad5 (α:=U32) (fun a b=>cmp a.1 b.1) (l.attach.map fun x=>⟨x.1,h x.1 x.2⟩)).map fun m=>m.map (·.1) else none
theorem sortFU_get{cmp:Int→Int→Option Int}{l l':List Int}(h:sortFU cmp l=some l'):∃ (k m:List U32),l=k.map (·.1)∧l'=m.map (·.1)∧ad5 (fun a b=>cmp a.1 b.1) k=some m:=by
 unfold sortFU at h
 split at h
 ·rename_i hr
  obtain ⟨m,h1,rfl⟩:=Option.map_eq_some_iff.1 h
  exact ⟨_,m,by simp,rfl,h1⟩
 ·cases h
theorem sortFU_len{cmp:Int→Int→Option Int}{l l':List Int}(h:sortFU cmp l=some l'):l.length=l'.length:=by
 obtain ⟨k,m,rfl,rfl,h3⟩:=sortFU_get h
 simpa using sortFL_len h3
section
variable {P:Program} {σ0:b8} {sz:Nat} {Q:Post} {env:Env} {σv σ':b8} {ops:Array Oper} {rest:List Oper} {dst:Option Nat} {ty:TypeId} {pos:String} {after:Array Edge}
theorem vec_u32(m:List U32):vec 1 (fun a:Int=>[I.val (.int .u32 a)]) (m.map (·.1))=vec 1 (fun a:U32=>[I.val (.int .u32 a.1)]) m:=by
 simp [vec,Function.comp_def]
theorem S.sortFU{cmp:Int→Int→Option Int}{x:Operand}{al:List Operand}{ats:Array TypeId}{fs g:FuncId}{id:Id}{n:Nat}{l l':List Int}(hs:sortFU cmp l=some l')
  (hcmp:∀ {a b r},cmp a b=some r→h9 P g [.c (.imm (.val (.int .u32 a))),.c (.imm (.val (.int .u32 b)))] (.c (int r))) (hf:SortFOk P fs) (hgn:L6 P g) (hx:ev env x=some (.c (.fn fs []))) (ha:evs env al=some [.c (.own id 0 n),.c (.fn g [])]) (hn:n=l.length) (hσ:σv[id]? =some (some (vec 1 (fun a:Int=>[I.val (.int .u32 a)]) l)))
  (hd:g8 sz dst=true) (hσ':putF σv id (some (vec 1 (fun a:Int=>[I.val (.int .u32 a)]) l'))=some σ') (h:AOps P σ0 sz ops Q rest (St.mk (putE env dst (.tup [])) σ')):
  AOps P σ0 sz ops Q (⟨dst,.call ⟨.value x,al.toArray,ats⟩,ty,pos,after,none⟩::rest) (St.mk env σv):=by
 obtain ⟨k,m,rfl,rfl,h3⟩:=sortFU_get hs
 rw [vec_u32] at hσ hσ'
 exact S.sortF (α:=U32) (fun a=>.val (.int .u32 a.1)) h3 rfl (fun {a b r} h=>hcmp h) hf hgn hx ha (by rw [hn]; simp) hσ hd hσ' h
end
end Ab
end
section
namespace Ab
open Go Go.Proofs
set_option linter.all false
abbrev i4(l:List Int):List I:=[.sl 1 (l.map intI)]
structure k7 where
  pre:List Int
  add:List Int
  del:List Int
  cost:Int
abbrev u5(v:k7):List I:=[.sl 1 (List.map intI v.pre),.sl 1 (List.map intI v.add),.sl 1 (List.map intI v.del),.val (.int .i64 v.cost)]
structure f9 where
  facts:Int
  init:List Int
  goal:List Int
  operators:List k7
abbrev eTTask(v:f9):List I:=[.val (.int .i64 v.facts),.sl 1 (List.map intI v.init),.sl 1 (List.map intI v.goal),.sl 4 (List.map u5 v.operators)]
structure TFault where
  code:Int
  index:Int
structure aj2 where
  fx:Int
  fy:Int
  signed:Bool
  code:Int
structure Truntime_boundsError where
  fx:Int
  fy:Int
  signed:Bool
  code:Int
structure aj4 where
  facts:Int
  init:List Int
  goal:List Int
  operators:List k7
abbrev u4(v:Int × Int):List I:=[.val (.int .i64 v.1),.val (.int .i64 v.2)]
structure TCode_int_Index_int where
  code:Int
  index:Int
structure at8 where
  pre:List Int
  add:List Int
  del:List Int
  cost:Int
structure ar6 where
  fs:List Int
  seen:Int
  cost:Int
  sequence:Int
structure e7 where
  fs:List Int
  seen:Int
  cost:Int
  sequence:Int
abbrev e6(v:e7):List I:=[.sl 1 (List.map intI v.fs),.val (.int .i64 v.seen),.val (.int .i64 v.cost),.val (.int .i64 v.sequence)]
structure w7 where
  ffrom:Int
  cost:Int
abbrev j9(v:w7):List I:=[.val (.int .u32 v.ffrom),.val (.int .i64 v.cost)]
structure Tspace_Step_uint32 where
  op:Int
  cost:Int
  to:Int
structure TOp_int_Cost_int_To_uint32 where
  op:Int
  cost:Int
  to:Int
structure Tfrom_uint32_cost_int where
  ffrom:Int
  cost:Int
structure j8 where
  pre:Int
  add:Int
  del:Int
  cost:Int
abbrev e8(v:j8):List I:=[.val (.int .u32 v.pre),.val (.int .u32 v.add),.val (.int .u32 v.del),.val (.int .i64 v.cost)]
structure ap7 where
  start:Int
  goal:Int
  ops:List j8
structure Tspace_Words where
  start:Int
  goal:Int
  ops:List j8
structure ao9 where
  pre:Int
  add:Int
  del:Int
  cost:Int
structure as5 where
  item:Int
  key:Int
  time:Int
  fat:Int
structure c9 where
  item:Int
  key:Int
  time:Int
  fat:Int
abbrev b9(v:c9):List I:=[.val (.int .u32 v.item),.val (.int .i64 v.key),.val (.int .i64 v.time),.val (.int .i64 v.fat)]
structure Tnode_int_from_int_step_int where
  node:List (List Int)
  ffrom:Int
  step:Int
structure i7 where
  node:List (List Int)
  ffrom:Int
  step:Int
abbrev i9(v:i7):List I:=[.sl 1 (List.map i4 v.node),.val (.int .i64 v.ffrom),.val (.int .i64 v.step)]
def V2(l:List Int)(nv:Int):Int→Unit→Option (Unit ⊕ Bool):=fun t3 _=>Option.bind (ix l t3) fun a12=>Option.bind (if a12<0 then some true else if nv≤a12 then some true else if 0<t3 then Option.bind (ix l (t3 - 1)) fun a29=>some (decide (a12≤a29)) else some false) fun t4=>if t4=true then some (.inr false) else some (.inl ())
def D2(l:List Int)(nv:Int):Option Bool:=(Option.bind (rngX 0 (l.length:Int) (V2 l nv) ()) fun | .inl _=>some true | .inr x=>some x)
def G0(xv:Int):Option Bool:=some (!(decide (xv=xv)))
def V7(xv:Int)(yv:Int):Option Bool:=Option.bind (Option.bind (G0 xv) fun a6=>if a6=true then Option.bind (G0 yv) fun a9=>if (!a9)=true then some true else some (decide (xv<yv)) else some (decide (xv<yv))) fun t3=>some t3
def M6(xv:Int):Option Bool:=some (!(decide (xv=xv)))
def A5(xv:List Int)(target:Int):(Int × Int)→Option ((Int × Int) ⊕ Int):=fun (iv3,j4)=>if iv3<j4 then Option.bind (ix xv (w64 (shrW .u64 ((IntKind.u64).wrap (w64 (iv3+j4))) 1))) fun a24=>Option.bind (V7 a24 target) fun a27=>if a27=true then some (.inl (w64 ((w64 (shrW .u64 ((IntKind.u64).wrap (w64 (iv3+j4))) 1))+1),j4)) else some (.inl (iv3,w64 (shrW .u64 ((IntKind.u64).wrap (w64 (iv3+j4))) 1))) else some (.inr iv3)
noncomputable def r9(xv:List Int)(target:Int):Option (Int × Bool):=Option.bind (Loop (A5 xv target) (0,(xv.length:Int))) fun iv5=>Option.bind (if iv5<(xv.length:Int) then Option.bind (ix xv iv5) fun a38=>if a38=target then some true else Option.bind (ix xv iv5) fun a45=>Option.bind (M6 a45) fun a47=>if a47=true then Option.bind (M6 target) fun a50=>some a50 else some false else some false) fun t8=>some (iv5,t8)
noncomputable def X1(xv:Int)(c2:List Int):Option Bool:=Option.bind (r9 c2 xv) fun a9=>some a9.2
def C6(sv:List Int)(fv:Int→Option Bool):Int→Unit→Option (Unit ⊕ Int):=fun t3 _=>Option.bind (ix sv t3) fun a14=>Option.bind (fv a14) fun a16=>if a16=true then some (.inr t3) else some (.inl ())
def F5(sv:List Int)(fv:Int→Option Bool):Option Int:=(Option.bind (rngX 0 (sv.length:Int) (C6 sv fv) ()) fun | .inl _=>some (-1) | .inr x=>some x)
def y7(sv:List Int)(fv:Int→Option Bool):Option Bool:=Option.bind (F5 sv fv) fun a7=>some (decide (0≤a7))
noncomputable def V8(av:List Int)(bv:List Int):Option Bool:=Option.bind (y7 av (fun y1=>X1 y1 bv)) fun a7=>some a7
noncomputable def O6(ov:k7)(facts:Int):Option Int:=Option.bind (Option.bind (D2 ov.pre facts) fun a9=>if (!a9)=true then some true else Option.bind (D2 ov.add facts) fun a15=>if (!a15)=true then some true else Option.bind (D2 ov.del facts) fun a22=>if (!a22)=true then some true else Option.bind (V8 ov.add ov.del) fun a30=>some a30) fun t3=>if t3=true then some 5 else if ((decide (ov.cost<0)) || (decide (100<ov.cost)))=true then some 3 else some 0
noncomputable def H8(t:f9):Int→Unit→Option (Unit ⊕ TFault):=fun t6 _=>Option.bind (ix t.operators t6) fun a44=>Option.bind (O6 a44 t.facts) fun a49=>if a49=0 then some (.inl ()) else some (.inr (⟨a49,t6⟩:TFault))
noncomputable def y5(t:f9):Option TFault:=if ((decide (t.facts<0)) || (decide (24<t.facts)))=true then some (⟨3, -1⟩:TFault) else Option.bind (D2 t.init t.facts) fun a21=>if (!a21)=true then some (⟨5, -2⟩:TFault) else Option.bind (D2 t.goal t.facts) fun a29=>if (!a29)=true then some (⟨5, -3⟩:TFault) else if 40<(t.operators.length:Int) then some (⟨2, -1⟩:TFault) else (Option.bind (rngX 0 (t.operators.length:Int) (H8 t) ()) fun | .inl _=>some (⟨0,0⟩:TFault) | .inr x=>some x)
def I0(sv:List Int)(a12:Int):Int→Option (Int ⊕ Int):=fun iv5=>Option.bind (if iv5<(sv.length:Int) then Option.bind (ix sv iv5) fun a21=>some (decide (a21<a12)) else some false) fun t7=>if t7=true then some (.inl (w64 (iv5+1))) else some (.inr iv5)
noncomputable def O0(sv:List Int)(part:List Int):Int→Int→Option (Int ⊕ Bool):=fun t4 iv3=>Option.bind (ix part t4) fun a12=>Option.bind (Loop (I0 sv a12) iv3) fun iv6=>Option.bind (if iv6=(sv.length:Int) then some true else Option.bind (ix sv iv6) fun a35=>some (!(decide (a35=a12)))) fun t11=>if t11=true then some (.inr false) else some (.inl iv6)
noncomputable def F3(sv:List Int)(part:List Int):Option Bool:=(Option.bind (rngX 0 (part.length:Int) (O0 sv part) 0) fun | .inl iv3=>some true | .inr x=>some x)
noncomputable def aa2(sv:List Int)(c2:List Int):Option Bool:=Option.bind (F3 sv c2) fun a6=>some (!a6)
def E8(sv:List (List Int))(fv:(List Int)→Option Bool):Int→Unit→Option (Unit ⊕ Int):=fun t3 _=>Option.bind (ix sv t3) fun a14=>Option.bind (fv a14) fun a16=>if a16=true then some (.inr t3) else some (.inl ())
def H4(sv:List (List Int))(fv:(List Int)→Option Bool):Option Int:=(Option.bind (rngX 0 (sv.length:Int) (E8 sv fv) ()) fun | .inl _=>some (-1) | .inr x=>some x)
def A0(sv:List (List Int))(fv:(List Int)→Option Bool):Option Bool:=Option.bind (H4 sv fv) fun a7=>some (decide (0≤a7))
noncomputable def Y1(worlds:List (List Int))(facts:List Int):Option Bool:=Option.bind (A0 worlds (fun y1=>aa2 y1 facts)) fun a7=>some (!a7)
noncomputable def ac0(sv:List Int)(del:List Int):Int→(List Int)→Option (List Int):=fun t5 c4=>Option.bind (Option.bind (ix sv t5) fun a16=>Option.bind (r9 del a16) fun a21=>if (!a21.2)=true then Option.bind (app 8 c4 [a16]) fun a29=>some a29 else some c4) fun c6=>some c6
noncomputable def N5(sv:List Int)(add:List Int)(del:List Int):Option (List Int):=(Option.bind (forR 0 (sv.length:Int) (ac0 sv del) []) fun c4=>Option.bind (app 8 c4 add) fun a33=>Option.bind (sortL a33) fun a35=>some (aa9 a35))
noncomputable def T8(t:f9)(sv:List Int)(op:Int):Option (List Int):=Option.bind (ix t.operators op) fun a11=>Option.bind (N5 sv a11.add a11.del) fun a18=>some a18
def P3(xv:Int)(yv:Int):Option Int:=Option.bind (G0 xv) fun a8=>Option.bind (G0 yv) fun a10=>if a8=true then if a10=true then some 0 else some (-1) else if a10=true then some 1 else if xv<yv then some (-1) else if yv<xv then some 1 else some 0
def E4(s11:List Int)(s22:List Int):Int→Unit→Option (Unit ⊕ Int):=fun t3 _=>Option.bind (ix s11 t3) fun a14=>if (s22.length:Int)≤t3 then some (.inr 1) else Option.bind (ix s22 t3) fun a22=>Option.bind (P3 a14 a22) fun a26=>if a26=0 then some (.inl ()) else some (.inr a26)
def w8(s11:List Int)(s22:List Int):Option Int:=(Option.bind (rngX 0 (s11.length:Int) (E4 s11 s22) ()) fun | .inl _=>if (s11.length:Int)<(s22.length:Int) then some (-1) else some 0 | .inr x=>some x)
def N3(s11:List Int)(s22:List Int):Int→Unit→Option (Unit ⊕ Bool):=fun t4 _=>Option.bind (ix s11 t4) fun a18=>Option.bind (ix s22 t4) fun a22=>if a18=a22 then some (.inl ()) else some (.inr false)
def C3(s11:List Int)(s22:List Int):Option Bool:=if (s11.length:Int)=(s22.length:Int) then (Option.bind (rngX 0 (s11.length:Int) (N3 s11 s22) ()) fun | .inl _=>some true | .inr x=>some x) else some false
abbrev y8(l:List (List Int)):b8:=[.one (vec 1 i4 l)]
def v6(l:List (List Int))(kv54:Int):Int→((List (List Int)) × Int)→Option ((List (List Int)) × Int):=fun k258 (c56,kv57)=>Option.bind (Option.bind (ixV c56 (0+kv54) ((l.length:Int) - kv54) k258) fun a41=>Option.bind (ixV c56 (0+kv54) ((l.length:Int) - kv54) (k258 - 1)) fun a46=>Option.bind (C3 a41 a46) fun a48=>if (!a48)=true then Option.bind (ixV c56 (0+kv54) ((l.length:Int) - kv54) k258) fun a54=>Option.bind (ix c56 kv57) fun a56=>some (c56.set kv57.toNat a54,w64 (kv57+1)) else some (c56,kv57)) fun ⟨c59,kv60⟩=>some (c59,kv60)
def q9(l:List (List Int)):Int→Unit→Option (Unit ⊕ (List (List Int))):=fun kv54 _=>Option.bind (ix l kv54) fun a21=>Option.bind (ix l (kv54 - 1)) fun a26=>Option.bind (C3 a21 a26) fun a28=>if a28=true then Option.bind (cutV (l.length:Int) kv54 (l.length:Int)) fun u31=>(Option.bind (forR 1 ((l.length:Int) - kv54) (v6 l kv54) (l,kv54)) fun ⟨c56,kv57⟩=>Option.bind (cutV (c56.length:Int) kv57 (c56.length:Int)) fun u61=>Option.bind (cutV ((clrL c56 (0+kv57) ((c56.length:Int) - kv57) []).length:Int) 0 kv57) fun u64=>some (.inr (k6 (clrL c56 (0+kv57) ((c56.length:Int) - kv57) []) 0 kv57))) else some (.inl ())
def x8(l:List (List Int)):Option (List (List Int)):=if (l.length:Int)<2 then some l else (Option.bind (rngX 1 (l.length:Int) (q9 l) ()) fun | .inl _=>some l | .inr x=>some x)
abbrev as7(l:List (List Int)):b8:=[.one (vec 1 i4 l)]
noncomputable def P1(l:List (List Int)):Option (List (List Int)):=Option.bind (ad5 w8 l) fun a4=>Option.bind (x8 a4) fun a6=>some a6
noncomputable def O1(t:f9)(worlds:List (List Int))(op:Int):Int→(List (List Int))→Option (List (List Int)):=fun t5 c4=>Option.bind (ix worlds t5) fun a14=>Option.bind (T8 t a14 op) fun a20=>Option.bind (app 24 c4 [a20]) fun a22=>some a22
noncomputable def R3(t:f9)(worlds:List (List Int))(op:Int):Option (List (List Int)):=(Option.bind (forR 0 (worlds.length:Int) (O1 t worlds op) []) fun c4=>Option.bind (P1 c4) fun a25=>some a25)
abbrev an8(t:f9)(worlds:List (List Int)):b8:=[]
def M9(t:f9)(worlds:List (List Int)):Option Unit:=some ()
def P7(v:List (List Int)):Option Bool:=some false
def internal_strconv_small(iv:Int):Option ByteArray:=if iv<10 then Option.bind (subS (⟨#[48,49,50,51,52,53,54,55,56,57,97,98,99,100,101,102,103,104,105,106,107,108,109,110,111,112,113,114,115,116,117,118,119,120,121,122]⟩:ByteArray) iv (w64 (iv+1))) fun a8=>some a8 else Option.bind (subS (⟨#[48,48,48,49,48,50,48,51,48,52,48,53,48,54,48,55,48,56,48,57,49,48,49,49,49,50,49,51,49,52,49,53,49,54,49,55,49,56,49,57,50,48,50,49,50,50,50,51,50,52,50,53,50,54,50,55,50,56,50,57,51,48,51,49,51,50,51,51,51,52,51,53,51,54,51,55,51,56,51,57,52,48,52,49,52,50,52,51,52,52,52,53,52,54,52,55,52,56,52,57,53,48,53,49,53,50,53,51,53,52,53,53,53,54,53,55,53,56,53,57,54,48,54,49,54,50,54,51,54,52,54,53,54,54,54,55,54,56,54,57,55,48,55,49,55,50,55,51,55,52,55,53,55,54,55,55,55,56,55,57,56,48,56,49,56,50,56,51,56,52,56,53,56,54,56,55,56,56,56,57,57,48,57,49,57,50,57,51,57,52,57,53,57,54,57,55,57,56,57,57]⟩:ByteArray) (w64 (iv * 2)) (w64 ((w64 (iv * 2))+2))) fun a14=>some a14
abbrev Y7(iv:Int)(base:Int)(l:List Int):b8:=[.one (vec 1 eU8 l)]
def A4(iv:Int)(base:Int)(l:List Int):Option (List Int):=if base=10 then if iv<100 then Option.bind (internal_strconv_small (w64 iv)) fun a16=>Option.bind (app 1 l (strL a16)) fun a17=>some a17 else none else none
abbrev ab4(iv:Int)(base:Int)(l:List Int):b8:=[.one (vec 1 eU8 l)]
def B1(iv:Int)(base:Int)(l:List Int):Option (List Int):=Option.bind (if iv<0 then none else some ()) fun _=>Option.bind (A4 ((IntKind.u64).wrap iv) base l) fun a20=>some a20
abbrev am6(iv:Int)(base:Int)(l:List Int):b8:=[.one (vec 1 eU8 l)]
def B8(iv:Int)(base:Int)(l:List Int):Option (List Int):=Option.bind (B1 iv base l) fun a10=>some a10
def aj1(a12:List Int):Int→(List Int)→Option (List Int):=fun t5 c4=>Option.bind (ix a12 t5) fun a18=>Option.bind (B8 a18 10 c4) fun a22=>Option.bind (app 1 a22 [44]) fun a24=>some a24
def ai8(l:List (List Int)):Int→(List Int)→Option (List Int):=fun t3 c2=>Option.bind (ix l t3) fun a12=>(Option.bind (forR 0 (a12.length:Int) (aj1 a12) c2) fun c4=>Option.bind (app 1 c4 [59]) fun a28=>some a28)
def H1(l:List (List Int)):Option ByteArray:=(Option.bind (forR 0 (l.length:Int) (ai8 l) []) fun c2=>some (strB c2))
abbrev at9(t:f9):b8:=[]
def aa4(t:f9):Option Unit:=some ()
abbrev as4(worlds:List (List Int))(Facts:Int)(Init:List Int)(Goal:List Int)(Operators:List k7):b8:=[.one (.cells 4 [[int Facts,row 1 intI Init,row 1 intI Goal,row 4 u5 Operators]])]
def V3(worlds:List (List Int))(Facts:Int)(Init:List Int)(Goal:List Int)(Operators:List k7):Option Unit:=Option.bind (M9 (⟨Facts,Init,Goal,Operators⟩:f9) worlds) fun a6=>some ()
abbrev G4(start:List (List Int))(Facts:Int)(Init:List Int)(Goal:List Int)(Operators:List k7):b8:=[.one (.cells 4 [[int Facts,row 1 intI Init,row 1 intI Goal,row 4 u5 Operators]])]
def Y0(c59:List i7):((List Int) × Int)→Option (((List Int) × Int) ⊕ (List Int)):=fun (c64,iv65)=>Option.bind (ix c59 iv65) fun a43=>if 0≤a43.ffrom then Option.bind (ix c59 iv65) fun a55=>Option.bind (app 8 c64 [a55.step]) fun a59=>Option.bind (ix c59 iv65) fun a49=>some (.inl (a59,a49.ffrom)) else some (.inr c64)
noncomputable def G6(Facts:Int)(Init:List Int)(Goal:List Int)(Operators:List k7)(c61:Int)(a66:i7):Int→((List (ByteArray × Int)) × (List i7))→Option (((List (ByteArray × Int)) × (List i7)) ⊕ (((List (ByteArray × Int)) × (List i7)) ⊕ ((List (ByteArray × Int)) × (List i7)))):=fun t75 (c73,c74)=>Option.bind (ix Operators t75) fun ai12=>Option.bind (Y1 a66.node ai12.pre) fun ai17=>if ai17=true then Option.bind (R3 (⟨Facts,Init,Goal,Operators⟩:f9) a66.node t75) fun ai24=>Option.bind (H1 ai24) fun ab74=>if 0<Option.getD (mget c73 ab74) 0 then some (.inl (c73,c74)) else if (c74.length:Int)=2000 then some (.inr (.inr (c73,c74))) else Option.bind (app 40 c74 [(⟨ai24,c61,t75⟩:i7)]) fun ab90=>some (.inl (mset c73 ab74 1,ab90)) else some (.inl (c73,c74))
noncomputable def C4(Facts:Int)(Init:List Int)(Goal:List Int)(Operators:List k7)(c59:List i7)(c60:List (ByteArray × Int))(c61:Int)(a66:i7):Option (((List (ByteArray × Int)) × (List i7)) ⊕ ((List (ByteArray × Int)) × (List i7))):=(Option.bind (rngX 0 (Operators.length:Int) (G6 Facts Init Goal Operators c61 a66) (c60,c59)) fun | .inl (c73,c74)=>some (.inl (c73,c74)) | .inr x=>some x)
noncomputable def G3(Facts:Int)(Init:List Int)(Goal:List Int)(Operators:List k7):((List i7) × (List (ByteArray × Int)) × Int)→Option (((List i7) × (List (ByteArray × Int)) × Int) ⊕ (Unit ⊕ ((List Int) × Bool × Bool))):=fun (c59,c60,c61)=>if c61<(c59.length:Int) then Option.bind (ix c59 c61) fun a36=>Option.bind (P7 a36.node) fun a39=>if a39=true then Option.bind (Loop (Y0 c59) ([],c61)) fun c66=>some (.inr (.inr (c66.reverse,true,true))) else Option.bind (ix c59 c61) fun a66=>Option.bind (V3 a66.node Facts Init Goal Operators) fun a69=>Option.bind (C4 Facts Init Goal Operators c59 c60 c61 a66) fun | .inl (c69,c70)=>some (.inl (c70,c69,w64 (c61+1))) | .inr (c71,c72)=>some (.inr (.inr ([],false,false))) else some (.inr (.inl ()))
noncomputable def K4(start:List (List Int))(Facts:Int)(Init:List Int)(Goal:List Int)(Operators:List k7):Option ((List Int) × Bool × Bool):=Option.bind (H1 start) fun a25=>Option.bind (Loop (G3 Facts Init Goal Operators) ([(⟨start, -1,0⟩:i7)],mset ([]:List (ByteArray × Int)) a25 1,0)) fun | .inl _=>some ([],false,true) | .inr x=>some x
abbrev ap4(start:List (List Int))(Facts:Int)(Init:List Int)(Goal:List Int)(Operators:List k7):b8:=[.one (.cells 4 [[int Facts,row 1 intI Init,row 1 intI Goal,row 4 u5 Operators]])]
noncomputable def H7(start:List (List Int))(Facts:Int)(Init:List Int)(Goal:List Int)(Operators:List k7):Option Bool:=Option.bind (K4 start Facts Init Goal Operators) fun a14=>some a14.2.2
def E0(t:f9)(goals:List (List Int)):Int→Unit→Option (Unit ⊕ TFault):=fun t6 _=>Option.bind (ix goals t6) fun a32=>Option.bind (D2 a32 t.facts) fun a37=>if (!a37)=true then some (.inr (⟨5,w64 ((-10) - t6)⟩:TFault)) else some (.inl ())
def N8(t:f9)(observed:List Int):Int→Unit→Option (Unit ⊕ TFault):=fun t9 _=>Option.bind (ix observed t9) fun a51=>if ((decide (a51<0)) || (decide ((t.operators.length:Int)≤a51)))=true then some (.inr (⟨3, -6⟩:TFault)) else some (.inl ())
noncomputable def O2(t:f9)(goals:List (List Int))(observed:List Int):Option TFault:=Option.bind (y5 t) fun a13=>if (!((decide (a13.code=0)) && (decide (a13.index=0))))=true then some a13 else if ((decide ((goals.length:Int)=0)) || (decide (4<(goals.length:Int))))=true then some (⟨9, -8⟩:TFault) else (Option.bind (rngX 0 (goals.length:Int) (E0 t goals) ()) fun | .inl _=>if 8<(observed.length:Int) then some (⟨2, -5⟩:TFault) else (Option.bind (rngX 0 (observed.length:Int) (N8 t observed) ()) fun | .inl _=>Option.bind (aa4 t) fun a68=>Option.bind (H7 [t.init] t.facts t.init t.goal t.operators) fun a69=>if (!a69)=true then some (⟨10, -7⟩:TFault) else some (⟨0,0⟩:TFault) | .inr x=>some x) | .inr x=>some x)
def H5(l:List e7):Option Int:=some (l.length:Int)
noncomputable def ad6(t:f9)(sv:List Int)(op:Int):Option Bool:=Option.bind (ix t.operators op) fun a11=>Option.bind (F3 sv a11.pre) fun a14=>some a14
abbrev ai5(l:List e7):b8:=[.one (vec 4 e6 l)]
def x9(l:List e7):Option Unit:=some ()
abbrev ag8(iv:Int)(kv:Int)(l:List e7):b8:=[.one (vec 4 e6 l)]
def s8(iv:Int)(kv:Int)(l:List e7):Option (List e7):=Option.bind (ix l kv) fun a12=>Option.bind (ix l iv) fun a16=>Option.bind (ix l iv) fun a18=>Option.bind (ix (l.set iv.toNat a12) kv) fun a19=>some ((l.set iv.toNat a12).set kv.toNat a16)
abbrev ag4(iv:Int)(kv:Int)(l:List e7):b8:=[.one (vec 4 e6 l)]
def q7(iv:Int)(kv:Int)(l:List e7):Option Bool:=Option.bind (Option.bind (ix l iv) fun a9=>Option.bind (ix l kv) fun a14=>if a9.cost<a14.cost then some true else Option.bind (ix l iv) fun a21=>Option.bind (ix l kv) fun a26=>if a21.cost=a26.cost then Option.bind (ix l iv) fun a33=>Option.bind (ix l kv) fun a38=>some (decide (a33.sequence<a38.sequence)) else some false) fun t55=>some t55
abbrev af1(iv:Int)(kv:Int)(l:List e7):b8:=[.one (vec 4 e6 l)]
def D6(iv:Int)(kv:Int)(l:List e7):Option Bool:=Option.bind (Option.bind (ix l iv) fun a9=>Option.bind (ix l kv) fun a14=>if a9.cost<a14.cost then some true else Option.bind (ix l iv) fun a21=>Option.bind (ix l kv) fun a26=>if a21.cost=a26.cost then Option.bind (ix l iv) fun a33=>Option.bind (ix l kv) fun a38=>some (decide (a33.sequence<a38.sequence)) else some false) fun t55=>some t55
abbrev U9(i01:Int)(nv:Int)(l:List e7):b8:=[.one (.cells 1 [[.own 1 0 l.length]]),.one (vec 4 e6 l)]
def E5(nv:Int):((List e7) × Int)→Option (((List e7) × Int) ⊕ ((List e7) × Int)):=fun (c56,iv57)=>if ((decide (nv≤w64 ((w64 (2 * iv57))+1))) || (decide (w64 ((w64 (2 * iv57))+1)<0)))=true then some (.inr (c56,iv57)) else Option.bind (Option.bind (if w64 ((w64 ((w64 (2 * iv57))+1))+1)<nv then Option.bind (q7 (w64 ((w64 ((w64 (2 * iv57))+1))+1)) (w64 ((w64 (2 * iv57))+1)) c56) fun a32=>some a32 else some false) fun t63=>if t63=true then some (w64 ((w64 ((w64 (2 * iv57))+1))+1)) else some (w64 ((w64 (2 * iv57))+1))) fun j61=>Option.bind (D6 j61 iv57 c56) fun a38=>if (!a38)=true then some (.inr (c56,iv57)) else Option.bind (s8 iv57 j61 c56) fun a43=>Option.bind (M3 c56 a43) fun u68=>some (.inl (a43,j61))
noncomputable def D1(i01:Int)(nv:Int)(l:List e7):Option ((List e7) × Bool):=Option.bind (Loop (E5 nv) (l,i01)) fun ⟨c58,iv59⟩=>some (c58,decide (i01<iv59))
abbrev af7(l:List e7):b8:=[.one (.cells 1 [[.own 1 0 l.length]]),.one (vec 4 e6 l)]
def E7(l:List e7):Option e7:=Option.bind (ix l (w64 ((l.length:Int) - 1))) fun a12=>Option.bind (cutV (l.length:Int) 0 (w64 ((l.length:Int) - 1))) fun u23=>some a12
abbrev al7(l:List e7):b8:=[.one (.cells 1 [[.own 1 0 l.length]]),.one (vec 4 e6 l)]
noncomputable def D9(l:List e7):Option ((List e7) × e7):=Option.bind (x9 l) fun a5=>Option.bind (s8 0 (w64 ((l.length:Int) - 1)) l) fun a9=>Option.bind (M3 l a9) fun u54=>Option.bind (D1 0 (w64 ((l.length:Int) - 1)) a9) fun a12=>Option.bind (E7 a12.1) fun a14=>some (k6 a12.1 0 (w64 ((a12.1.length:Int) - 1)),a14)
abbrev ao3(t:f9)(sv:List Int):b8:=[]
def N1(t:f9)(sv:List Int):Option Unit:=some ()
abbrev ag7(xv:e7)(l:List e7):b8:=[.one (.cells 1 [[.own 1 0 l.length]]),.one (vec 4 e6 l)]
def E6(xv:e7)(l:List e7):Option (List e7):=Option.bind (app 48 l [xv]) fun a11=>some a11
abbrev af3(iv:Int)(kv:Int)(l:List e7):b8:=[.one (vec 4 e6 l)]
def D5(iv:Int)(kv:Int)(l:List e7):Option (List e7):=Option.bind (ix l kv) fun a12=>Option.bind (ix l iv) fun a16=>Option.bind (ix l iv) fun a18=>Option.bind (ix (l.set iv.toNat a12) kv) fun a19=>some ((l.set iv.toNat a12).set kv.toNat a16)
abbrev X7(j:Int)(l:List e7):b8:=[.one (.cells 1 [[.own 1 0 l.length]]),.one (vec 4 e6 l)]
def G2:((List e7) × Int)→Option (((List e7) × Int) ⊕ (List e7)):=fun (c54,j55)=>Option.bind (chkN 2) fun u7=>Option.bind (if w64 ((w64 (j55 - 1)).tdiv 2)=j55 then some true else Option.bind (q7 j55 (w64 ((w64 (j55 - 1)).tdiv 2)) c54) fun a15=>some (!a15)) fun t57=>if t57=true then some (.inr c54) else Option.bind (D5 (w64 ((w64 (j55 - 1)).tdiv 2)) j55 c54) fun a21=>Option.bind (M3 c54 a21) fun u61=>some (.inl (a21,w64 ((w64 (j55 - 1)).tdiv 2)))
noncomputable def F7(j:Int)(l:List e7):Option (List e7):=Option.bind (Loop G2 (l,j)) fun c56=>some c56
abbrev ak2(xv:e7)(l:List e7):b8:=[.one (.cells 1 [[.own 1 0 l.length]]),.one (vec 4 e6 l)]
noncomputable def z7(xv:e7)(l:List e7):Option (List e7):=Option.bind (E6 xv l) fun a6=>Option.bind (x9 a6) fun a9=>Option.bind (F7 (w64 ((a6.length:Int) - 1)) a6) fun a11=>some a11
noncomputable def I1(goals:List (List Int))(observed:List Int)(a35:(List e7) × e7):Int→(List Int)→Option (List Int):=fun t17 c16=>Option.bind (Option.bind (ix goals t17) fun a55=>Option.bind (if a35.2.seen=(observed.length:Int) then Option.bind (ix c16 t17) fun a65=>if a65=1000000000 then Option.bind (F3 a35.2.fs a55) fun a73=>some a73 else some false else some false) fun t20=>if t20=true then Option.bind (ix c16 t17) fun a79=>some (c16.set t17.toNat a35.2.cost) else some c16) fun c18=>some c18
noncomputable def O7(t:f9)(observed:List Int)(a35:(List e7) × e7):Int→(Int × (List e7))→Option (Int × (List e7)):=fun t30 (c28,c29)=>Option.bind (ad6 t a35.2.fs t30) fun ai14=>if ai14=true then Option.bind (T8 t a35.2.fs t30) fun ai21=>Option.bind (ix t.operators t30) fun ab95=>Option.bind (z7 (⟨ai21,a35.2.seen,w64 (a35.2.cost+ab95.cost),c28⟩:e7) c29) fun ab107=>Option.bind (if a35.2.seen<(observed.length:Int) then Option.bind (ix observed a35.2.seen) fun ab117=>some (decide (ab117=t30)) else some false) fun t32=>if t32=true then Option.bind (z7 (⟨ai21,w64 (a35.2.seen+1),w64 (a35.2.cost+ab95.cost),c28⟩:e7) ab107) fun ab130=>some (w64 (c28+1),ab130) else some (w64 (c28+1),ab107) else some (c28,c29)
noncomputable def O9(t:f9)(observed:List Int)(c7:Int)(a35:(List e7) × e7):Option (Int × (List e7)):=(Option.bind (forR 0 (t.operators.length:Int) (O7 t observed a35) (c7,a35.1)) fun ⟨c28,c29⟩=>some (c28,c29))
noncomputable def P6(t:f9)(goals:List (List Int))(observed:List Int):((List Int) × (List e7) × (List (ByteArray × Int)) × Int)→Option (((List Int) × (List e7) × (List (ByteArray × Int)) × Int) ⊕ (List Int)):=fun (c4,c5,c6,c7)=>Option.bind (H5 c5) fun a31=>if 0<a31 then Option.bind (Option.bind (D9 c5) fun a35=>Option.bind (H1 ([a35.2.fs,[a35.2.seen]])) fun a43=>if 0<Option.getD (mget c6 a43) 0 then some (c4,c6,c7,a35.1) else (Option.bind (forR 0 (goals.length:Int) (I1 goals observed a35) c4) fun c16=>Option.bind (N1 t a35.2.fs) fun a84=>Option.bind (O9 t observed c7 a35) fun ⟨c26,c27⟩=>some (c16,mset c6 a43 1,c26,c27))) fun ⟨c10,c11,c12,c13⟩=>some (.inl (c10,c13,c11,c12)) else some (.inr c4)
noncomputable def I5(t:f9)(goals:List (List Int))(observed:List Int):Option (List Int):=Option.bind (D8 [1000000000] (goals.length:Int)) fun a21=>Option.bind (Loop (P6 t goals observed) (a21,[(⟨t.init,0,0,0⟩:e7)],([]:List (ByteArray × Int)),1)) fun c8=>some c8
def O4(a24:(List Int))(a27:(List Int)):Int→(List (Int × Int))→Option (List (Int × Int)):=fun t6 c5=>Option.bind (ix a24 t6) fun a36=>Option.bind (ix a27 t6) fun a40=>Option.bind (app 16 c5 [(a36,a40)]) fun a44=>some a44
noncomputable def A7(t:f9)(goals:List (List Int))(observed:List Int):Option ((List (Int × Int)) × TFault):=Option.bind (O2 t goals observed) fun a16=>if (!((decide (a16.code=0)) && (decide (a16.index=0))))=true then some ([],a16) else Option.bind (I5 t goals observed) fun a24=>Option.bind (I5 t goals []) fun a27=>(Option.bind (forR 0 (goals.length:Int) (O4 a24 a27) []) fun c5=>some (c5,(⟨0,0⟩:TFault)))
def Q6(a20:(List (Int × Int)) × TFault):Int→Int→Option Int:=fun t6 least5=>Option.bind (Option.bind (ix a20.1 t6) fun a31=>if a31.1<1000000000 then some (min least5 (w64 (a31.1 - a31.2))) else some least5) fun least7=>some least7
def Q5(a20:(List (Int × Int)) × TFault)(least5:Int):Int→(List Int)→Option (List Int):=fun t11 c10=>Option.bind (Option.bind (ix a20.1 t11) fun a49=>if ((decide (a49.1<1000000000)) && (decide (w64 (a49.1 - a49.2)=least5)))=true then Option.bind (app 8 c10 [t11]) fun a66=>some a66 else some c10) fun c12=>some c12
noncomputable def G8(t:f9)(goals:List (List Int))(observed:List Int):Option ((List Int) × TFault):=Option.bind (A7 t goals observed) fun a20=>if (!((decide (a20.2.code=0)) && (decide (a20.2.index=0))))=true then some ([],a20.2) else (Option.bind (forR 0 (a20.1.length:Int) (Q6 a20) 1000000000) fun least5=>(Option.bind (forR 0 (a20.1.length:Int) (Q5 a20 least5) []) fun c10=>some (c10,(⟨0,0⟩:TFault))))
def ah1(nv:Int)(low:Int)(high:Int):Option Bool:=some ((decide (low≤nv)) && (decide (nv≤high)))
def M1(code:Int)(index:Int):Option TFault:=some (⟨code,index⟩:TFault)
def ai9(l:List Int)(nv:Int):Int→Unit→Option (Unit ⊕ Bool):=fun iv3 _=>Option.bind (Option.bind (ix l iv3) fun a14=>Option.bind (ah1 a14 0 (w64 (nv - 1))) fun a18=>if (!a18)=true then some true else if 0<iv3 then Option.bind (ix l iv3) fun a26=>Option.bind (ix l (iv3 - 1)) fun a31=>some (decide (a26≤a31)) else some false) fun t4=>if t4=true then some (.inr false) else some (.inl ())
def P8(l:List Int)(nv:Int):Option Bool:=(Option.bind (rngX 0 (l.length:Int) (ai9 l nv) ()) fun | .inl _=>some true | .inr x=>some x)
def ref1_Has_l1(l:List Int)(nv:Int):Int→Unit→Option (Unit ⊕ Bool):=fun iv3 _=>Option.bind (ix l iv3) fun a14=>if a14=nv then some (.inr true) else some (.inl ())
def ref1_Has(l:List Int)(nv:Int):Option Bool:=(Option.bind (rngX 0 (l.length:Int) (ref1_Has_l1 l nv) ()) fun | .inl _=>some false | .inr x=>some x)
def al5(av:List Int)(bv:List Int):Int→Unit→Option (Unit ⊕ Bool):=fun iv3 _=>Option.bind (ix av iv3) fun a15=>Option.bind (ref1_Has bv a15) fun a17=>if a17=true then some (.inr false) else some (.inl ())
def ai7(av:List Int)(bv:List Int):Option Bool:=(Option.bind (rngX 0 (av.length:Int) (al5 av bv) ()) fun | .inl _=>some true | .inr x=>some x)
def J6(t:f9):Int→Unit→Option (Unit ⊕ TFault):=fun iv6 _=>Option.bind (ix t.operators iv6) fun a39=>Option.bind (Option.bind (P8 a39.pre t.facts) fun a45=>if (!a45)=true then some true else Option.bind (P8 a39.add t.facts) fun a52=>if (!a52)=true then some true else Option.bind (P8 a39.del t.facts) fun a60=>if (!a60)=true then some true else Option.bind (ai7 a39.add a39.del) fun a68=>some (!a68)) fun t7=>if t7=true then Option.bind (M1 5 iv6) fun a72=>some (.inr a72) else Option.bind (ah1 a39.cost 0 100) fun a75=>if (!a75)=true then Option.bind (M1 3 iv6) fun a78=>some (.inr a78) else some (.inl ())
def ah3(t:f9):Option TFault:=Option.bind (ah1 t.facts 0 24) fun a7=>if (!a7)=true then Option.bind (M1 3 (-1)) fun a9=>some a9 else Option.bind (P8 t.init t.facts) fun a14=>if (!a14)=true then Option.bind (M1 5 (-2)) fun a16=>some a16 else Option.bind (P8 t.goal t.facts) fun a21=>if (!a21)=true then Option.bind (M1 5 (-3)) fun a23=>some a23 else if 40<(t.operators.length:Int) then Option.bind (M1 2 (-1)) fun a28=>some a28 else (Option.bind (rngX 0 (t.operators.length:Int) (J6 t) ()) fun | .inl _=>some (⟨0,0⟩:TFault) | .inr x=>some x)
def ai0(operators:Int)(plan:List Int):Int→Unit→Option (Unit ⊕ TFault):=fun iv4 _=>Option.bind (ix plan iv4) fun a18=>Option.bind (ah1 a18 0 (w64 (operators - 1))) fun a22=>if (!a22)=true then Option.bind (M1 3 (-6)) fun a24=>some (.inr a24) else some (.inl ())
def ae9(operators:Int)(plan:List Int):Option TFault:=if 60<(plan.length:Int) then Option.bind (M1 2 (-5)) fun a9=>some a9 else (Option.bind (rngX 0 (plan.length:Int) (ai0 operators plan) ()) fun | .inl _=>some (⟨0,0⟩:TFault) | .inr x=>some x)
def R2(t:f9)(goals:List (List Int)):Int→Unit→Option (Unit ⊕ TFault):=fun iv6 _=>Option.bind (ix goals iv6) fun a28=>Option.bind (P8 a28 t.facts) fun a32=>if (!a32)=true then Option.bind (M1 5 (w64 ((-10) - iv6))) fun a36=>some (.inr a36) else some (.inl ())
def V6(t:f9)(goals:List (List Int))(observed:List Int):Option TFault:=Option.bind (ah3 t) fun a10=>if a10.code=0 then Option.bind (ah1 (goals.length:Int) 1 4) fun a17=>if (!a17)=true then Option.bind (M1 9 (-8)) fun a19=>some a19 else (Option.bind (rngX 0 (goals.length:Int) (R2 t goals) ()) fun | .inl _=>if 8<(observed.length:Int) then Option.bind (M1 2 (-5)) fun a40=>some a40 else Option.bind (ae9 (t.operators.length:Int) observed) fun a45=>if a45.code=0 then some (⟨0,0⟩:TFault) else Option.bind (M1 3 (-6)) fun a48=>some a48 | .inr x=>some x) else some a10
def ai2:Option f9:=some (⟨2,[0],[1],[(⟨[0],[1],[0],1⟩:k7),(⟨[],[1],[],3⟩:k7)]⟩:f9)
def aa6(av:List (Int × Int))(bv:List (Int × Int)):Int→Unit→Option (Unit ⊕ Bool):=fun iv4 _=>Option.bind (ix av iv4) fun a19=>Option.bind (ix bv iv4) fun a23=>if (!((decide (a19.1=a23.1)) && (decide (a19.2=a23.2))))=true then some (.inr false) else some (.inl ())
def N4(av:List (Int × Int))(bv:List (Int × Int)):Option Bool:=if (av.length:Int)=(bv.length:Int) then (Option.bind (rngX 0 (av.length:Int) (aa6 av bv) ()) fun | .inl _=>some true | .inr x=>some x) else some false
def S6(av:List Int)(bv:List Int):Int→Unit→Option (Unit ⊕ Bool):=fun iv4 _=>Option.bind (ix av iv4) fun a19=>Option.bind (ix bv iv4) fun a23=>if a19=a23 then some (.inl ()) else some (.inr false)
def T4(av:List Int)(bv:List Int):Option Bool:=if (av.length:Int)=(bv.length:Int) then (Option.bind (rngX 0 (av.length:Int) (S6 av bv) ()) fun | .inl _=>some true | .inr x=>some x) else some false
noncomputable def M0:Option Bool:=Option.bind (ai2) fun a6=>Option.bind (A7 a6 ([[1]]) [1]) fun a10=>Option.bind (ai2) fun a14=>Option.bind (G8 a14 ([[1]]) [1]) fun a18=>Option.bind (if a10.2.code=0 then if a18.2.code=0 then Option.bind (N4 a10.1 [(3,1)]) fun a33=>if a33=true then Option.bind (T4 a18.1 [0]) fun a38=>some a38 else some false else some false else some false) fun t1=>some t1
def aa3(sv:List Int):Int→Int→Option Int:=fun t3 w2=>Option.bind (ix sv t3) fun a10=>Option.bind (chk0 a10) fun u14=>some (Go.bits .or .u32 w2 (shlW .u32 1 a10))
def K3(sv:List Int):Option Int:=(Option.bind (forR 0 (sv.length:Int) (aa3 sv) 0) fun w2=>some w2)
def X6(w:Int):Int→(List Int)→Option (List Int):=fun t3 c2=>Option.bind (if Go.bits .and .u32 (shrW .u32 w t3) 1=1 then Option.bind (app 8 c2 [t3]) fun a16=>some a16 else some c2) fun c4=>some c4
def U2(w:Int):Option (List Int):=(Option.bind (forR 0 32 (X6 w) []) fun c2=>some c2)
def I6(av:Int)(bv:Int):Option Int:=Option.bind (U2 av) fun a6=>Option.bind (U2 bv) fun a8=>Option.bind (w8 a6 a8) fun a9=>some a9
abbrev ar3(t:f9):b8:=[]
def aa1(t:f9):Int→(List j8)→Option (List j8):=fun t56 c55=>Option.bind (ix t.operators t56) fun a19=>Option.bind (K3 a19.pre) fun a28=>Option.bind (K3 a19.add) fun a31=>Option.bind (K3 a19.del) fun a34=>Option.bind (app 24 c55 [(⟨a28,a31,a34,a19.cost⟩:j8)]) fun a39=>some a39
def ae7(t:f9):Option (Int × Int × (List j8)):=Option.bind (K3 t.init) fun a8=>Option.bind (K3 t.goal) fun a11=>(Option.bind (forR 0 (t.operators.length:Int) (aa1 t) []) fun c55=>some (a8,a11,c55))
abbrev ao4(start:Int)(goal:Int)(l:List j8):b8:=[.one (.cells 3 [[.imm (.val (.int .u32 start)),.imm (.val (.int .u32 goal)),.own 1 0 l.length]]),.one (vec 4 e8 l)]
def z8(start:Int)(goal:Int)(l:List j8):Option Unit:=some ()
abbrev ao6(sv:Int)(start:Int)(goal:Int)(l:List j8):b8:=[.one (.cells 3 [[.imm (.val (.int .u32 start)),.imm (.val (.int .u32 goal)),.own 1 0 l.length]]),.one (vec 4 e8 l)]
def D0(sv:Int)(start:Int)(goal:Int)(l:List j8):Option Unit:=some ()
abbrev Q9(start:Int)(goal:Int)(l:List j8):b8:=[.one (.cells 3 [[.imm (.val (.int .u32 start)),.imm (.val (.int .u32 goal)),.own 1 0 l.length]]),.one (vec 4 e8 l)]
def I9(l:List j8)(a26:Int)(u32:Unit):Int→((List (Int × Unit)) × (List Int))→Option ((List (Int × Unit)) × (List Int)):=fun t66 (c64,c65)=>Option.bind (ix l t66) fun ai14=>if Go.bits .and .u32 a26 ai14.pre=ai14.pre then if (!(Option.isSome (mget c64 (Go.bits .or .u32 (Go.bits .andNot .u32 a26 ai14.del) ai14.add))))=true then Option.bind (app 4 c65 [Go.bits .or .u32 (Go.bits .andNot .u32 a26 ai14.del) ai14.add]) fun ab58=>some (mset c64 (Go.bits .or .u32 (Go.bits .andNot .u32 a26 ai14.del) ai14.add) (),ab58) else some (c64,c65) else some (c64,c65)
def J0(l:List j8)(c56:List Int)(c57:List (Int × Unit))(a26:Int)(u32:Unit):Option ((List (Int × Unit)) × (List Int)):=(Option.bind (forR 0 (l.length:Int) (I9 l a26 u32) (c57,k6 c56 0 ((c56.length:Int) - 1))) fun ⟨c64,c65⟩=>some (c64,c65))
def I4(start:Int)(goal:Int)(l:List j8):((List Int) × (List (Int × Unit)) × (List Int))→Option (((List Int) × (List (Int × Unit)) × (List Int)) ⊕ ((List Int) ⊕ ((List Int) × Bool))):=fun (c56,c57,c58)=>if 0<(c56.length:Int) then Option.bind (ix c56 ((c56.length:Int) - 1)) fun a26=>Option.bind (cutV (c56.length:Int) 0 ((c56.length:Int) - 1)) fun u32=>Option.bind (app 4 c58 [a26]) fun a36=>Option.bind (D0 a26 start goal l) fun a39=>Option.bind (J0 l c56 c57 a26 u32) fun ⟨c62,c63⟩=>if 2000<(c62.length:Int) then some (.inr (.inr ([],false))) else some (.inl (c63,c62,a36)) else some (.inr (.inl c58))
noncomputable def H6(start:Int)(goal:Int)(l:List j8):Option ((List Int) × Bool):=Option.bind (z8 start goal l) fun a12=>Option.bind (z8 start goal l) fun a16=>Option.bind (Loop (I4 start goal l) ([start],mset ([]:List (Int × Unit)) start (),[])) fun | .inl c59=>some (c59,true) | .inr x=>some x
abbrev ar8(t:f9):b8:=[]
noncomputable def F6(t:f9):Option ((Int × Int) ⊕ (Int × Int × (List j8) × (List Int))):=Option.bind (y5 t) fun a10=>if (!((decide (a10.code=0)) && (decide (a10.index=0))))=true then some (.inl (a10.code,a10.index)) else Option.bind (ae7 t) fun a16=>Option.bind (H6 a16.1 a16.2.1 a16.2.2) fun a20=>if (!a20.2)=true then some (.inl (10, -7)) else Option.bind (sortFU I6 a20.1) fun a27=>some (.inr (a16.1,a16.2.1,a16.2.2,a27))
abbrev al8:b8:=[]
def I3:Option Unit:=some ()
abbrev ao5(sv:Int)(start:Int)(goal:Int)(l:List j8):b8:=[.one (.cells 3 [[.imm (.val (.int .u32 start)),.imm (.val (.int .u32 goal)),.own 1 0 l.length]]),.one (vec 4 e8 l)]
def N0(sv:Int)(start:Int)(goal:Int)(l:List j8):Option Unit:=some ()
abbrev ae0(l:List Int)(l2:List c9):b8:=[.one (prow 1 l),pool 4 b9 l2]
def o9(l:List Int)(l2:List c9):Option Unit:=some ()
abbrev ac6(iv:Int)(kv:Int)(l:List Int)(l4:List c9):b8:=[.one (prow 1 l),pool 4 b9 l4]
def n8(iv:Int)(kv:Int)(l:List Int)(l4:List c9):Option Bool:=Option.bind (ix l iv) fun a9=>Option.bind (ix l4 a9) fun en56=>Option.bind (ix l kv) fun a16=>Option.bind (ix l4 a16) fun en57=>some ((decide (en56.key<en57.key)) || ((decide (en56.key=en57.key)) && (decide (en56.time<en57.time))))
abbrev ac9(iv:Int)(kv:Int)(l:List Int)(l4:List c9):b8:=[.one (prow 1 l),pool 4 b9 l4]
def n7(iv:Int)(kv:Int)(l:List Int)(l4:List c9):Option ((List Int) × (List c9)):=Option.bind (ix l kv) fun a12=>Option.bind (ix l iv) fun a16=>Option.bind (ix ((l.set iv.toNat a12).set kv.toNat a16) iv) fun ha57=>Option.bind (ix ((l.set iv.toNat a12).set kv.toNat a16) kv) fun ha58=>Option.bind (ix l4 ha57) fun en59=>Option.bind (ix (l4.set ha57.toNat (⟨en59.item,en59.key,en59.time,iv⟩:c9)) ha58) fun en60=>some ((l.set iv.toNat a12).set kv.toNat a16,(l4.set ha57.toNat (⟨en59.item,en59.key,en59.time,iv⟩:c9)).set ha58.toNat (⟨en60.item,en60.key,en60.time,kv⟩:c9))
abbrev W5(i01:Int)(nv:Int)(time:Int)(l:List Int)(l5:List (Int × Int))(l6:List c9):b8:=[.one (.cells 3 [[.own 1 0 l.length,.map 2,int time]]),.one (prow 3 l),.one (pmap 3 (Value.int .u32) l5),pool 4 b9 l6]
def x7(nv:Int):((List Int) × (List c9) × Int)→Option (((List Int) × (List c9) × Int) ⊕ ((List Int) × (List c9) × Int)):=fun (c60,c61,iv62)=>if ((decide (nv≤w64 ((w64 (2 * iv62))+1))) || (decide (w64 ((w64 (2 * iv62))+1)<0)))=true then some (.inr (c60,c61,iv62)) else Option.bind (Option.bind (if w64 ((w64 ((w64 (2 * iv62))+1))+1)<nv then Option.bind (n8 (w64 ((w64 ((w64 (2 * iv62))+1))+1)) (w64 ((w64 (2 * iv62))+1)) c60 c61) fun a32=>some a32 else some false) fun t69=>if t69=true then some (w64 ((w64 ((w64 (2 * iv62))+1))+1)) else some (w64 ((w64 (2 * iv62))+1))) fun j67=>Option.bind (n8 j67 iv62 c60 c61) fun a38=>if (!a38)=true then some (.inr (c60,c61,iv62)) else Option.bind (n7 iv62 j67 c60 c61) fun a43=>Option.bind (M3 c60 a43.1) fun u74=>some (.inl (a43.1,a43.2,j67))
noncomputable def A8(i01:Int)(nv:Int)(time:Int)(l:List Int)(l5:List (Int × Int))(l6:List c9):Option ((List Int) × (List c9) × Bool):=Option.bind (Loop (x7 nv) (l,l6,i01)) fun ⟨c63,c64,iv65⟩=>some (c63,c64,decide (i01<iv65))
abbrev Y6(j:Int)(time:Int)(l:List Int)(l4:List (Int × Int))(l5:List c9):b8:=[.one (.cells 3 [[.own 1 0 l.length,.map 2,int time]]),.one (prow 3 l),.one (pmap 3 (Value.int .u32) l4),pool 4 b9 l5]
def H0:((List Int) × (List c9) × Int)→Option (((List Int) × (List c9) × Int) ⊕ ((List Int) × (List c9))):=fun (c58,c59,j60)=>Option.bind (chkN 2) fun u7=>Option.bind (if w64 ((w64 (j60 - 1)).tdiv 2)=j60 then some true else Option.bind (n8 j60 (w64 ((w64 (j60 - 1)).tdiv 2)) c58 c59) fun a15=>some (!a15)) fun t63=>if t63=true then some (.inr (c58,c59)) else Option.bind (n7 (w64 ((w64 (j60 - 1)).tdiv 2)) j60 c58 c59) fun a21=>Option.bind (M3 c58 a21.1) fun u67=>some (.inl (a21.1,a21.2,w64 ((w64 (j60 - 1)).tdiv 2)))
noncomputable def C9(j:Int)(time:Int)(l:List Int)(l4:List (Int × Int))(l5:List c9):Option ((List Int) × (List c9)):=Option.bind (Loop H0 (l,l5,j)) fun ⟨c61,c62⟩=>some (c61,c62)
abbrev am9(iv:Int)(time:Int)(l:List Int)(l4:List (Int × Int))(l5:List c9):b8:=[.one (.cells 3 [[.own 1 0 l.length,.map 2,int time]]),.one (prow 3 l),.one (pmap 3 (Value.int .u32) l4),pool 4 b9 l5]
noncomputable def B9(iv:Int)(time:Int)(l:List Int)(l4:List (Int × Int))(l5:List c9):Option ((List Int) × (List c9)):=Option.bind (o9 l l5) fun a7=>Option.bind (A8 iv (l.length:Int) time l l4 l5) fun a8=>if (!a8.2.2)=true then Option.bind (C9 iv time a8.1 l4 a8.2.1) fun a12=>some (a12.1,a12.2) else some (a8.1,a8.2.1)
abbrev ab1(xv:Int)(time:Int)(l:List c9)(l4:List Int)(l5:List (Int × Int)):b8:=[.one (.cells 3 [[.own 2 0 l4.length,.map 3,int time]]),pool 4 b9 l,.one (prow 1 l4),.one (pmap 1 (Value.int .u32) l5)]
def B0(xv:Int)(time:Int)(l:List c9)(l4:List Int)(l5:List (Int × Int)):Option ((List c9) × (List Int)):=Option.bind (ix l xv) fun en58=>Option.bind (app 8 l4 [xv]) fun a20=>some (l.set xv.toNat (⟨en58.item,en58.key,en58.time,(l4.length:Int)⟩:c9),a20)
abbrev al9(xv:Int)(time:Int)(l:List c9)(l4:List Int)(l5:List (Int × Int)):b8:=[.one (.cells 3 [[.own 2 0 l4.length,.map 3,int time]]),pool 4 b9 l,.one (prow 1 l4),.one (pmap 1 (Value.int .u32) l5)]
noncomputable def A9(xv:Int)(time:Int)(l:List c9)(l4:List Int)(l5:List (Int × Int)):Option ((List c9) × (List Int)):=Option.bind (B0 xv time l l4 l5) fun a6=>Option.bind (o9 a6.2 a6.1) fun a9=>Option.bind (C9 (w64 ((a6.2.length:Int) - 1)) time a6.2 l5 a6.1) fun a11=>some (a11.2,a11.1)
abbrev ad1(item:Int)(key:Int)(time:Int)(l:List Int)(l5:List (Int × Int))(l6:List c9):b8:=[.one (.cells 3 [[.own 1 0 l.length,.map 2,int time]]),.one (prow 3 l),.one (pmap 3 (Value.int .u32) l5),pool 4 b9 l6]
noncomputable def q8(item:Int)(key:Int)(time:Int)(l:List Int)(l5:List (Int × Int))(l6:List c9):Option ((List (Int × Int)) × (List Int) × (List c9)):=if (Option.isSome (mget l5 item))=true then Option.bind (mget l5 item) fun ap61=>Option.bind (ix l6 ap61) fun en62=>Option.bind (B9 en62.fat (w64 (time+1)) l l5 ((l6.set ap61.toNat (⟨en62.item,key,en62.time,en62.fat⟩:c9)).set ap61.toNat (⟨en62.item,key,w64 (time+1),en62.fat⟩:c9))) fun a45=>some (l5,a45.1,a45.2) else Option.bind (chkH l6.length (List.map (·.2) l5)) fun u63=>Option.bind (chkH l6.length l) fun u64=>Option.bind (A9 (l6.length:Int) (w64 (time+1)) (l6++[(⟨item,key,w64 (time+1),0⟩:c9)]) l (mset l5 item (l6.length:Int))) fun a66=>some (mset l5 item (l6.length:Int),a66.2,a66.1)
abbrev ae3(time:Int)(l:List Int)(l3:List (Int × Int))(l4:List c9):b8:=[.one (.cells 3 [[.own 1 0 l.length,.map 2,int time]]),.one (prow 3 l),.one (pmap 3 (Value.int .u32) l3),pool 4 b9 l4]
def C7(time:Int)(l:List Int)(l3:List (Int × Int))(l4:List c9):Option Unit:=some ()
abbrev aa8(iv:Int)(kv:Int)(l:List Int)(l4:List c9):b8:=[.one (prow 1 l),pool 4 b9 l4]
def x5(iv:Int)(kv:Int)(l:List Int)(l4:List c9):Option ((List Int) × (List c9)):=Option.bind (ix l kv) fun a12=>Option.bind (ix l iv) fun a16=>Option.bind (ix ((l.set iv.toNat a12).set kv.toNat a16) iv) fun ha57=>Option.bind (ix ((l.set iv.toNat a12).set kv.toNat a16) kv) fun ha58=>Option.bind (ix l4 ha57) fun en59=>Option.bind (ix (l4.set ha57.toNat (⟨en59.item,en59.key,en59.time,iv⟩:c9)) ha58) fun en60=>some ((l.set iv.toNat a12).set kv.toNat a16,(l4.set ha57.toNat (⟨en59.item,en59.key,en59.time,iv⟩:c9)).set ha58.toNat (⟨en60.item,en60.key,en60.time,kv⟩:c9))
abbrev ab0(iv:Int)(kv:Int)(l:List Int)(l4:List c9):b8:=[.one (prow 1 l),pool 4 b9 l4]
def G1(iv:Int)(kv:Int)(l:List Int)(l4:List c9):Option Bool:=Option.bind (ix l iv) fun a9=>Option.bind (ix l4 a9) fun en56=>Option.bind (ix l kv) fun a16=>Option.bind (ix l4 a16) fun en57=>some ((decide (en56.key<en57.key)) || ((decide (en56.key=en57.key)) && (decide (en56.time<en57.time))))
abbrev U5(i01:Int)(nv:Int)(time:Int)(l:List Int)(l5:List (Int × Int))(l6:List c9):b8:=[.one (.cells 3 [[.own 1 0 l.length,.map 2,int time]]),.one (prow 3 l),.one (pmap 3 (Value.int .u32) l5),pool 4 b9 l6]
def V4(nv:Int):((List Int) × (List c9) × Int)→Option (((List Int) × (List c9) × Int) ⊕ ((List Int) × (List c9) × Int)):=fun (c60,c61,iv62)=>if ((decide (nv≤w64 ((w64 (2 * iv62))+1))) || (decide (w64 ((w64 (2 * iv62))+1)<0)))=true then some (.inr (c60,c61,iv62)) else Option.bind (Option.bind (if w64 ((w64 ((w64 (2 * iv62))+1))+1)<nv then Option.bind (n8 (w64 ((w64 ((w64 (2 * iv62))+1))+1)) (w64 ((w64 (2 * iv62))+1)) c60 c61) fun a32=>some a32 else some false) fun t69=>if t69=true then some (w64 ((w64 ((w64 (2 * iv62))+1))+1)) else some (w64 ((w64 (2 * iv62))+1))) fun j67=>Option.bind (G1 j67 iv62 c60 c61) fun a38=>if (!a38)=true then some (.inr (c60,c61,iv62)) else Option.bind (x5 iv62 j67 c60 c61) fun a43=>Option.bind (M3 c60 a43.1) fun u74=>some (.inl (a43.1,a43.2,j67))
noncomputable def H3(i01:Int)(nv:Int)(time:Int)(l:List Int)(l5:List (Int × Int))(l6:List c9):Option ((List Int) × (List c9) × Bool):=Option.bind (Loop (V4 nv) (l,l6,i01)) fun ⟨c63,c64,iv65⟩=>some (c63,c64,decide (i01<iv65))
abbrev ad0(time:Int)(l:List Int)(l3:List (Int × Int))(l4:List c9):b8:=[.one (.cells 3 [[.own 1 0 l.length,.map 2,int time]]),.one (prow 3 l),.one (pmap 3 (Value.int .u32) l3),pool 4 b9 l4]
def C1(time:Int)(l:List Int)(l3:List (Int × Int))(l4:List c9):Option ((List Int) × Int):=Option.bind (ix l ((l.length:Int) - 1)) fun a12=>Option.bind (subL l 0 ((l.length:Int) - 1)) fun a19=>some (a19,a12)
abbrev am4(time:Int)(l:List Int)(l3:List (Int × Int))(l4:List c9):b8:=[.one (.cells 3 [[.own 1 0 l.length,.map 2,int time]]),.one (prow 3 l),.one (pmap 3 (Value.int .u32) l3),pool 4 b9 l4]
noncomputable def F8(time:Int)(l:List Int)(l3:List (Int × Int))(l4:List c9):Option ((List c9) × (List Int) × Int):=Option.bind (o9 l l4) fun a5=>Option.bind (x5 0 (w64 ((l.length:Int) - 1)) l l4) fun a9=>Option.bind (M3 l a9.1) fun u58=>Option.bind (H3 0 (w64 ((l.length:Int) - 1)) time a9.1 l3 a9.2) fun a12=>Option.bind (C1 time a12.1 l3 a12.2.1) fun a14=>some (a12.2.1,a14.1,a14.2)
abbrev aa7(time:Int)(l:List Int)(l3:List (Int × Int))(l4:List c9):b8:=[.one (.cells 3 [[.own 1 0 l.length,.map 2,int time]]),.one (prow 3 l),.one (pmap 3 (Value.int .u32) l3),pool 4 b9 l4]
noncomputable def x6(time:Int)(l:List Int)(l3:List (Int × Int))(l4:List c9):Option ((List (Int × Int)) × (List c9) × (List Int) × Int × Int × Bool):=if (l.length:Int)=0 then some (l3,l4,l,0,0,false) else Option.bind (F8 time l l3 l4) fun a17=>Option.bind (ix a17.1 a17.2.2) fun en62=>some (mdel l3 en62.item,a17.1,a17.2.1,en62.item,en62.key,true)
abbrev ad3(item:Int)(key:Int)(time:Int)(l:List Int)(l5:List (Int × Int))(l6:List c9):b8:=[.one (.cells 3 [[.own 1 0 l.length,.map 2,int time]]),.one (prow 3 l),.one (pmap 3 (Value.int .u32) l5),pool 4 b9 l6]
noncomputable def C0(item:Int)(key:Int)(time:Int)(l:List Int)(l5:List (Int × Int))(l6:List c9):Option ((List (Int × Int)) × (List Int) × (List c9)):=if (Option.isSome (mget l5 item))=true then Option.bind (mget l5 item) fun ap61=>Option.bind (ix l6 ap61) fun en62=>Option.bind (B9 en62.fat (w64 (time+1)) l l5 ((l6.set ap61.toNat (⟨en62.item,key,en62.time,en62.fat⟩:c9)).set ap61.toNat (⟨en62.item,key,w64 (time+1),en62.fat⟩:c9))) fun a45=>some (l5,a45.1,a45.2) else Option.bind (chkH l6.length (List.map (·.2) l5)) fun u63=>Option.bind (chkH l6.length l) fun u64=>Option.bind (A9 (l6.length:Int) (w64 (time+1)) (l6++[(⟨item,key,w64 (time+1),0⟩:c9)]) l (mset l5 item (l6.length:Int))) fun a66=>some (mset l5 item (l6.length:Int),a66.2,a66.1)
abbrev Q3(l:List Int)(start:Int)(goal:Int)(l4:List j8):b8:=[.one (.cells 3 [[.imm (.val (.int .u32 start)),.imm (.val (.int .u32 goal)),.own 1 0 l4.length]]),.one (vec 4 e8 l4)]
def Q7(l4:List j8)(a23:Int):Int→(List (Int × List w7))→Option (List (Int × List w7)):=fun t73 c72=>Option.bind (ix l4 t73) fun ai14=>if Go.bits .and .u32 a23 ai14.pre=ai14.pre then Option.bind (app 16 (rowM c72 (Go.bits .or .u32 (Go.bits .andNot .u32 a23 ai14.del) ai14.add)) [(⟨a23,ai14.cost⟩:w7)]) fun ab51=>some (mset c72 (Go.bits .or .u32 (Go.bits .andNot .u32 a23 ai14.del) ai14.add) ab51) else some c72
def Q4(l4:List j8)(c56:List (Int × List w7))(a23:Int):Option (List (Int × List w7)):=(Option.bind (forR 0 (l4.length:Int) (Q7 l4 a23) c56) fun c72=>some c72)
noncomputable def J9(l:List Int)(start:Int)(goal:Int)(l4:List j8):Int→((List (Int × List w7)) × (List (Int × Int)) × (List (Int × Int)) × (List c9) × Int × (List Int))→Option ((List (Int × List w7)) × (List (Int × Int)) × (List (Int × Int)) × (List c9) × Int × (List Int)):=fun t62 (c56,c57,c58,c59,c60,c61)=>Option.bind (ix l t62) fun a23=>Option.bind (Option.bind (N0 a23 start goal l4) fun a29=>if Go.bits .and .u32 a23 goal=goal then Option.bind (q8 a23 0 c60 c61 c58 c59) fun a34=>some (mset (mset c57 a23 1000000000) a23 0,a34.1,w64 (c60+1),a34.2.1,a34.2.2) else some (mset c57 a23 1000000000,c58,c60,c61,c59)) fun ⟨c63,c64,c65,c66,c67⟩=>Option.bind (D0 a23 start goal l4) fun a37=>Option.bind (Q4 l4 c56 a23) fun c71=>some (c71,c63,c64,c67,c65,c66)
noncomputable def J4(c56:List (Int × List w7))(a58:(List (Int × Int)) × (List c9) × (List Int) × Int × Int × Bool):Int→((List (Int × Int)) × (List (Int × Int)) × (List c9) × Int × (List Int))→Option ((List (Int × Int)) × (List (Int × Int)) × (List c9) × Int × (List Int)):=fun t87 (c82,c83,c84,c85,c86)=>Option.bind (Option.bind (ix (rowM c56 a58.2.2.2.1) t87) fun a68=>if w64 (a58.2.2.2.2.1+a68.cost)<Option.getD (mget c82 a68.ffrom) 0 then Option.bind (C0 a68.ffrom (w64 (a58.2.2.2.2.1+a68.cost)) c85 c86 c83 c84) fun a93=>some (mset c82 a68.ffrom (w64 (a58.2.2.2.2.1+a68.cost)),a93.1,w64 (c85+1),a93.2.1,a93.2.2) else some (c82,c83,c85,c86,c84)) fun ⟨c88,c89,c90,c91,c92⟩=>some (c88,c89,c92,c90,c91)
noncomputable def J7(c56:List (Int × List w7)):((List (Int × Int)) × (List (Int × Int)) × (List c9) × Int × (List Int))→Option (((List (Int × Int)) × (List (Int × Int)) × (List c9) × Int × (List Int)) ⊕ (List (Int × Int))):=fun (c75,c76,c77,c78,c79)=>Option.bind (C7 c78 c79 c76 c77) fun a54=>if 0<(c79.length:Int) then Option.bind (x6 c78 c79 c76 c77) fun a58=>(Option.bind (forR 0 ((rowM c56 a58.2.2.2.1).length:Int) (J4 c56 a58) (c75,a58.1,a58.2.1,c78,a58.2.2.1)) fun ⟨c82,c83,c84,c85,c86⟩=>some (.inl (c82,c83,c84,c85,c86))) else some (.inr c75)
noncomputable def Q8(l:List Int)(start:Int)(goal:Int)(l4:List j8):Option (List (Int × Int)):=Option.bind (I3) fun a18=>(Option.bind (forR 0 (l.length:Int) (J9 l start goal l4) (([]:List (Int × List w7)),([]:List (Int × Int)),([]:List (Int × Int)),([]:List c9),0,([]:List Int))) fun ⟨c56,c57,c58,c59,c60,c61⟩=>Option.bind (Loop (J7 c56) (c57,c58,c59,c60,c61)) fun c80=>some c80)
noncomputable def T1(t:f9):Option (Int × TFault):=Option.bind (F6 t) fun | .inl fk2=>if (!((decide (fk2.1=0)) && (decide (fk2.2=0))))=true then some (0,(⟨fk2.1,fk2.2⟩:TFault)) else none | .inr fk2=>if (!((decide (0=0)) && (decide (0=0))))=true then some (0,(⟨0,0⟩:TFault)) else Option.bind (Q8 fk2.2.2.2 fk2.1 fk2.2.1 fk2.2.2.1) fun a19=>Option.bind (z8 fk2.1 fk2.2.1 fk2.2.2.1) fun a21=>some (Option.getD (mget a19 fk2.1) 0,(⟨0,0⟩:TFault))
noncomputable def J2(t:f9):Option Bool:=Option.bind (A7 t [t.goal] []) fun a12=>Option.bind (T1 t) fun a17=>if ((!(decide (a12.2.code=0))) || (!(decide (a17.2.code=0))))=true then Option.bind (if ((decide (a12.2.code=a17.2.code)) && (decide (a12.2.index=a17.2.index)))=true then Option.bind (M0) fun a32=>some a32 else some false) fun t3=>some t3 else Option.bind (Option.bind (N4 a12.1 [(a17.1,a17.1)]) fun a39=>if a39=true then Option.bind (M0) fun a41=>some a41 else some false) fun t6=>some t6
end Ab
end
section
namespace Ab
open Go
theorem eOk1{n t:Nat}{v:T}{r:Env}(h:v.ok n=true)(hr:envOk n r=true):envOk n ((t,v)::r)=true:=by
 simp only [envOk,h,hr,Bool.and_self]
section
open Go.Proofs
variable {P:Program} {σ0:b8} {sz:Nat} {Q:Post} {env:Env} {σv:b8} {ops:Array Oper} {rest:List Oper}
end
end Ab
end
section
namespace Go.Proofs
open Go.Shelf
open Tryz
def Tryz.lays283_ren:Go.Shelf.Ren:=⟨fun | 283=>122 | n=>n,fun | 3=>3 | 9=>9 | 4=>4 | n=>n,fun | n=>n⟩
theorem Tryz.lays283:Go.Proofs.Lays.n283 prog Tryz.lays283_ren:={
 mixed:=by kernel_rfl
 f283:=func122.trans (congrArg some (by kernel_rfl))
 t3:=underlying3
 a3:=isAgg3
 z3:=sizeOf3
 v3:=zeroValue3
 t4:=underlying4
 a4:=isAgg4
 z4:=sizeOf4
 v4:=zeroValue4
 t9:=underlying9
 a9:=isAgg9
 z9:=sizeOf9
 v9:=zeroValue9}
open Go.Lib in
theorem Tryz.internal_strconv_small(i:Nat)(h:i<100)(w:World):
  Calls prog 122 #[.int .i64 i] w fun e w'=>e=.returned (.string ⟨(Lib.decDigits i).toArray⟩)∧w'=w:=Any.internal_strconv_small Tryz.lays283 i h w
def Tryz.lays189_ren:Go.Shelf.Ren:=⟨fun | 189=>112 | 125=>81 | 257=>130 | 128=>102 | 129=>103 | 294=>137 | 295=>138 | 296=>139 | 297=>140 | 298=>141 | 299=>142 | 216=>120 | 300=>143 | 301=>144 | 328=>155 | 329=>115 | 330=>116 | 331=>156 | 332=>157 | 215=>104 | 343=>161 | n=>n,fun | 28=>22 | 3=>3 | 46=>126 | 0=>0 | 51=>72 | 53=>169 | 4=>4 | 183=>176 | 182=>175 | 131=>180 | 5=>5 | 9=>9 | 218=>191 | 222=>195 | 228=>207 | 229=>208 | n=>n,fun | n=>n⟩
theorem Tryz.lays189:Go.Proofs.Lays.n189 prog Tryz.lays189_ren:={
 mixed:=by kernel_rfl
 f125:=func81.trans (congrArg some (by kernel_rfl))
 f128:=func102.trans (congrArg some (by kernel_rfl))
 f129:=func103.trans (congrArg some (by kernel_rfl))
 f189:=func112.trans (congrArg some (by kernel_rfl))
 f215:=func104.trans (congrArg some (by kernel_rfl))
 f216:=func120.trans (congrArg some (by kernel_rfl))
 f257:=func130.trans (congrArg some (by kernel_rfl))
 f294:=func137.trans (congrArg some (by kernel_rfl))
 f295:=func138.trans (congrArg some (by kernel_rfl))
 f296:=func139.trans (congrArg some (by kernel_rfl))
 f297:=func140.trans (congrArg some (by kernel_rfl))
 f298:=func141.trans (congrArg some (by kernel_rfl))
 f299:=func142.trans (congrArg some (by kernel_rfl))
 f300:=func143.trans (congrArg some (by kernel_rfl))
 f301:=func144.trans (congrArg some (by kernel_rfl))
 f328:=func155.trans (congrArg some (by kernel_rfl))
 f329:=func115.trans (congrArg some (by kernel_rfl))
 f330:=func116.trans (congrArg some (by kernel_rfl))
 f331:=func156.trans (congrArg some (by kernel_rfl))
 f332:=func157.trans (congrArg some (by kernel_rfl))
 f343:=func161.trans (congrArg some (by kernel_rfl))
 t0:=underlying0
 a0:=isAgg0
 z0:=sizeOf0
 v0:=zeroValue0
 t3:=underlying3
 a3:=isAgg3
 z3:=sizeOf3
 v3:=zeroValue3
 t4:=underlying4
 a4:=isAgg4
 z4:=sizeOf4
 v4:=zeroValue4
 t5:=underlying5
 a5:=isAgg5
 z5:=sizeOf5
 v5:=zeroValue5
 t9:=underlying9
 a9:=isAgg9
 z9:=sizeOf9
 v9:=zeroValue9
 t28:=underlying22
 a28:=isAgg22
 z28:=sizeOf22
 v28:=zeroValue22
 t46:=underlying126
 a46:=isAgg126
 z46:=sizeOf126
 v46:=zeroValue126
 t51:=underlying72
 a51:=isAgg72
 z51:=sizeOf72
 v51:=zeroValue72
 t53:=underlying169
 a53:=isAgg169
 z53:=sizeOf169
 v53:=zeroValue169
 t131:=underlying180
 a131:=isAgg180
 z131:=sizeOf180
 v131:=zeroValue180
 t182:=underlying175
 a182:=isAgg175
 z182:=sizeOf175
 v182:=zeroValue175
 t183:=underlying176
 a183:=isAgg176
 z183:=sizeOf176
 v183:=zeroValue176
 t218:=underlying191
 a218:=isAgg191
 z218:=sizeOf191
 v218:=zeroValue191
 t222:=underlying195
 a222:=isAgg195
 z222:=sizeOf195
 v222:=zeroValue195
 t228:=underlying207
 a228:=isAgg207
 z228:=sizeOf207
 v228:=zeroValue207
 t229:=underlying208
 a229:=isAgg208
 z229:=sizeOf208
 v229:=zeroValue208}
open Go.Sort Go.RowKit in
theorem Tryz.slices_Sort_int(blk off cap:Nat)(zs:List Int)(w:World)(hH:Holds (Value.int .i64) w blk off zs.toArray)(hblk:blk<w.heap.size)(hsz:zs.length<4611686018427387904):
  Calls prog 112 #[.slice (some ⟨blk,off,none⟩) zs.length cap] w fun e w'=>
   e=.returned (.tuple #[])∧∃ n os,w'=grow (putRow (Value.int .i64) (Sort.ahead w n) blk off (zs.mergeSort fun x y=>decide (x≤y)).toArray) os:=Any.slices_Sort_int Tryz.lays189 blk off cap zs w hH hblk hsz
def Tryz.lays112_ren:Go.Shelf.Ren:=⟨fun | 112=>86 | n=>n,fun | 28=>22 | 3=>3 | 4=>4 | 0=>0 | n=>n,fun | n=>n⟩
theorem Tryz.lays112:Go.Proofs.Lays.n112 prog Tryz.lays112_ren:={
 mixed:=by kernel_rfl
 f112:=func86.trans (congrArg some (by kernel_rfl))
 t0:=underlying0
 a0:=isAgg0
 z0:=sizeOf0
 v0:=zeroValue0
 t3:=underlying3
 a3:=isAgg3
 z3:=sizeOf3
 v3:=zeroValue3
 t4:=underlying4
 a4:=isAgg4
 z4:=sizeOf4
 v4:=zeroValue4
 t28:=underlying22
 a28:=isAgg22
 z28:=sizeOf22
 v28:=zeroValue22}
open Go.RowKit Go.Lib Go.Sort in
theorem Tryz.slices_Reverse_int(blk off cap:Nat)(zs:List Int)(w:World)(hH:Holds (Value.int .i64) w blk off zs.toArray)(hsz:zs.length≤9223372036854775807):
  Calls prog 86 #[.slice (some ⟨blk,off,none⟩) zs.length cap] w fun e w'=>e=.returned (.tuple #[])∧∃ n,w'=putRow (Value.int .i64) (Sort.ahead w n) blk off zs.reverse.toArray:=Any.slices_Reverse_int Tryz.lays112 blk off cap zs w hH hsz
open Go.RowKit Go.Lib Go.Sort in
theorem Tryz.slices_Reverse_int_empty(a:Option Addr)(cap:Nat)(w:World):
  Calls prog 86 #[.slice a 0 cap] w fun e w'=>e=.returned (.tuple #[])∧w'=w:=Any.slices_Reverse_int_empty Tryz.lays112 a cap w
def Tryz.laysNm220_ren:Go.Shelf.Ren:=⟨fun | 20=>113 | n=>n,fun | 22=>22 | 3=>3 | 4=>4 | 0=>0 | n=>n,fun | n=>n⟩
theorem Tryz.laysNm220:Go.Proofs.Lays2.n20 prog Tryz.laysNm220_ren:={
 mixed:=by kernel_rfl
 f20:=func113.trans (congrArg some (by kernel_rfl))
 t0:=underlying0
 a0:=isAgg0
 z0:=sizeOf0
 v0:=zeroValue0
 t3:=underlying3
 a3:=isAgg3
 z3:=sizeOf3
 v3:=zeroValue3
 t4:=underlying4
 a4:=isAgg4
 z4:=sizeOf4
 v4:=zeroValue4
 t22:=underlying22
 a22:=isAgg22
 z22:=sizeOf22
 v22:=zeroValue22
 i3:=by kernel_rfl}
open Go.RowKit Go.Lib Go.Sort in
theorem Tryz.slices_Compact_int(blk off cap:Nat)(zs:List Int)(w:World)(hH:Holds (Value.int .i64) w blk off zs.toArray)(hsz:zs.length≤9223372036854775807)(hcap:zs.length≤cap):
  Calls prog 113 #[.slice (some ⟨blk,off,none⟩) zs.length cap] w fun e w'=>e=.returned (.slice (some ⟨blk,off,none⟩) (Lib.compact zs).length cap)∧∃ q,w'=putRow (Value.int .i64) (Sort.ahead w q) blk off (Lib.compact zs++List.replicate (zs.length - (Lib.compact zs).length) 0).toArray:=Any.slices_Compact_int Tryz.laysNm220 blk off cap zs w hH hsz hcap
open Go.RowKit Go.Lib Go.Sort in
theorem Tryz.slices_Compact_int_empty(a:Option Addr)(cap:Nat)(w:World):
  Calls prog 113 #[.slice a 0 cap] w fun e w'=>e=.returned (.slice a 0 cap)∧w'=w:=Any.slices_Compact_int_empty Tryz.laysNm220 a cap w
open Go.RowKit Go.Sort in
theorem Tryz.slices_Sort_int_none(p:Option Addr)(cap:Nat)(w:World):
  Calls prog 112 #[.slice p 0 cap] w fun e w'=>e=.returned (.tuple #[])∧w'=w:=Any.slices_Sort_int_none Tryz.lays189 p cap w
def Tryz.laysSlF6_f56_ren:Go.Shelf.Ren:=⟨fun | 6=>56 | 15=>81 | 14=>80 | 28=>102 | 29=>103 | 20=>94 | 21=>95 | 22=>96 | 23=>97 | 24=>98 | 25=>99 | 26=>100 | 27=>101 | 46=>114 | 47=>115 | 48=>116 | 49=>117 | 50=>118 | 57=>131 | n=>n,fun | 22=>67 | 24=>72 | 25=>98 | 3=>3 | 39=>126 | 0=>0 | 53=>72 | 55=>169 | 4=>4 | 46=>176 | 45=>175 | 50=>180 | 5=>5 | 9=>9 | 66=>191 | 70=>195 | 76=>207 | 77=>208 | n=>n,fun | n=>n⟩
theorem Tryz.laysSlF6_f56:Go.Proofs.SlLaysF.n6 prog Tryz.laysSlF6_f56_ren:={
 mixed:=by kernel_rfl
 f6:=⟨Tryz.f56.name,by decide,func56.trans (congrArg some (by kernel_rfl))⟩
 f14:=⟨Tryz.f80.name,by decide,func80.trans (congrArg some (by kernel_rfl))⟩
 f15:=func81.trans (congrArg some (by kernel_rfl))
 f20:=⟨Tryz.f94.name,by decide,func94.trans (congrArg some (by kernel_rfl))⟩
 f21:=⟨Tryz.f95.name,by decide,func95.trans (congrArg some (by kernel_rfl))⟩
 f22:=⟨Tryz.f96.name,by decide,func96.trans (congrArg some (by kernel_rfl))⟩
 f23:=⟨Tryz.f97.name,by decide,func97.trans (congrArg some (by kernel_rfl))⟩
 f24:=⟨Tryz.f98.name,by decide,func98.trans (congrArg some (by kernel_rfl))⟩
 f25:=⟨Tryz.f99.name,by decide,func99.trans (congrArg some (by kernel_rfl))⟩
 f26:=⟨Tryz.f100.name,by decide,func100.trans (congrArg some (by kernel_rfl))⟩
 f27:=⟨Tryz.f101.name,by decide,func101.trans (congrArg some (by kernel_rfl))⟩
 f28:=func102.trans (congrArg some (by kernel_rfl))
 f29:=func103.trans (congrArg some (by kernel_rfl))
 f46:=⟨Tryz.f114.name,by decide,func114.trans (congrArg some (by kernel_rfl))⟩
 f47:=func115.trans (congrArg some (by kernel_rfl))
 f48:=func116.trans (congrArg some (by kernel_rfl))
 f49:=⟨Tryz.f117.name,by decide,func117.trans (congrArg some (by kernel_rfl))⟩
 f50:=⟨Tryz.f118.name,by decide,func118.trans (congrArg some (by kernel_rfl))⟩
 f57:=⟨Tryz.f131.name,by decide,func131.trans (congrArg some (by kernel_rfl))⟩
 t0:=underlying0
 a0:=isAgg0
 z0:=sizeOf0
 v0:=zeroValue0
 t3:=underlying3
 a3:=isAgg3
 z3:=sizeOf3
 v3:=zeroValue3
 t4:=underlying4
 a4:=isAgg4
 z4:=sizeOf4
 v4:=zeroValue4
 t5:=underlying5
 a5:=isAgg5
 z5:=sizeOf5
 v5:=zeroValue5
 t9:=underlying9
 a9:=isAgg9
 z9:=sizeOf9
 v9:=zeroValue9
 t22:=underlying67
 a22:=isAgg67
 z22:=sizeOf67
 v22:=zeroValue67
 a24:=isAgg72
 z24:=sizeOf72
 t25:=underlying98
 a25:=isAgg98
 z25:=sizeOf98
 v25:=zeroValue98
 t39:=underlying126
 a39:=isAgg126
 z39:=sizeOf126
 v39:=zeroValue126
 t45:=underlying175
 a45:=isAgg175
 z45:=sizeOf175
 v45:=zeroValue175
 t46:=underlying176
 a46:=isAgg176
 z46:=sizeOf176
 v46:=zeroValue176
 t50:=underlying180
 a50:=isAgg180
 z50:=sizeOf180
 v50:=zeroValue180
 t53:=underlying72
 a53:=isAgg72
 z53:=sizeOf72
 v53:=zeroValue72
 t55:=underlying169
 a55:=isAgg169
 z55:=sizeOf169
 v55:=zeroValue169
 t66:=underlying191
 a66:=isAgg191
 z66:=sizeOf191
 v66:=zeroValue191
 t70:=underlying195
 a70:=isAgg195
 z70:=sizeOf195
 v70:=zeroValue195
 t76:=underlying207
 a76:=isAgg207
 z76:=sizeOf207
 v76:=zeroValue207
 t77:=underlying208
 a77:=isAgg208
 z77:=sizeOf208
 v77:=zeroValue208}
def Tryz.laysSlF6_f127_ren:Go.Shelf.Ren:=⟨fun | 6=>127 | 15=>81 | 14=>136 | 28=>102 | 29=>103 | 20=>147 | 21=>148 | 22=>149 | 23=>150 | 24=>151 | 25=>152 | 26=>153 | 27=>154 | 46=>158 | 47=>115 | 48=>116 | 49=>159 | 50=>160 | 57=>162 | n=>n,fun | 22=>26 | 24=>22 | 25=>96 | 3=>3 | 39=>126 | 0=>0 | 53=>72 | 55=>169 | 4=>4 | 46=>176 | 45=>175 | 50=>180 | 5=>5 | 9=>9 | 66=>191 | 70=>195 | 76=>207 | 77=>208 | n=>n,fun | n=>n⟩
theorem Tryz.laysSlF6_f127:Go.Proofs.SlLaysF.n6 prog Tryz.laysSlF6_f127_ren:={
 mixed:=by kernel_rfl
 f6:=⟨Tryz.f127.name,by decide,func127.trans (congrArg some (by kernel_rfl))⟩
 f14:=⟨Tryz.f136.name,by decide,func136.trans (congrArg some (by kernel_rfl))⟩
 f15:=func81.trans (congrArg some (by kernel_rfl))
 f20:=⟨Tryz.f147.name,by decide,func147.trans (congrArg some (by kernel_rfl))⟩
 f21:=⟨Tryz.f148.name,by decide,func148.trans (congrArg some (by kernel_rfl))⟩
 f22:=⟨Tryz.f149.name,by decide,func149.trans (congrArg some (by kernel_rfl))⟩
 f23:=⟨Tryz.f150.name,by decide,func150.trans (congrArg some (by kernel_rfl))⟩
 f24:=⟨Tryz.f151.name,by decide,func151.trans (congrArg some (by kernel_rfl))⟩
 f25:=⟨Tryz.f152.name,by decide,func152.trans (congrArg some (by kernel_rfl))⟩
 f26:=⟨Tryz.f153.name,by decide,func153.trans (congrArg some (by kernel_rfl))⟩
 f27:=⟨Tryz.f154.name,by decide,func154.trans (congrArg some (by kernel_rfl))⟩
 f28:=func102.trans (congrArg some (by kernel_rfl))
 f29:=func103.trans (congrArg some (by kernel_rfl))
 f46:=⟨Tryz.f158.name,by decide,func158.trans (congrArg some (by kernel_rfl))⟩
 f47:=func115.trans (congrArg some (by kernel_rfl))
 f48:=func116.trans (congrArg some (by kernel_rfl))
 f49:=⟨Tryz.f159.name,by decide,func159.trans (congrArg some (by kernel_rfl))⟩
 f50:=⟨Tryz.f160.name,by decide,func160.trans (congrArg some (by kernel_rfl))⟩
 f57:=⟨Tryz.f162.name,by decide,func162.trans (congrArg some (by kernel_rfl))⟩
 t0:=underlying0
 a0:=isAgg0
 z0:=sizeOf0
 v0:=zeroValue0
 t3:=underlying3
 a3:=isAgg3
 z3:=sizeOf3
 v3:=zeroValue3
 t4:=underlying4
 a4:=isAgg4
 z4:=sizeOf4
 v4:=zeroValue4
 t5:=underlying5
 a5:=isAgg5
 z5:=sizeOf5
 v5:=zeroValue5
 t9:=underlying9
 a9:=isAgg9
 z9:=sizeOf9
 v9:=zeroValue9
 t22:=underlying26
 a22:=isAgg26
 z22:=sizeOf26
 v22:=zeroValue26
 a24:=isAgg22
 z24:=sizeOf22
 t25:=underlying96
 a25:=isAgg96
 z25:=sizeOf96
 v25:=zeroValue96
 t39:=underlying126
 a39:=isAgg126
 z39:=sizeOf126
 v39:=zeroValue126
 t45:=underlying175
 a45:=isAgg175
 z45:=sizeOf175
 v45:=zeroValue175
 t46:=underlying176
 a46:=isAgg176
 z46:=sizeOf176
 v46:=zeroValue176
 t50:=underlying180
 a50:=isAgg180
 z50:=sizeOf180
 v50:=zeroValue180
 t53:=underlying72
 a53:=isAgg72
 z53:=sizeOf72
 v53:=zeroValue72
 t55:=underlying169
 a55:=isAgg169
 z55:=sizeOf169
 v55:=zeroValue169
 t66:=underlying191
 a66:=isAgg191
 z66:=sizeOf191
 v66:=zeroValue191
 t70:=underlying195
 a70:=isAgg195
 z70:=sizeOf195
 v70:=zeroValue195
 t76:=underlying207
 a76:=isAgg207
 z76:=sizeOf207
 v76:=zeroValue207
 t77:=underlying208
 a77:=isAgg208
 z77:=sizeOf208
 v77:=zeroValue208}
open Go.RowKit Go.Lib Go.Sort in
theorem Tryz.slices_SortFunc_f56{α:Type}[Inhabited α](enc:α→Value)(h1:OneCell enc)(cf:α→α→Int)(hO:SWO (ltOf cf))(g:Nat)(cb:Array Value)(blk off cap:Nat)(d:Array α)(w:World)(eg:∀ args w,(callFunc g args).run prog w=.ok (.enter g args) w)(hcmp:CmpLays1 prog g cb enc cf blk off d.size w)(hH:Holds enc w blk off d)(hblk:blk<w.heap.size)(hsz:d.size<4611686018427387904):
  Calls prog 56 #[.slice (some ⟨blk,off,none⟩) d.size cap,.func (.func g) #[] cb] w fun e w'=>
   e=.returned (.tuple #[])∧∃ d' n os,PermIn 0 d.size d d'∧SortedIn (ltOf cf) 0 d.size d'∧w'=sortWorld enc w blk off n d' os:=Any.slices_SortFunc Tryz.laysSlF6_f56 enc h1 cf hO g cb blk off cap d w eg hcmp hH hblk hsz
open Go.RowKit Go.Lib Go.Sort in
theorem Tryz.slices_SortFunc_f127{α:Type}[Inhabited α](enc:α→Value)(h1:OneCell enc)(cf:α→α→Int)(hO:SWO (ltOf cf))(g:Nat)(cb:Array Value)(blk off cap:Nat)(d:Array α)(w:World)(eg:∀ args w,(callFunc g args).run prog w=.ok (.enter g args) w)(hcmp:CmpLays1 prog g cb enc cf blk off d.size w)(hH:Holds enc w blk off d)(hblk:blk<w.heap.size)(hsz:d.size<4611686018427387904):
  Calls prog 127 #[.slice (some ⟨blk,off,none⟩) d.size cap,.func (.func g) #[] cb] w fun e w'=>
   e=.returned (.tuple #[])∧∃ d' n os,PermIn 0 d.size d d'∧SortedIn (ltOf cf) 0 d.size d'∧w'=sortWorld enc w blk off n d' os:=Any.slices_SortFunc Tryz.laysSlF6_f127 enc h1 cf hO g cb blk off cap d w eg hcmp hH hblk hsz
def Tryz.laysSlF06_f56_ren:Go.Shelf.Ren:=⟨fun | 6=>56 | 15=>81 | 14=>80 | 28=>102 | 29=>103 | 20=>94 | 21=>95 | 22=>96 | 23=>97 | 24=>98 | 25=>99 | 26=>100 | 27=>101 | 46=>114 | 47=>115 | 48=>116 | 49=>117 | 50=>118 | 57=>131 | n=>n,fun | 22=>67 | 24=>72 | 25=>98 | 3=>3 | 39=>126 | 0=>0 | 53=>72 | 55=>169 | 4=>4 | 46=>176 | 45=>175 | 50=>180 | 5=>5 | 9=>9 | 66=>191 | 70=>195 | 76=>207 | 77=>208 | n=>n,fun | n=>n⟩
theorem Tryz.laysSlF06_f56:Go.Proofs.SlLaysF0.n6 prog Tryz.laysSlF06_f56_ren:={
 mixed:=by kernel_rfl
 f6:=⟨Tryz.f56.name,by decide,func56.trans (congrArg some (by kernel_rfl))⟩
 f14:=⟨Tryz.f80.name,by decide,func80.trans (congrArg some (by kernel_rfl))⟩
 f15:=func81.trans (congrArg some (by kernel_rfl))
 f20:=⟨Tryz.f94.name,by decide,func94.trans (congrArg some (by kernel_rfl))⟩
 f21:=⟨Tryz.f95.name,by decide,func95.trans (congrArg some (by kernel_rfl))⟩
 f22:=⟨Tryz.f96.name,by decide,func96.trans (congrArg some (by kernel_rfl))⟩
 f23:=⟨Tryz.f97.name,by decide,func97.trans (congrArg some (by kernel_rfl))⟩
 f24:=⟨Tryz.f98.name,by decide,func98.trans (congrArg some (by kernel_rfl))⟩
 f25:=⟨Tryz.f99.name,by decide,func99.trans (congrArg some (by kernel_rfl))⟩
 f26:=⟨Tryz.f100.name,by decide,func100.trans (congrArg some (by kernel_rfl))⟩
 f27:=⟨Tryz.f101.name,by decide,func101.trans (congrArg some (by kernel_rfl))⟩
 f28:=func102.trans (congrArg some (by kernel_rfl))
 f29:=func103.trans (congrArg some (by kernel_rfl))
 f46:=⟨Tryz.f114.name,by decide,func114.trans (congrArg some (by kernel_rfl))⟩
 f47:=func115.trans (congrArg some (by kernel_rfl))
 f48:=func116.trans (congrArg some (by kernel_rfl))
 f49:=⟨Tryz.f117.name,by decide,func117.trans (congrArg some (by kernel_rfl))⟩
 f50:=⟨Tryz.f118.name,by decide,func118.trans (congrArg some (by kernel_rfl))⟩
 f57:=⟨Tryz.f131.name,by decide,func131.trans (congrArg some (by kernel_rfl))⟩
 t0:=underlying0
 a0:=isAgg0
 z0:=sizeOf0
 v0:=zeroValue0
 t3:=underlying3
 a3:=isAgg3
 z3:=sizeOf3
 v3:=zeroValue3
 t4:=underlying4
 a4:=isAgg4
 z4:=sizeOf4
 v4:=zeroValue4
 t5:=underlying5
 a5:=isAgg5
 z5:=sizeOf5
 v5:=zeroValue5
 t9:=underlying9
 a9:=isAgg9
 z9:=sizeOf9
 v9:=zeroValue9
 t22:=underlying67
 a22:=isAgg67
 z22:=sizeOf67
 v22:=zeroValue67
 t25:=underlying98
 a25:=isAgg98
 z25:=sizeOf98
 v25:=zeroValue98
 t39:=underlying126
 a39:=isAgg126
 z39:=sizeOf126
 v39:=zeroValue126
 t45:=underlying175
 a45:=isAgg175
 z45:=sizeOf175
 v45:=zeroValue175
 t46:=underlying176
 a46:=isAgg176
 z46:=sizeOf176
 v46:=zeroValue176
 t50:=underlying180
 a50:=isAgg180
 z50:=sizeOf180
 v50:=zeroValue180
 t53:=underlying72
 a53:=isAgg72
 z53:=sizeOf72
 v53:=zeroValue72
 t55:=underlying169
 a55:=isAgg169
 z55:=sizeOf169
 v55:=zeroValue169
 t66:=underlying191
 a66:=isAgg191
 z66:=sizeOf191
 v66:=zeroValue191
 t70:=underlying195
 a70:=isAgg195
 z70:=sizeOf195
 v70:=zeroValue195
 t76:=underlying207
 a76:=isAgg207
 z76:=sizeOf207
 v76:=zeroValue207
 t77:=underlying208
 a77:=isAgg208
 z77:=sizeOf208
 v77:=zeroValue208}
open Go.RowKit Go.Lib Go.Sort in
theorem Tryz.slices_SortFunc_none_f56{α:Type}[Inhabited α](p:Option Addr)(cap:Nat)(fv:Value)(w:World):
  Calls prog 56 #[.slice p 0 cap,fv] w fun e w'=>e=.returned (.tuple #[])∧w'=w:=AnyF.slices_SortFunc_none Tryz.laysSlF06_f56 p cap fv w
def Tryz.laysSlF06_f127_ren:Go.Shelf.Ren:=⟨fun | 6=>127 | 15=>81 | 14=>136 | 28=>102 | 29=>103 | 20=>147 | 21=>148 | 22=>149 | 23=>150 | 24=>151 | 25=>152 | 26=>153 | 27=>154 | 46=>158 | 47=>115 | 48=>116 | 49=>159 | 50=>160 | 57=>162 | n=>n,fun | 22=>26 | 24=>22 | 25=>96 | 3=>3 | 39=>126 | 0=>0 | 53=>72 | 55=>169 | 4=>4 | 46=>176 | 45=>175 | 50=>180 | 5=>5 | 9=>9 | 66=>191 | 70=>195 | 76=>207 | 77=>208 | n=>n,fun | n=>n⟩
theorem Tryz.laysSlF06_f127:Go.Proofs.SlLaysF0.n6 prog Tryz.laysSlF06_f127_ren:={
 mixed:=by kernel_rfl
 f6:=⟨Tryz.f127.name,by decide,func127.trans (congrArg some (by kernel_rfl))⟩
 f14:=⟨Tryz.f136.name,by decide,func136.trans (congrArg some (by kernel_rfl))⟩
 f15:=func81.trans (congrArg some (by kernel_rfl))
 f20:=⟨Tryz.f147.name,by decide,func147.trans (congrArg some (by kernel_rfl))⟩
 f21:=⟨Tryz.f148.name,by decide,func148.trans (congrArg some (by kernel_rfl))⟩
 f22:=⟨Tryz.f149.name,by decide,func149.trans (congrArg some (by kernel_rfl))⟩
 f23:=⟨Tryz.f150.name,by decide,func150.trans (congrArg some (by kernel_rfl))⟩
 f24:=⟨Tryz.f151.name,by decide,func151.trans (congrArg some (by kernel_rfl))⟩
 f25:=⟨Tryz.f152.name,by decide,func152.trans (congrArg some (by kernel_rfl))⟩
 f26:=⟨Tryz.f153.name,by decide,func153.trans (congrArg some (by kernel_rfl))⟩
 f27:=⟨Tryz.f154.name,by decide,func154.trans (congrArg some (by kernel_rfl))⟩
 f28:=func102.trans (congrArg some (by kernel_rfl))
 f29:=func103.trans (congrArg some (by kernel_rfl))
 f46:=⟨Tryz.f158.name,by decide,func158.trans (congrArg some (by kernel_rfl))⟩
 f47:=func115.trans (congrArg some (by kernel_rfl))
 f48:=func116.trans (congrArg some (by kernel_rfl))
 f49:=⟨Tryz.f159.name,by decide,func159.trans (congrArg some (by kernel_rfl))⟩
 f50:=⟨Tryz.f160.name,by decide,func160.trans (congrArg some (by kernel_rfl))⟩
 f57:=⟨Tryz.f162.name,by decide,func162.trans (congrArg some (by kernel_rfl))⟩
 t0:=underlying0
 a0:=isAgg0
 z0:=sizeOf0
 v0:=zeroValue0
 t3:=underlying3
 a3:=isAgg3
 z3:=sizeOf3
 v3:=zeroValue3
 t4:=underlying4
 a4:=isAgg4
 z4:=sizeOf4
 v4:=zeroValue4
 t5:=underlying5
 a5:=isAgg5
 z5:=sizeOf5
 v5:=zeroValue5
 t9:=underlying9
 a9:=isAgg9
 z9:=sizeOf9
 v9:=zeroValue9
 t22:=underlying26
 a22:=isAgg26
 z22:=sizeOf26
 v22:=zeroValue26
 t25:=underlying96
 a25:=isAgg96
 z25:=sizeOf96
 v25:=zeroValue96
 t39:=underlying126
 a39:=isAgg126
 z39:=sizeOf126
 v39:=zeroValue126
 t45:=underlying175
 a45:=isAgg175
 z45:=sizeOf175
 v45:=zeroValue175
 t46:=underlying176
 a46:=isAgg176
 z46:=sizeOf176
 v46:=zeroValue176
 t50:=underlying180
 a50:=isAgg180
 z50:=sizeOf180
 v50:=zeroValue180
 t53:=underlying72
 a53:=isAgg72
 z53:=sizeOf72
 v53:=zeroValue72
 t55:=underlying169
 a55:=isAgg169
 z55:=sizeOf169
 v55:=zeroValue169
 t66:=underlying191
 a66:=isAgg191
 z66:=sizeOf191
 v66:=zeroValue191
 t70:=underlying195
 a70:=isAgg195
 z70:=sizeOf195
 v70:=zeroValue195
 t76:=underlying207
 a76:=isAgg207
 z76:=sizeOf207
 v76:=zeroValue207
 t77:=underlying208
 a77:=isAgg208
 z77:=sizeOf208
 v77:=zeroValue208}
open Go.RowKit Go.Lib Go.Sort in
theorem Tryz.slices_SortFunc_none_f127{α:Type}[Inhabited α](p:Option Addr)(cap:Nat)(fv:Value)(w:World):
  Calls prog 127 #[.slice p 0 cap,fv] w fun e w'=>e=.returned (.tuple #[])∧w'=w:=AnyF.slices_SortFunc_none Tryz.laysSlF06_f127 p cap fv w
end Go.Proofs
end
section
namespace Ab
open Go Go.Proofs
open Tryz
theorem sort_facts:L6 prog 112:=⟨_,func112,rfl,rfl⟩
theorem compact_facts:L6 prog 113:=⟨_,func113,rfl,rfl⟩
theorem sortL_ok:SortOk prog 112:=fun hσ hl=>sort_fn sort_facts (fun blk off cap zs w hH hb hs=>Tryz.slices_Sort_int blk off cap zs w hH hb hs) (fun p cap w=>Tryz.slices_Sort_int_none p cap w) hσ hl
theorem compactL_ok:CompactOk prog 113:=fun hσ=>compact_fn compact_facts (fun blk off cap zs w hH hs hc=>Tryz.slices_Compact_int blk off cap zs w hH hs hc) (fun a cap w=>Tryz.slices_Compact_int_empty a cap w) hσ
end Ab
end
section
namespace Ab
open Go Go.Proofs
open Tryz
theorem sortF_facts:L6 prog 127:=⟨_,func127,rfl,rfl⟩
theorem sortF_LLi64_ok:SortFOk prog 127:=fun hgn hO hT hg _ _ _ hσ hl=>sortF_fn sortF_facts hgn hO hT hg (fun β _ enc h1 cf hO g cb blk off cap d w eg hcmp hH hblk hsz=>Tryz.slices_SortFunc_f127 enc h1 cf hO g cb blk off cap d w eg hcmp hH hblk hsz) (fun p cap fv w=>Tryz.slices_SortFunc_none_f127 (α:=Unit) p cap fv w) hσ hl
end Ab
end
section
namespace Ab
open Go Go.Proofs
open Tryz
theorem reverse_facts:L6 prog 86:=⟨_,func86,rfl,rfl⟩
theorem revL_ok:RevOk prog 86:=fun hσ=>rev_fn reverse_facts (fun blk off cap zs w hH hs=>Tryz.slices_Reverse_int blk off cap zs w hH hs) (fun p cap w=>Tryz.slices_Reverse_int_empty p cap w) hσ
end Ab
end
section
namespace Ab
open Go Go.Proofs
open Tryz
theorem sortU_facts:L6 prog 56:=⟨_,func56,rfl,rfl⟩
theorem sortF_Lu32_ok:SortFOk prog 56:=fun hgn hO hT hg _ _ _ hσ hl=>sortF_fn sortU_facts hgn hO hT hg (fun β _ enc h1 cf hO g cb blk off cap d w eg hcmp hH hblk hsz=>Tryz.slices_SortFunc_f56 enc h1 cf hO g cb blk off cap d w eg hcmp hH hblk hsz) (fun p cap fv w=>Tryz.slices_SortFunc_none_f56 (α:=Unit) p cap fv w) hσ hl
end Ab
end
