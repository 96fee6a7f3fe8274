/-
  Texts that the proof stands on.
-/
import Derived.Test.YthfddkcnegkbhaaGreatDoorKRwTopMerged2
import Derived.Laws.Cover3
import Derived.WalkSmall
import Derived.Shelf.RegionOpenPlain
import Derived.Lib.Walk
import Derived.Lib.SliceRun
import Derived.Lib.JoinLaws
import Derived.Lib.AppendZerosOnto
import Derived.Lib.Overlaps
import Derived.Laws.Externs
import Derived.Laws.IdiomCopy
import Derived.Laws.NewBlocks
import Derived.Shelf.Small.Bits
import Derived.Shelf.Small.Wraps
import Derived.Shelf.Strconv.Itoa0
import Derived.Shelf.Strconv.Itoa1
import Derived.Shelf.LaysM
import Derived.Shelf.Strconv.Itoa2
import Derived.Shelf.Sort.Plain
import Derived.Shelf.Strconv.AppendUint10
import Derived.Shelf.Strconv.AppendInt10
import Derived.Shelf.Bits.Mul64
import Derived.Shelf.Slices.Turned
import Derived.Shelf.Slices.Reverse
import Derived.Shelf.Slices.Equal
import Derived.Ground.Names2Prog
import Derived.Shelf.Slices.Clone
import Derived.Shelf.Slices.SearchI
import Derived.Shelf.Slices.Cells
import Derived.Shelf.Slices.In.SortNone
import Derived.Shelf.Slices.Empties
import Derived.Shelf.Slices.Empties2
import Derived.Ground.SlgnProg
import Derived.Shelf.SlicesE.Reverse
import Derived.Shelf.SlicesE.Clone
import Derived.Ground.SlsfProg
import Derived.Shelf.SlSortCmp.Insertion
import Derived.Shelf.SlSortCmp.SiftDown1
import Derived.Shelf.SlSortCmp.HeapSort1
import Derived.Shelf.SlSortCmp.Insertion1
import Derived.Shelf.SlSortCmp.Median1
import Derived.Shelf.SlSortCmp.Pivot1
import Derived.Shelf.SlSortCmp.ReverseRange1
import Derived.Shelf.SlSortCmp.PartialInsertion1
import Derived.Shelf.SlSortCmp.PartitionEqual1
import Derived.Shelf.SlSortCmp.Partition1
import Derived.Shelf.SlSortCmp.Pdq1
import Derived.Shelf.SlSortCmp.NoneTotal
import Derived.Test.YthfddkcnegkbhaaGreatDoorProg
set_option linter.all false
section
namespace Ab
open Go
theorem Rs.allocB{Γ:Cx}{σ:b8}{φ:Phi}{w:World}(h:Rs Γ σ φ w){p0:Obj→List Value→Prop}{cs0:List C}{us0:List Value}{obj:Obj}(hob:p0 obj us0)(hcs:∀ (i:Nat) (x:C),cs0[i]? =some x→∃ u,us0[i]? =some u∧RelC w φ σ (Al Γ.N φ σ) x u):
  Kept w (w.alloc obj) φ (l9 σ.length φ w.heap.size) σ (σ++[.one (.obj p0 cs0)]) (Al Γ.N φ σ) (Al Γ.N (l9 σ.length φ w.heap.size) (σ++[.one (.obj p0 cs0)]))∧
  Rs Γ (σ++[.one (.obj p0 cs0)]) (l9 σ.length φ w.heap.size) (w.alloc obj):=by
 have old:∀ b,b<w.heap.size→(w.alloc obj).heap[b]? =w.heap[b]? :=fun b hb=>by first | exact heap_alloc_old w _ hb | exact heap_alloc_old w _ _ hb
 have new:(w.alloc obj).heap[w.heap.size]? =some obj:=heap_alloc_new w _
 have plo:∀ i:Id,i.1<σ.length→l9 σ.length φ w.heap.size i=φ i:=fun i hi=>by
  have:i ≠ (σ.length,[]):=fun e=>by rw [e] at hi; exact Nat.lt_irrefl _ hi
  simp [l9,this]
 have pnew:l9 σ.length φ w.heap.size (σ.length,[])=some (w.heap.size,0):=by simp [l9]
 have cases2:∀ (i:Id) blk,(σ++[.one (.obj p0 cs0)])[i]? =some (some blk)→(i.1<σ.length∧σ[i]? =some (some blk))∨(i=(σ.length,[])∧blk=.obj p0 cs0):=fun i blk hi=>b8.get_new hi
 have A1:∀ b,Al Γ.N φ σ b→b<w.heap.size→Al Γ.N (l9 σ.length φ w.heap.size) (σ++[.one (.obj p0 cs0)]) b:=fun b hb hl=>⟨hb.1,fun i blk base hi hp=>by
  rcases cases2 i blk hi with ⟨h1,h2⟩ | ⟨rfl,rfl⟩
  ·rw [plo i h1] at hp; exact hb.2 i blk base h2 hp
  ·rw [pnew] at hp; cases hp; omega⟩
 have hK:Kept w (w.alloc obj) φ (l9 σ.length φ w.heap.size) σ (σ++[.one (.obj p0 cs0)]) (Al Γ.N φ σ) (Al Γ.N (l9 σ.length φ w.heap.size) (σ++[.one (.obj p0 cs0)])):=
  {imm:=fun b _ hl=>old b hl,all:=A1,len:=by simp,
   cells:=fun i kk es' hi he=>by
    rw [b8.get_left hi] at he
    exact ⟨es',he,rfl,plo i hi,fun b base arr ety hp hb=>⟨arr,(old b (Al.own_lt h.st he hp)).trans hb,rfl⟩⟩,
   obj:=fun i p' cs' hi he=>by
    rw [b8.get_left hi] at he
    exact ⟨plo i hi,p',cs',he⟩}
 refine ⟨hK, ?_⟩
 exact {
  good:=h.good
  st:=⟨fun i b hi=>by
    rcases cases2 i b hi with ⟨h1,h2⟩ | ⟨rfl,rfl⟩
    ·rw [plo i h1]
     exact (h.st.blk i b h2).mono hK fun g base hp=>old g (Al.own_lt h.st h2 hp)
    ·rw [pnew]
     exact ⟨w.heap.size,obj,us0,rfl,new,hob,fun i x hx=>let ⟨u,g1,g2⟩:=hcs i x hx; ⟨u,g1,g2.mono hK⟩⟩,
   fun i j bi bj p q hi hj hp hq he=>by
    obtain ⟨pb,po⟩:=p
    obtain ⟨qb,qo⟩:=q
    dsimp only at he
    subst he
    rcases cases2 i bi hi with ⟨h1,h2⟩ | ⟨rfl,rfl⟩<;>rcases cases2 j bj hj with ⟨g1,g2⟩ | ⟨rfl,rfl⟩
    ·rw [plo i h1] at hp; rw [plo j g1] at hq
     exact h.st.inj i j bi bj _ _ h2 g2 hp hq rfl
    ·rw [plo i h1] at hp; rw [pnew] at hq; cases hq
     have:=Al.own_lt h.st h2 hp; omega
    ·rw [plo j g1] at hq; rw [pnew] at hp; cases hp
     have:=Al.own_lt h.st g2 hq; omega
    ·rfl⟩
  keep:=fun i blk b base hi hp hKb=>by
   rcases cases2 i blk hi with ⟨h1,h2⟩ | ⟨rfl,rfl⟩
   ·rw [plo i h1] at hp; exact h.keep i blk b base h2 hp hKb
   ·rw [pnew] at hp; cases hp
    have:=hKb.1; have:=h.size; omega
  os:=h.os
  tape:=h.tape
  drawn:=h.drawn
  output:=h.output
  size:=Nat.le_trans h.size (by simp)
  block:=fun b hKb=>(old b (Nat.lt_of_lt_of_le hKb.1 h.size)).trans (h.block b hKb)
  kept:=Kept.trans h.size h.kept hK}
theorem Rs.writeB{Γ:Cx}{σ:b8}{φ:Phi}{w:World}(h:Rs Γ σ φ w){id:Id}{b:Nat}{q0 q1:Obj→List Value→Prop}{cs0 cs1:List C}{us1:List Value}{o0 o1:Obj}(hid:σ[id]? =some (some (.obj q0 cs0)))(hp:φ id=some (b,0))(hb:w.heap[b]? =some o0)(hq:q1 o1 us1)(hcs:∀ (i:Nat) (x:C),cs1[i]? =some x→∃ u,us1[i]? =some u∧RelC w φ σ (Al Γ.N φ σ) x u):
  Kept w ({w with heap:=w.heap.setIfInBounds b o1}:World) φ φ σ (σ.put id (some (.obj q1 cs1))) (Al Γ.N φ σ) (Al Γ.N φ (σ.put id (some (.obj q1 cs1))))∧Rs Γ (σ.put id (some (.obj q1 cs1))) φ ({w with heap:=w.heap.setIfInBounds b o1}:World):=by
 have new:({w with heap:=w.heap.setIfInBounds b o1}:World).heap[b]? =some o1:=(Go.MapKept.heap_set hb).1
 have old:∀ g,g ≠ b→({w with heap:=w.heap.setIfInBounds b o1}:World).heap[g]? =w.heap[g]? :=fun g hg=>(Go.MapKept.heap_set hb).2 g hg
 have hsize:({w with heap:=w.heap.setIfInBounds b o1}:World).heap.size=w.heap.size:=by simp
 have at_:∀ (i:Id) x,(σ.put id (some (.obj q1 cs1)))[i]? =some (some x)→(i=id∧x=.obj q1 cs1)∨(i ≠ id∧σ[i]? =some (some x)):=fun i x hi=>by
  rcases b8.get_put hid hi with ⟨h1,h2⟩ | h
  ·cases h2; exact .inl ⟨h1,rfl⟩
  ·exact .inr h
 have other:∀ (i:Id) blk g bs,i ≠ id→σ[i]? =some (some blk)→φ i=some (g,bs)→g ≠ b:=fun i blk g bs hne hi hpi e=>by
  subst e
  exact hne (h.st.inj i id _ _ _ _ hi hid hpi hp rfl)
 have A1:∀ g,Al Γ.N φ σ g→Al Γ.N φ (σ.put id (some (.obj q1 cs1))) g:=fun g hg=>⟨hg.1,fun i blk bs hi hpi=>by
  rcases at_ i blk hi with ⟨rfl,_⟩ | ⟨_,hi⟩
  ·exact hg.2 i _ bs hid hpi
  ·exact hg.2 i blk bs hi hpi⟩
 have hK:Kept w ({w with heap:=w.heap.setIfInBounds b o1}:World) φ φ σ (σ.put id (some (.obj q1 cs1))) (Al Γ.N φ σ) (Al Γ.N φ (σ.put id (some (.obj q1 cs1)))):=
  {imm:=fun g hg _=>old g (fun e=>by subst e; exact hg.2 id _ 0 hid hp),all:=fun g hg _=>A1 g hg,len:=by simp,
   cells:=fun i kk es2 hi he=>by
    rcases at_ i _ he with ⟨rfl,e⟩ | ⟨hne,he⟩
    ·cases e
    ·refine ⟨es2,he,rfl,rfl,fun b2 base2 arr2 ety2 hp2 hb2=>⟨arr2, ?_,rfl⟩⟩
     exact (old b2 (other i _ b2 base2 hne he hp2)).trans hb2,
   obj:=fun i p' cs' hi he=>by
    rcases at_ i _ he with ⟨rfl,e⟩ | ⟨_,he⟩
    ·exact ⟨rfl,_,_,hid⟩
    ·exact ⟨rfl,p',cs',he⟩}
 refine ⟨hK, ?_⟩
 exact {
  good:=h.good
  st:=⟨fun i bk hi=>by
    rcases at_ i _ hi with ⟨rfl,e⟩ | ⟨hne,hi⟩
    ·cases e
     rw [hp]
     exact ⟨b,o1,us1,rfl,new,hq,fun i x hx=>let ⟨u,g1,g2⟩:=hcs i x hx; ⟨u,g1,g2.mono hK⟩⟩
    ·exact (h.st.blk i bk hi).mono hK fun g bs hpi=>old g (other i bk g bs hne hi hpi),
   fun i j bi bj p q hi hj hpi hqj he=>by
    have alive:∀ (i:Id) bi,(σ.put id (some (.obj q1 cs1)))[i]? =some (some bi)→∃ b0,σ[i]? =some (some b0):=fun i bi hi=>by
     rcases at_ i _ hi with ⟨rfl,_⟩ | ⟨_,hi⟩
     ·exact ⟨_,hid⟩
     ·exact ⟨_,hi⟩
    obtain ⟨b1,h1⟩:=alive i bi hi
    obtain ⟨b2,h2⟩:=alive j bj hj
    exact h.st.inj i j b1 b2 p q h1 h2 hpi hqj he⟩
  keep:=fun i blk g bs hi hpi hKb=>by
   rcases at_ i _ hi with ⟨rfl,_⟩ | ⟨_,hi⟩
   ·exact h.keep i _ g bs hid hpi hKb
   ·exact h.keep i blk g bs hi hpi hKb
  os:=h.os
  tape:=h.tape
  drawn:=h.drawn
  output:=h.output
  size:=by rw [hsize]; exact h.size
  block:=fun g hKb=>(old g (fun e=>by subst e; exact h.keep id _ g 0 hid hp hKb)).trans (h.block g hKb)
  kept:=Kept.trans h.size h.kept hK}
/-! ### What the slots hold that rounds read -/
def slotsP:List (Nat × Option Nat)→List Value→Array Value→Prop
 | [],_,_=>True
 | (t,none)::r,us,a=>(∃ u,us.head? =some u∧a[t]? =some u)∧slotsP r us.tail a
 | (t,some n)::r,us,a=>((us.take n).length=n∧a[t]? =some (.agg (us.take n).toArray))∧slotsP r (us.drop n) a
def slotE:List (Nat × Option Nat)→List C→Env
 | [],_=>[]
 | (_,none)::_,[]=>[]
 | (t,none)::r,c::cs=>(t,.c c)::slotE r cs
 | (t,some n)::r,cs=>match Nat.beq (cs.take n).length n with
  | true=>(t,.agg (cs.take n))::slotE r (cs.drop n)
  | false=>[]
def slotC:List (Nat × Option Nat)→Env→Option (List C)
 | [],_=>some []
 | (t,none)::r,env=>match lookup t env,slotC r env with
  | some (.c c),some cs=>some (c::cs)
  | _,_=>none
 | (t,some n)::r,env=>match lookup t env,slotC r env with
  | some (.agg l),some cs=>match Nat.beq l.length n with
   | true=>some (l++cs)
   | false=>none
  | _,_=>none
section
variable {w:World} {φ:Phi} {σ:b8} {A:Nat→Prop}
theorem slot_env:∀ (sh:List (Nat × Option Nat)) {us:List Value} {a:Array Value} {cs:List C},slotsP sh us a→(∀ (i:Nat) (x:C),cs[i]? =some x→∃ u,us[i]? =some u∧RelC w φ σ A x u)→
  ∀ (t:Nat) (v:T),lookup t (slotE sh cs)=some v→∃ u,a[t]? =some u∧RelT w φ σ A v u
 | [],us,a,cs,_,_,t,v,h=>by simp [slotE,lookup] at h
 | (s,none)::r,us,a,[],_,_,t,v,h=>by simp [slotE,lookup] at h
 | (s,none)::r,us,a,c::cs,hs,hr,t,v,h=>by
  simp only [slotE,lookup] at h
  obtain ⟨⟨u,hu,ha⟩,hs⟩:=hs
  obtain ⟨u0,hu0,hr0⟩:=hr 0 c rfl
  rw [List.head?_eq_getElem?] at hu
  rw [hu] at hu0; cases hu0
  split at h
  ·rename_i e
   cases h
   have:=Nat.eq_of_beq_eq_true e
   subst this
   exact ⟨u,ha,.c hr0⟩
  ·exact slot_env r hs (fun i x hx=>by
    obtain ⟨u,g1,g2⟩:=hr (i+1) x hx
    exact ⟨u,by rw [← g1]; cases us<;>simp,g2⟩) t v h
 | (s,some n)::r,us,a,cs,hs,hr,t,v,h=>by
  simp only [slotE] at h
  obtain ⟨⟨hl,ha⟩,hs⟩:=hs
  cases hb:Nat.beq (cs.take n).length n with
  | false=>rw [hb] at h; simp [lookup] at h
  | true=>
   rw [hb] at h
   have hlen:=Nat.eq_of_beq_eq_true hb
   simp only [lookup] at h
   split at h
   ·rename_i e
    cases h
    have:=Nat.eq_of_beq_eq_true e
    subst this
    refine ⟨_,ha,RelT.agg' (by rw [hl,hlen]) fun i c v hc hv=> ?_⟩
    rw [List.getElem?_take] at hc hv
    split at hc
    ·rename_i hi
     rw [if_pos hi] at hv
     obtain ⟨u,g1,g2⟩:=hr i c hc
     rw [hv] at g1; cases g1; exact g2
    ·cases hc
   ·exact slot_env r hs (fun i x hx=>by
     rw [List.getElem?_drop] at hx
     obtain ⟨u,g1,g2⟩:=hr _ x hx
     exact ⟨u,by rw [List.getElem?_drop]; exact g1,g2⟩) t v h
theorem slot_mk:∀ (sh:List (Nat × Option Nat)) {env:Env} {a:Array Value} {cs:List C},(∀ t v,lookup t env=some v→∃ u,a[t]? =some u∧RelT w φ σ A v u)→slotC sh env=some cs→
  ∃ us,slotsP sh us a∧us.length=cs.length∧∀ (i:Nat) (x:C),cs[i]? =some x→∃ u,us[i]? =some u∧RelC w φ σ A x u
 | [],env,a,cs,_,h=>by cases h; exact ⟨[],trivial,rfl,fun i x hx=>by simp at hx⟩
 | (s,none)::r,env,a,cs,he,h=>by
  simp only [slotC] at h
  split at h<;>cases h
  rename_i c cs' h1 h2
  obtain ⟨us,g1,g0,g2⟩:=slot_mk r he h2
  obtain ⟨u,k1,k2⟩:=he s _ h1
  cases k2 with | c k2=>
  refine ⟨u::us,⟨⟨u,rfl,k1⟩,g1⟩,by simp [g0],fun i x hx=> ?_⟩
  match i with
  | 0=>cases hx; exact ⟨u,rfl,k2⟩
  | i+1=>exact g2 i x hx
 | (s,some n)::r,env,a,cs,he,h=>by
  simp only [slotC] at h
  split at h
  ·rename_i l cs' h1 h2
   split at h<;>cases h
   rename_i hb
   have hn:=Nat.eq_of_beq_eq_true hb
   obtain ⟨us,g1,g0,g2⟩:=slot_mk r he h2
   obtain ⟨u,k1,k2⟩:=he s _ h1
   obtain ⟨vs,rfl,k3,k4⟩:=RelT.agg_inv k2
   have hvn:vs.length=n:=by omega
   refine ⟨vs++us,⟨⟨by rw [List.take_left' hvn]; exact hvn,by rw [List.take_left' hvn]; exact k1⟩,by rw [List.drop_left' hvn]; exact g1⟩,by simp [g0,k3],fun i x hx=> ?_⟩
   rw [List.getElem?_append] at hx ⊢
   rw [k3]
   split at hx
   ·rename_i hi; rw [if_pos hi]; exact k4 i x hx
   ·rename_i hi; rw [if_neg hi]; exact g2 _ x hx
  ·cases h
end
def loopP(szc:Nat)(ps:List Nat)(asg body:Code)(st:LoopState)(pend:Option Code)(sh:List (Nat × Option Nat)):Obj→List Value→Prop:=fun o us=>
 ∃ r:Go.Loop,o=.loop r∧r.state=st∧r.pending=pend∧r.params=ps.toArray∧r.assign=asg∧r.body=body∧r.tmps.size=szc∧slotsP sh us r.tmps
abbrev k6(szc:Nat)(ps:List Nat)(asg body:Code)(st:LoopState)(pend:Option Code)(sh:List (Nat × Option Nat))(cs:List C):Blk:=.obj (loopP szc ps asg body st pend sh) cs
def zipE:List Nat→List T→Env→Env
 | p::ps,t::ts,E=>zipE ps ts ((p,t)::E)
 | _,_,E=>E
theorem zip_env{w:World}{φ:Phi}{σ:b8}{A:Nat→Prop}{szc:Nat}:∀ (ps:List Nat) (ts:List T) (us:List Value) (E:Env) (a:Array Value),a.size=szc→ts.length=us.length→(∀ p ∈ ps,p<szc)→
  (∀ (i:Nat) (t:T) (u:Value),ts[i]? =some t→us[i]? =some u→RelT w φ σ A t u)→(∀ t v,lookup t E=some v→∃ u,a[t]? =some u∧RelT w φ σ A v u)→
  ((ps.zip us).foldl (fun tmps (t,a)=>tmps.setIfInBounds t a) a).size=szc∧
  ∀ t v,lookup t (zipE ps ts E)=some v→∃ u,((ps.zip us).foldl (fun tmps (t,a)=>tmps.setIfInBounds t a) a)[t]? =some u∧RelT w φ σ A v u
 | [],ts,us,E,a,hz,_,_,_,he=>⟨by simpa using hz,fun t v h=>by simpa using he t v (by cases ts<;>exact h)⟩
 | p::ps,[],us,E,a,hz,hl,_,_,he=>by
  cases us with
  | nil=>exact ⟨by simpa using hz,fun t v h=>by simpa using he t v h⟩
  | cons u us=>simp at hl
 | p::ps,t::ts,us,E,a,hz,hl,hp,hr,he=>by
  cases us with
  | nil=>simp at hl
  | cons u us=>
   simp only [List.zip_cons_cons,List.foldl_cons,zipE]
   refine zip_env ps ts us _ _ (by simpa using hz) (by simpa using hl) (fun q hq=>hp q (List.mem_cons_of_mem _ hq)) (fun i t u h1 h2=>hr (i+1) t u h1 h2) (fun s v h=> ?_)
   simp only [lookup] at h
   split at h
   ·rename_i e
    cases h
    have:=Nat.eq_of_beq_eq_true e
    subst this
    have hlt:p<a.size:=by rw [hz]; exact hp p (by simp)
    exact ⟨u,by simp [hlt],hr 0 _ u rfl rfl⟩
   ·rename_i e
    obtain ⟨y,hy,hr'⟩:=he s v h
    have hne:p ≠ s:=fun e'=>by subst e'; simp at e
    exact ⟨y,by simp [hne,hy],hr'⟩
theorem b8.put2(σ:b8)(n:Nat)(b b':Option Blk):(σ.put (n,[]) b).put (n,[]) b'=σ.put (n,[]) b':=by
 have:∀ e:Ent,(e.put [] b).put [] b'=e.put [] b':=fun e=>by cases e<;>cases b<;>rfl
 apply List.ext_getElem?
 intro i
 simp only [b8.put,List.getElem?_modify]
 cases hs:σ[i]? with
 | none=>simp
 | some e=>by_cases hi:n=i<;>simp [hi,this]
theorem Rs.allocU {Γ : Cx} {σ : b8} {φ : Phi} {w : World} (h : Rs Γ σ φ w) (obj : Obj) : Kept w (w.alloc obj) φ φ σ σ (Al Γ.N φ σ) (Al Γ.N φ σ) ∧ Rs Γ σ φ (w.alloc obj) := by
  have old : ∀ b, b < w.heap.size → (w.alloc obj).heap[b]? = w.heap[b]? := fun b hb => by first | exact heap_alloc_old w _ hb | exact heap_alloc_old w _ _ hb
  have hK : Kept w (w.alloc obj) φ φ σ σ (Al Γ.N φ σ) (Al Γ.N φ σ) :=
    { imm := fun b _ hl => old b hl, all := fun b hb _ => hb, len := Nat.le_refl _,
      cells := fun i kk es' hi he => ⟨es', he, rfl, rfl, fun b base arr ety hp hb => ⟨arr, (old b (Al.own_lt h.st he hp)).trans hb, rfl⟩⟩,
      obj := fun i p' cs' hi he => ⟨rfl, p', cs', he⟩ }
  refine ⟨hK, ?_⟩
  exact { good := h.good, st := ⟨fun i b hi => (h.st.blk i b hi).mono hK fun g base hp => old g (Al.own_lt h.st hi hp), h.st.inj⟩,
          keep := h.keep, os := h.os, tape := h.tape, drawn := h.drawn, output := h.output, size := Nat.le_trans h.size (by simp),
          block := fun b hKb => (old b (Nat.lt_of_lt_of_le hKb.1 h.size)).trans (h.block b hKb), kept := Kept.trans h.size h.kept hK }
section
variable {P:Program} {σ0:b8} {sz:Nat} {Q:Post} {env env':Env} {σv σ' σb:b8} {ops:Array Oper} {rest:List Oper} {dst:Option Nat} {ty:TypeId} {pos:String} {after:Array Edge}
variable {szc:Nat} {ps:List Nat} {asg body:Code} {sh:List (Nat × Option Nat)} {cs:List C}
theorem yld_inv{w:World}{φ:Phi}{σ:b8}{A:Nat→Prop}{id:Id}{p:Obj→List Value→Prop}{u:Value}(h:RelT w φ σ A (.c (.yld id)) u)(hσ:σ[id]? =some (some (.obj p cs))):∃ b base,φ id=some (b,base)∧u=.func (.yield b) #[] #[]:=by
 cases h with | c h=>cases h with | yld hid h1 h=>exact h _ _ hσ
def yPost(P:Program)(σ0:b8)(sz:Nat)(Q:Post)(ops:Array Oper)(rest:List Oper)(env:Env)(dst:Option Nat)(id:Id)(szc:Nat)(ps:List Nat)(asg body:Code)(sh:List (Nat × Option Nat)):Post:=fun e s'=>
 ∃ cs',s'.σ[id]? =some (some (k6 szc ps asg body .busy none sh cs'))∧match e with
 | .normal=>AOps P σ0 sz ops Q rest ⟨putE env dst (.c (bool true)),s'.σ.put id (some (k6 szc ps asg body .ready none sh cs'))⟩
 | .ret=>AOps P σ0 sz ops Q rest ⟨putE env dst (.c (bool false)),s'.σ.put id (some (k6 szc ps asg body .done (some .ret) sh cs'))⟩
 | .exit i=>AOps P σ0 sz ops Q rest ⟨putE env dst (.c (bool false)),s'.σ.put id (some (k6 szc ps asg body .done (some (.exit i)) sh cs'))⟩
 | _=>False
theorem AOps.yield{x:Operand}{as':List Operand}{ats:Array TypeId}{id:Id}{ts:List T}{E1:Env}{σ1:b8}(hx:ev env x=some (.c (.yld id)))(ha:evs env as'=some ts)(hσ:σv[id]? =some (some (k6 szc ps asg body .ready none sh cs)))
  (hl:Nat.beq ts.length ps.length=true) (hps:ps.all (fun p=>Nat.blt p szc)=true) (hna:I8 asg=false) (hnr:I8 body=false) (hd:f7 sz dst=true) (hσ1:σ1[id]? =some (some (k6 szc ps asg body .ready none sh cs))) (hσb:σ1.put id (some (k6 szc ps asg body .busy none sh cs))=σb)
  (hass:AWP P σv szc asg (fun e s'=>e=.normal∧s'=St.mk E1 σ1) ⟨zipE ps ts (slotE sh cs),σv⟩)
  (h:AWP P σv szc body (yPost P σ0 sz Q ops rest env dst id szc ps asg body sh) ⟨E1,σb⟩):
  AOps P σ0 sz ops Q (⟨dst,.call ⟨.value x,as'.toArray,ats⟩,ty,pos,after,none⟩::rest) (St.mk env σv):=fun Γ φ a w hΓ hR ro=>by
 subst hσb
 obtain ⟨b,base,hp,hv⟩:=yld_inv (i5 hR hx) hσ
 obtain ⟨b',o,us,g1,g2,⟨r,rfl,r1,r2,r3,r4,r5,r6,r7⟩,g3⟩:=hR.st.blk _ _ hσ
 rw [hp] at g1; cases g1
 obtain ⟨k1,k2⟩:=evs_rel hR ha
 have hlen:ts.length=ps.length:=Nat.eq_of_beq_eq_true hl
 have hrun:(execOp a.eval ⟨dst,.call ⟨.value x,as'.toArray,ats⟩,ty,pos,after,none⟩).run P w=.ok (.round b r.fn ((ps.zip (as'.map a.eval)).foldl (fun tmps (t,a)=>tmps.setIfInBounds t a) r.tmps) asg body) w:=by
  have:=run_yield (P:=P) (args:=(as'.map a.eval).toArray) g2 (by rw [r3]; simp; omega)
  rw [r3,r4,r5] at this
  simp only [List.zip_toArray,List.foldl_toArray] at this
  simp [execOp,resolve,hv,Deferred.ofValue,invoke,this]
 refine P8 rfl ⟨fun _ _=>trivial, ?_⟩
 rw [sem_ro hrun (fun d=>nofun),Oper.uponIn_round]
 have hz:=zip_env (w:=w) (φ:=φ) (σ:=σv) (A:=Al Γ.N φ σv) (szc:=szc) ps ts (as'.map a.eval) (slotE sh cs) r.tmps r6 (by simp [k1]) (fun p hp=>by
   have:=List.all_eq_true.1 hps p hp
   simpa using this) k2 (slot_env sh r7 g3)
 have hR1:R ⟨w,Γ.N,φ,σv⟩ szc ⟨zipE ps ts (slotE sh cs),σv⟩ φ {tmps:=(ps.zip (as'.map a.eval)).foldl (fun tmps (t,a)=>tmps.setIfInBounds t a) r.tmps,defers:=[]} w:=
  {toRs:=hR.toRs.down.rs,defers:=.nil,asize:=hz.1,env:=hz.2}
 have hid:id.1<σv.length:=b8.lt_of hσ
 refine ⟨fun h=>by simp at h,roundIn_of_wpIn (F:=fw ro) trivial (wpIn_mono (hass _ φ _ _ rfl hR1 (some b) (fun e=>by rw [hna] at e; cases e)) ?_)⟩
 rintro e a1 w1 ⟨s1,φ1,⟨rfl,rfl⟩,hR1⟩
 have hφ1:φ1 id=some (b,0):=((hR1.toRs.kept.obj id _ _ hid hσ1).1).trans hp
 obtain ⟨b',o,us,q1,q2,⟨r',rfl,r1,r2,r3,r4,r5,r6,r7⟩,q3⟩:=hR1.st.blk _ _ hσ1
 rw [hφ1] at q1; cases q1
 have hW:=Rs.writeB (q1:=loopP szc ps asg body .busy none sh) (cs1:=cs) (o1:=.loop {r' with state:=.busy}) hR1.toRs hσ1 hφ1 q2 ⟨{r' with state:=.busy},rfl,rfl,r2,r3,r4,r5,r6,r7⟩ q3
 refine ⟨_,run_beginRound (P:=P) q2 r1, ?_⟩
 refine wpIn_mono (h _ φ1 _ _ rfl (hR1.of hW.1 hW.2) (some b) (fun e=>by rw [hnr] at e; cases e)) ?_
 rintro e a' w' ⟨s',φ',⟨cs',hσ',hm⟩,hR'⟩
 have hφ:φ' id=some (b,0):=((hR'.toRs.kept.obj id _ _ hid hσ').1).trans hp
 obtain ⟨b',o,us',q1,q2,⟨r'',rfl,p1,p2,p3,p4,p5,p6,p7⟩,q3⟩:=hR'.st.blk _ _ hσ'
 rw [hφ] at q1; cases q1
 have fin:∀ (jump:Option Code) (st:LoopState),st=(if jump.isNone then .ready else .done)→AOps P σ0 sz ops Q rest ⟨putE env dst (.c (bool jump.isNone)),s'.σ.put id (some (k6 szc ps asg body st jump sh cs'))⟩→
   ∃ v w'',(Instr.endRound b jump).run P w'=.ok v w''∧wpListIn (fw ro) 0 P ops (lift Γ sz Q) rest (a.put dst v) w'':=fun jump st hst hA=>by
  subst hst
  have hE:=Rs.writeB (q1:=loopP szc ps asg body (if jump.isNone then .ready else .done) jump sh) (cs1:=cs') (o1:=.loop {r'' with state:=if jump.isNone then .ready else .done,pending:=jump}) hR'.toRs hσ' hφ q2 ⟨_,rfl,rfl,rfl,p3,p4,p5,p6,p7⟩ q3
  refine ⟨_,_,run_endRound jump q2, ?_⟩
  exact hA Γ φ' _ _ hΓ ((hR.of hE.2.kept (hR.toRs.up hE.2)).put hd (.bool _)) ro
 cases e with
 | normal=>exact fin none .ready rfl hm
 | ret=>exact fin (some .ret) .done rfl hm
 | exit i=>exact fin (some (.exit i)) .done rfl hm
 | goto t=>exact hm.elim
 | panic c=>exact hm.elim
 | outgrown=>exact hm.elim
theorem K5{id:Id}{env2:Env}{σ2 σ3:b8}(hσ:σ2[id]? =some (some (k6 szc ps asg body .busy none sh cs)))(h3:σ2.put id (some (k6 szc ps asg body .ready none sh cs))=σ3)
  (h:AOps P σ0 sz ops Q rest (St.mk (putE env dst (.c (bool true))) σ3)):yPost P σ0 sz Q ops rest env dst id szc ps asg body sh .normal (St.mk env2 σ2):=⟨cs,hσ,by subst h3; exact h⟩
theorem yPost_ret{id:Id}{env2:Env}{σ2 σ3:b8}(hσ:σ2[id]? =some (some (k6 szc ps asg body .busy none sh cs)))(h3:σ2.put id (some (k6 szc ps asg body .done (some .ret) sh cs))=σ3)
  (h:AOps P σ0 sz ops Q rest (St.mk (putE env dst (.c (bool false))) σ3)):yPost P σ0 sz Q ops rest env dst id szc ps asg body sh .ret (St.mk env2 σ2):=⟨cs,hσ,by subst h3; exact h⟩
def rPost(P:Program)(σ0:b8)(sz:Nat)(Q:Post)(env:Env)(n:Nat)(ps:List Nat)(asg body:Code)(sh:List (Nat × Option Nat))(σ':b8):Prop:=
 ∃ st pend cs',st ≠ .busy∧σ'[((n,[]):Id)]? =some (some (k6 sz ps asg body st pend sh cs'))∧match pend with
 | none=>Q .normal ⟨env,σ'.put (n,[]) none⟩
 | some c=>AWP P σ0 sz c Q ⟨env,σ'.put (n,[]) none⟩
theorem ad8{n:Nat}{σ2 σ3:b8}(hσ:σ2[((n,[]):Id)]? =some (some (k6 sz ps asg body .ready none sh cs)))(h3:σ2.put (n,[]) none=σ3)(h:Q .normal (St.mk env σ3)):rPost P σ0 sz Q env n ps asg body sh σ2:=
 ⟨.ready,none,cs,nofun,hσ,by subst h3; exact h⟩
theorem rPost_jump{n:Nat}{c:Code}{σ2 σ3:b8}(hσ:σ2[((n,[]):Id)]? =some (some (k6 sz ps asg body .done (some c) sh cs)))(h3:σ2.put (n,[]) none=σ3)(h:AWP P σ0 sz c Q (St.mk env σ3)):rPost P σ0 sz Q env n ps asg body sh σ2:=
 ⟨.done,some c,cs,nofun,hσ,by subst h3; exact h⟩
theorem AWP.rangeFunc{g:Operand}{f:FuncId}{caps:List C}{n:Nat}{Qit:T→b8→Prop}(sh:List (Nat × Option Nat))(hg:ev env g=some (.c (.fn f caps)))(hs:slotC sh env=some cs)(hn:newF σv=some (n,[]))(hσ:o8 σv (.one (k6 sz ps asg body .ready none sh cs))=some σ')
  (hf:FnOk P f (.c (.yld (n,[]))::caps.map T.c) σ' Qit) (hq:∀ r σ'',Qit r σ''→rPost P σ0 sz Q env n ps asg body sh σ''):AWP P σ0 sz (.rangeFunc g ps.toArray asg body) Q (St.mk env σv):=fun Γ φ a w hΓ hR ro hro=>by
 have hro:=hro rfl
 subst hro
 have h2:=u6 hn; have h3:=n3 hσ
 cases h2
 subst h3
 obtain ⟨fn,f1,f2,f3⟩:=hf.fn
 obtain ⟨cv,g1,g2,g3⟩:=fn_inv (i5 hR hg)
 obtain ⟨us,s1,_,s2⟩:=slot_mk sh hR.env hs
 refine wpIn_rangeFunc fun fid _=> ?_
 have hU:=Rs.allocU hR.toRs (.deferred (some []))
 have hA:=Rs.allocB (p0:=loopP sz ps asg body .ready none sh) (cs0:=cs) (us0:=us) (obj:=.loop {state:=.ready,pending:=none,fn:=fid,tmps:=a.tmps,params:=ps.toArray,assign:=asg,body,defers:=w.heap.size}) hU.2
  ⟨_,rfl,rfl,rfl,rfl,rfl,rfl,hR.asize,s1⟩ (fun i x hx=>let ⟨u,q1,q2⟩:=s2 i x hx; ⟨u,q1,q2.mono hU.1⟩)
 have hw:(w.alloc (.deferred (some []))).heap.size=w.heap.size+1:=by simp
 have hK:=Kept.trans (by simp) hU.1 hA.1
 generalize hW:(w.alloc (.deferred (some []))).alloc (.loop {state:=.ready,pending:=none,fn:=fid,tmps:=a.tmps,params:=ps.toArray,assign:=asg,body,defers:=w.heap.size})=W at hA hK
 refine ⟨w.heap.size+1,[{target:=.collected w.heap.size,args:=#[]}],W,{target:=.fn (.func f) cv.toArray,args:=#[.func (.yield (w.heap.size+1)) #[] #[]]},W,f,(Value.func (.yield (w.heap.size+1)) #[] #[]::cv).toArray,W, ?_, ?_,fun _ _=>trivial, ?_,fun h=>by simp at h, ?_⟩
 ·rw [← hW]; exact run_enterLoop_outer fid a.tmps ps.toArray asg body
 ·have e2:a.eval (.const (.func (.yield (w.heap.size+1)) #[] #[]))=.func (.yield (w.heap.size+1)) #[] #[]:=rfl
  simp [resolve,rangeCall,g1,e2,Deferred.ofValue]
 ·have f2':¬ fn.name= "runtime.NumGoroutine" :=by simpa using f2
  have f3':¬ fn.body=none:=fun e=>by rw [e] at f3; cases f3
  simp [invoke,callFunc,f1,f2',f3']
 refine (callsIn_wide (n:=0 - 1)).2 ?_
 refine (hf.run ⟨_,Γ.N,_,_⟩ (Value.func (.yield (w.heap.size+1)) #[] #[]::cv) rfl hA.2.down (by simp [g2]) (fun i t u hi hu=> ?_)).mono ?_
 ·match i with
  | 0=>
   cases hi; cases hu
   exact .c (.yld (by simp) rfl fun p cs hp=>⟨_,0,by simp [l9,hw],rfl⟩)
  | i+1=>
   simp only [List.getElem?_cons_succ,List.getElem?_map,Option.map_eq_some_iff] at hi hu
   obtain ⟨c,hc,rfl⟩:=hi
   exact .c ((g3 i c u hc hu).mono hK)
 ·rintro e w' ⟨v,r,σ2,φ',rfl,hQ,hr,hs'⟩
  obtain ⟨st,pend,cs',hb,hσ2,hm⟩:=hq r σ2 hQ
  have hφ:φ' (σv.length,[])=some (w.heap.size+1,0):=by
   rw [(hs'.kept.obj (σv.length,[]) _ _ (by simp) hσ2).1]; simp [l9,hw]
  obtain ⟨b',o,us',q1,q2,⟨r',rfl,p1,p2,p3,p4,p5,p6,p7⟩,q3⟩:=hs'.st.blk _ _ hσ2
  rw [hφ] at q1; cases q1
  have hE:=Rs.writeB (q1:=fun _ _=>True) (cs1:=[]) (us1:=[]) (o1:=.loop {r' with state:=.exhausted}) hs' hσ2 hφ q2 trivial (fun i x hx=>by simp at hx)
  have hX:=Rs.kill hE.2 (σv.length,[])
  rw [b8.put2] at hX
  have hDK:=hK.trans (by rw [← hW]; simp; omega) (hX.2.kept)
  have hmark:Marks Γ φ' (σ2.put (σv.length,[]) none) (w'.putObj (w.heap.size+1) (.loop {r' with state:=.exhausted})) ([{target:=.collected w.heap.size,args:=#[]}]++a.defers):=by
   have m0:Marks Γ φ σv (w.alloc (.deferred (some []))) ([{target:=.collected w.heap.size,args:=#[]}]++a.defers):=by
    have m1:=hR.defers.kept hU.1
    refine ⟨List.nodup_cons.2 ⟨fun hin=> ?_,m1.1⟩,fun d hd=> ?_⟩
    ·obtain ⟨D,e,q,_⟩:=hR.defers.2 _ hin
     have:D=w.heap.size:=by cases e; rfl
     rw [this] at q
     have:=(Array.getElem?_eq_some_iff.1 q).1
     omega
    ·rcases List.mem_cons.1 hd with rfl | hd
     ·refine ⟨w.heap.size,rfl,heap_alloc_new w _,hR.size,fun hN=> ?_,fun i blk base hi hp=> ?_⟩
      ·have:=hR.good.lt _ hN
       have:=hR.size
       omega
      ·have:=Al.own_lt hR.st hi hp
       omega
     ·exact m1.2 d hd
   exact (m0.kept hA.1).kept hX.2.kept
  have hRf:R Γ sz ⟨env,σ2.put (σv.length,[]) none⟩ φ' {a with defers:=[{target:=.collected w.heap.size,args:=#[]}]++a.defers} (w'.putObj (w.heap.size+1) (.loop {r' with state:=.exhausted})):=
   {toRs:=hA.2.up hX.2,defers:=hmark,asize:=hR.asize,env:=fun t v ht=>let ⟨u,hu,hr⟩:=hR.env t v ht; ⟨u,hu,hr.mono hDK⟩}
  refine ⟨r'.pending,_,run_endLoop q2 (by rw [p1]; exact hb), ?_⟩
  subst p2
  revert hm
  generalize r'.pending=pend at *
  intro hm
  cases pend with
  | none=>exact ⟨_,φ',hm,hRf⟩
  | some c=>exact hm Γ φ' _ _ hΓ hRf none (fun _=>rfl)
theorem AWP.rangeB{g:Operand}{f:FuncId}{caps:List C}{n:Nat}(sh:List (Nat × Option Nat))(hg:ev env g=some (.c (.fn f caps)))(hs:slotC sh env=some cs)(hn:newF σv=some (n,[]))
  (h:∀ A B:Code,A=asg→B=body→∃ (σ':b8) (Qit:T→b8→Prop),o8 σv (.one (k6 sz ps A B .ready none sh cs))=some σ'∧FnOk P f (.c (.yld (n,[]))::caps.map T.c) σ' Qit∧∀ r σ'',Qit r σ''→rPost P σ0 sz Q env n ps A B sh σ''):
  AWP P σ0 sz (.rangeFunc g ps.toArray asg body) Q (St.mk env σv):=by
 obtain ⟨σ',Qit,h1,h2,h3⟩:=h asg body rfl rfl
 exact AWP.rangeFunc sh hg hs hn h1 h2 h3
theorem AOps.yieldB{A B:Code}{x:Operand}{as':List Operand}{ats:Array TypeId}{id:Id}{ts:List T}{E1:Env}{σ1:b8}(hA:A=asg)(hB:B=body)(hx:ev env x=some (.c (.yld id)))(ha:evs env as'=some ts)(hσ:σv[id]? =some (some (k6 szc ps A B .ready none sh cs)))
  (hl:Nat.beq ts.length ps.length=true) (hps:ps.all (fun p=>Nat.blt p szc)=true) (hna:I8 asg=false) (hnr:I8 body=false) (hd:f7 sz dst=true) (hσ1:σ1[id]? =some (some (k6 szc ps A B .ready none sh cs))) (hσb:σ1.put id (some (k6 szc ps A B .busy none sh cs))=σb)
  (hass:AWP P σv szc asg (fun e s'=>e=.normal∧s'=St.mk E1 σ1) ⟨zipE ps ts (slotE sh cs),σv⟩)
  (h:AWP P σv szc body (yPost P σ0 sz Q ops rest env dst id szc ps A B sh) ⟨E1,σb⟩):
  AOps P σ0 sz ops Q (⟨dst,.call ⟨.value x,as'.toArray,ats⟩,ty,pos,after,none⟩::rest) (St.mk env σv):=by
 subst hA hB
 exact AOps.yield hx ha hσ hl hps hna hnr hd hσ1 hσb hass h
end
end Ab
end
section
namespace Ab
open Go
def DatL:List C→List I→Prop
 | [],[]=>True
 | c::r,x::s=>(c=.imm x∨c=.imm (.val (.slice none 0 0))∧∃ k,x=.sl k [])∧DatL r s
 | _,_=>False
def DatLL:List (List C)→List (List I)→Prop
 | [],[]=>True
 | c::r,x::s=>DatL c x∧DatLL r s
 | _,_=>False
theorem DatL.get:∀ {l:List C} {m:List I},DatL l m→l.length=m.length∧∀ (i:Nat) (x:I),m[i]? =some x→∃ c,l[i]? =some c∧∀ {w:World} {φ:Phi} {σ:b8} {A:Nat→Prop} {u:Value},RelC w φ σ A c u→RelI w A x u
 | [],[],_=>⟨rfl,fun i x h=>by simp at h⟩
 | [],_::_,h=>h.elim
 | _::_,[],h=>h.elim
 | c::r,x::s,⟨h1,h2⟩=>by
  obtain ⟨g1,g2⟩:=DatL.get h2
  refine ⟨by simp [g1],fun i y hy=> ?_⟩
  cases i with
  | zero=>
   simp only [List.getElem?_cons_zero,Option.some.injEq] at hy
   subst hy
   refine ⟨c,rfl,fun {w φ σ A u} hr=> ?_⟩
   rcases h1 with rfl | ⟨rfl,k,rfl⟩
   ·cases hr with | imm h=>exact h
   ·cases hr with | imm h=>cases h with | val=>exact .slNil
  | succ i=>simpa using g2 i y (by simpa using hy)
theorem DatLL.get:∀ {l:List (List C)} {m:List (List I)},DatLL l m→l.length=m.length∧∀ (i:Nat) (x:List I),m[i]? =some x→∃ c,l[i]? =some c∧DatL c x
 | [],[],_=>⟨rfl,fun i x h=>by simp at h⟩
 | [],_::_,h=>h.elim
 | _::_,[],h=>h.elim
 | c::r,x::s,⟨h1,h2⟩=>by
  obtain ⟨g1,g2⟩:=DatLL.get h2
  refine ⟨by simp [g1],fun i y hy=> ?_⟩
  cases i with
  | zero=>simp only [List.getElem?_cons_zero,Option.some.injEq] at hy; subst hy; exact ⟨c,rfl,h1⟩
  | succ i=>simpa using g2 i y (by simpa using hy)
section
variable {P:Program} {σ0:b8} {sz:Nat} {Q:Post} {env env':Env} {σv σ':b8} {ops:Array Oper} {rest:List Oper} {dst:Option Nat} {ty:TypeId} {pos:String} {after:Array Edge}
theorem S.makeD{α:Type}{f:α→List I}{a:α}{l:List α}{x y:Operand}{t e:TypeId}{k bytes:Nat}{z:Value}{n:Int}{cs:List C}[ht:TyD P t (.slice e)][hz:TyZ P e cs][hs:TyS P e k bytes z]
  (hm:mkL bytes n a=some l) (hf:DatL cs (f a)) (hk:Nat.beq cs.length k=true)
  (hx:ev env x=some (.c (int n))) (hy:ev env y=some (.c (int n))) (hd:f7 sz dst=true)
  (h:AOps P σ0 sz ops Q rest (St.mk (putE env dst (.c (.imm (.sl k (l.map f))))) σv)):AOps P σ0 sz ops Q (⟨dst,.makeSlice t x y,ty,pos,after,none⟩::rest) (St.mk env σv):=by
 obtain ⟨⟨hn,hmax,hb⟩,rfl⟩:=mkL_get hm
 have hk':cs.length=k:=Nat.eq_of_beq_eq_true hk
 obtain ⟨size',bytes',z',v,hs',k1,k2⟩:=hz.h
 have hzz:z'=z:=by
  obtain ⟨i,a1,_,_,a4⟩:=hs.h
  obtain ⟨i',b1,_,_,b4⟩:=hs'.h
  rw [a1] at b1; cases b1
  rw [a4] at b4; cases b4; rfl
 subst hzz
 refine AOps.valueW rfl hd (.c (.imm (.sl k ((List.replicate n.toNat a).map f)))) σv (fun Γ φ ac w hR=> ?_) (by cases dst<;>exact h)
 obtain ⟨i,hi1,hi2,hi3,hi4⟩:=hs.h
 have hrun:=run_make (P:=P) w t e i z' ht.h hi1 hi4 .i64 .i64 n n hn (Int.le_refl _) (by rw [hi3]; exact hb) hmax
 rw [hi2] at hrun
 obtain ⟨h1,h2⟩:=J7 (w:=w) (φ:=φ) (σ:=σv) (A:=Al Γ.N φ σv) (Q8 k1) k2
 obtain ⟨f1,f2⟩:=hf.get
 have hU:=hR.toRs.allocU (.cells (madeCells z'.cells (n.toNat * k)) e (0,0))
 have hold:∀ b,b<w.heap.size→(w.alloc (.cells (madeCells z'.cells (n.toNat * k)) e)).heap[b]? =w.heap[b]? :=fun b hb=>by first | exact heap_alloc_old w _ hb | exact heap_alloc_old w _ _ hb
 have hnew:Al Γ.N φ σv w.heap.size:=⟨fun hN=>by have:=hR.toRs.good.lt _ hN; have:=hR.toRs.size; omega,fun i blk base hi hp=>by have:=Al.own_lt hR.toRs.st hi hp; omega⟩
 have key:∀ (j:Nat) (q:List I) (o:Nat) (y:I),((List.replicate n.toNat a).map f)[j]? =some q→q[o]? =some y→∃ u,(madeCells z'.cells (n.toNat * k))[j * k+o]? =some u∧RelI w (Al Γ.N φ σv) y u:=fun j q o y hq hy=>by
  rw [List.getElem?_map,List.getElem?_replicate] at hq
  split at hq
  ·rename_i hj
   simp only [Option.map_some,Option.some.injEq] at hq
   subst hq
   obtain ⟨c,c1,c2⟩:=f2 o y hy
   obtain ⟨u,hu,hr⟩:=h2 o c c1
   have ho:o<k:=by rw [← hk']; exact (List.getElem?_eq_some_iff.1 c1).1
   refine ⟨u, ?_,c2 hr⟩
   have:(j+1) * k≤n.toNat * k:=Nat.mul_le_mul_right _ hj
   rw [Nat.add_mul,Nat.one_mul] at this
   have hzs:z'.cells.size=k:=by rw [h1,hk']
   have em:(j * k+o) % k=o:=by rw [Nat.mul_comm,Nat.mul_add_mod,Nat.mod_eq_of_lt ho]
   simp only [madeCells,Array.getElem?_map,Array.getElem?_range,hzs]
   rw [if_pos (by omega)]
   simp only [Option.map_some,em]
   have ho':o<z'.cells.size:=by omega
   rw [Array.getElem?_eq_getElem ho'] at hu
   simp [getElem!_pos,ho',Option.some.inj hu]
  ·cases hq
 have hln:((List.replicate n.toNat a).map f).length=n.toNat:=by simp
 have hrel:RelT (w.alloc (.cells (madeCells z'.cells (n.toNat * k)) e)) φ σv (Al Γ.N φ σv) (.c (.imm (.sl k ((List.replicate n.toNat a).map f)))) (.slice (some ⟨w.heap.size,0,none⟩) n.toNat n.toNat):=by
  refine .c (.imm ?_)
  have:=RelI.sl (w:=w.alloc (.cells (madeCells z'.cells (n.toNat * k)) e)) (A:=Al Γ.N φ σv) (k:=k) (es:=(List.replicate n.toNat a).map f) (a:=⟨w.heap.size,0,none⟩) (cap:=n.toNat) (fun j o=>((madeCells z'.cells (n.toNat * k))[j * k+o]?).getD (.bool false)) (by rw [hln]; exact Nat.le_refl _) (by simp only [maxLen]; omega) (fun j q hq=>by
    rw [List.getElem?_map,List.getElem?_replicate] at hq
    split at hq
    ·simp only [Option.map_some,Option.some.injEq] at hq
     subst hq
     rw [← f1,hk']
    ·cases hq) (fun j q o y hq hy=>by
    obtain ⟨u,u1,_⟩:=key j q o y hq hy
    refine ⟨hnew, ?_⟩
    rw [u1,Addr.add_lit]
    have hh:=heap_alloc_new w (.cells (madeCells z'.cells (n.toNat * k)) e)
    unfold World.cell?
    dsimp only
    rw [hh]
    simpa using u1) (fun j q o y hq hy=>by
    obtain ⟨u,u1,u2⟩:=key j q o y hq hy
    rw [u1]
    exact u2.mono (fun b _ hb=>hold b hb) fun b hb _=>hb)
  rw [hln] at this
  exact this
 exact ⟨.slice (some ⟨w.heap.size,0,none⟩) n.toNat n.toNat,w.alloc (.cells (madeCells z'.cells (n.toNat * k)) e),φ,by simp [execOp,A5 hR hx,A5 hR hy,hrun],hrel,hR.of hU.1 hU.2⟩
end
end Ab
end
section
namespace Ab
open Go
section
variable {P:Program} {σ0:b8} {sz:Nat} {Q:Post} {env:Env} {σv:b8} {ops:Array Oper} {rest:List Oper} {dst:Option Nat} {ty:TypeId} {pos:String} {after:Array Edge}
end
end Ab
end
section
namespace Ab
open Go
theorem Rs.adopt{Γ:Cx}{σ:b8}{φ:Phi}{w w':World}(h:Rs Γ σ φ w)(hos:w'.os=w.os)(ht:w'.tape=w.tape)(hdr:w.drawn≤w'.drawn)(ho:w'.output=w.output)(hs:w.heap.size≤w'.heap.size)(hold:∀ b,b<w.heap.size→w'.heap[b]? =w.heap[b]?)
  {k:Nat} {es:List (List C)} {q:Option (Nat × Nat)} (hq:∀ b base,q=some (b,base)→w.heap.size≤b) (hblk:∀ φ σ A,BlkR w' φ σ A q (.cells k es)):
  Kept w w' φ (fun i=>if i=(σ.length,[]) then q else φ i) σ (σ++[.one (.cells k es)]) (Al Γ.N φ σ) (Al Γ.N (fun i=>if i=(σ.length,[]) then q else φ i) (σ++[.one (.cells k es)]))∧
  Rs Γ (σ++[.one (.cells k es)]) (fun i=>if i=(σ.length,[]) then q else φ i) w':=by
 generalize hφ:(fun i=>if i=(σ.length,[]) then q else φ i)=φ'
 have plo:∀ i:Id,i.1<σ.length→φ' i=φ i:=fun i hi=>by
  have:i ≠ (σ.length,[]):=fun e=>by rw [e] at hi; exact Nat.lt_irrefl _ hi
  rw [← hφ]; simp [this]
 have pnew:φ' (σ.length,[])=q:=by rw [← hφ]; simp
 have cases2:∀ (i:Id) blk,(σ++[.one (.cells k es)])[i]? =some (some blk)→(i.1<σ.length∧σ[i]? =some (some blk))∨(i=(σ.length,[])∧blk=.cells k es):=fun i blk hi=>b8.get_new hi
 have A1:∀ b,Al Γ.N φ σ b→b<w.heap.size→Al Γ.N φ' (σ++[.one (.cells k es)]) b:=fun b hb hl=>⟨hb.1,fun i blk base hi hp=>by
  rcases cases2 i blk hi with ⟨h1,h2⟩ | ⟨rfl,rfl⟩
  ·rw [plo i h1] at hp; exact hb.2 i blk base h2 hp
  ·rw [pnew] at hp; have:=hq b base hp; omega⟩
 have hK:Kept w w' φ φ' σ (σ++[.one (.cells k es)]) (Al Γ.N φ σ) (Al Γ.N φ' (σ++[.one (.cells k es)])):=
  {imm:=fun b _ hl=>hold b hl,all:=A1,len:=by simp,
   cells:=fun i kk es' hi he=>by
    rw [b8.get_left hi] at he
    exact ⟨es',he,rfl,plo i hi,fun b base arr ety hp hb=>⟨arr,(hold b (Al.own_lt h.st he hp)).trans hb,rfl⟩⟩,
   obj:=fun i p' cs' hi he=>by
    rw [b8.get_left hi] at he
    exact ⟨plo i hi,p',cs',he⟩}
 refine ⟨hK, ?_⟩
 exact {
  good:=h.good
  st:=⟨fun i b hi=>by
    rcases cases2 i b hi with ⟨h1,h2⟩ | ⟨rfl,rfl⟩
    ·rw [plo i h1]
     exact (h.st.blk i b h2).mono hK fun g base hp=>hold g (Al.own_lt h.st h2 hp)
    ·rw [pnew]
     exact hblk _ _ _,
   fun i j bi bj p1 q1 hi hj hp hq1 he=>by
    obtain ⟨pb,po⟩:=p1
    obtain ⟨qb,qo⟩:=q1
    dsimp only at he
    subst he
    rcases cases2 i bi hi with ⟨h1,h2⟩ | ⟨rfl,rfl⟩<;>rcases cases2 j bj hj with ⟨g1,g2⟩ | ⟨rfl,rfl⟩
    ·rw [plo i h1] at hp; rw [plo j g1] at hq1
     exact h.st.inj i j bi bj _ _ h2 g2 hp hq1 rfl
    ·rw [plo i h1] at hp; rw [pnew] at hq1
     have:=Al.own_lt h.st h2 hp; have:=hq _ _ hq1; omega
    ·rw [plo j g1] at hq1; rw [pnew] at hp
     have:=Al.own_lt h.st g2 hq1; have:=hq _ _ hp; omega
    ·rfl⟩
  keep:=fun i blk b base hi hp hKb=>by
   rcases cases2 i blk hi with ⟨h1,h2⟩ | ⟨rfl,rfl⟩
   ·rw [plo i h1] at hp; exact h.keep i blk b base h2 hp hKb
   ·rw [pnew] at hp
    have:=hq _ _ hp
    have:=hKb.1; have:=h.size; omega
  os:=hos.trans h.os
  tape:=ht.trans h.tape
  drawn:=Nat.le_trans h.drawn hdr
  output:=ho.trans h.output
  size:=Nat.le_trans h.size hs
  block:=fun b hKb=>(hold b (Nat.lt_of_lt_of_le hKb.1 h.size)).trans (h.block b hKb)
  kept:=Kept.trans h.size h.kept hK}
section
variable {P:Program} {σ0:b8} {sz:Nat} {Q:Post} {env:Env} {σv σ':b8} {ops:Array Oper} {rest:List Oper} {dst:Option Nat} {ty:TypeId} {pos:String} {after:Array Edge}
theorem S.freshL{α:Type}{g:α→List I}{l:List α}{x:Operand}{as':List Operand}{ats:Array TypeId}{f:FuncId}{caps:List C}{ts ts':List T}{k:Nat}{n:Id}(hg:∀ a,((g a).map C.imm).all C.scal=true)(hx:ev env x=some (.c (.fn f caps)))(ha:evs env as'=some ts)(hl:ad3 σv (ts++caps.map T.c) ts')(hd:f7 sz dst=true)
  (hf:m5 P f ts' k (l.map g)) (hn:newF σv=some n) (hσ:o8 σv (.one (vec k g l))=some σ') (h:AOps P σ0 sz ops Q rest (St.mk (putE env dst (.c (.own n 0 l.length))) σ')):
  AOps P σ0 sz ops Q (⟨dst,.call ⟨.value x,as'.toArray,ats⟩,ty,pos,after,none⟩::rest) (St.mk env σv):=by
 have h1:=u6 hn; have h2:=n3 hσ
 subst h1 h2
 intro Γ φ a w hΓ hR ro
 obtain ⟨vs,h1,h2,h3⟩:=ai6 (P:=P) (dst:=dst) (ty:=ty) (pos:=pos) (after:=after) (ats:=ats) hR hx ha hf.fn
 obtain ⟨l1,l2⟩:=hl.get
 refine P8 rfl (ak9 h1 ?_)
 refine (hf.run (Cx.open w) vs rfl (good_open w) (by rw [l1]; exact h2) (fun i t u hi hu=> ?_)).mono ?_
 ·obtain ⟨t0,ht0,hlend⟩:=l2 i t hi
  exact hlend.rel hR (al_open w) (h3 i t0 u ht0 hu)
 ·rintro e w' ⟨v,r',σ2,φ',rfl,⟨id',rfl,hid⟩,hrel,hs⟩
  have hview:=D0 hrel hid
  have hb:=hs.st.blk _ _ hid
  have hnew:∀ b base,φ' id'=some (b,base)→w.heap.size≤b:=fun b base hp=>by
   have:=hs.keep id' _ b base hid hp
   rcases Nat.lt_or_ge b w.heap.size with c | c
   ·exact absurd ⟨c,fun i blk base hi=>by simp [Cx.open] at hi⟩ this
   ·exact c
  have scal:∀ (j:Nat) (e:List C) (o:Nat) (y:C),((l.map g).map (·.map C.imm))[j]? =some e→e[o]? =some y→y.scal=true:=fun j e o y he hy=>by
   simp only [List.map_map,List.getElem?_map,Option.map_eq_some_iff,Function.comp_apply] at he
   obtain ⟨z,_,rfl⟩:=he
   have:=List.all_eq_true.1 (hg z)
   exact this y (List.mem_of_getElem? hy)
  obtain ⟨hK1,hR1⟩:=hR.toRs.adopt (w':=w') hs.os hs.tape hs.drawn hs.output hs.size (fun b hb=>hs.block b ⟨hb,fun i blk base hi=>by simp [Cx.open] at hi⟩) (k:=k) (es:=(l.map g).map (·.map C.imm)) (q:=φ' id') hnew (fun φ σ A=>by
   rcases hb with h | ⟨b,base,arr,ety,p1,p2,p3,p4,p5⟩
   ·exact .inl h
   ·refine .inr ⟨b,base,arr,ety,p1,p2,p3,p4,fun j e o y he hy=> ?_⟩
    obtain ⟨u,hu,hr⟩:=p5 j e o y he hy
    exact ⟨u,hu,C.scal_rel (scal j e o y he hy) hr⟩)
  have hlen:(l.map g).length=l.length:=List.length_map ..
  refine h Γ _ _ w' hΓ ((hR.of hK1 hR1).put hd ?_) ro
  refine I6 (k:=k) (es:=(l.map g).map (·.map C.imm)) (b8.get_last _ _) (by cases hrel with | c hr=>exact hr.one) ?_
  rw [hlen] at hview
  simpa using hview
end
end Ab
end
section
namespace Ab
open Go
def mvr(r n:Nat)(i:Id):Id:=((match Nat.beq i.1 r with | true=>n | false=>i.1),i.2)
theorem aq6{r n:Nat}{i:Id}(h:i.1=r):mvr r n i=(n,i.2):=by
 have:Nat.beq i.1 r=true:=by rw [h]; exact Nat.beq_refl r
 simp only [mvr,this]
theorem mvr_ne{r n:Nat}{i:Id}(h:i.1 ≠ r):mvr r n i=i:=by
 have:Nat.beq i.1 r=false:=N7 h
 simp only [mvr,this]
section
variable {P:Program} {σ0:b8} {sz:Nat} {Q:Post} {env env':Env} {σv σ':b8} {ops:Array Oper} {rest:List Oper} {dst:Option Nat} {ty:TypeId} {pos:String} {after:Array Edge}
inductive EntR(r n:Nat)(σ:b8)(m i:Nat):Ent→Prop
 | dead:EntR r n σ m i .dead
 | one {b:Blk} (h1:b.ok m=true) (h2:σ[mvr r n (i,[])]? =some (some (b.ren (mvr r n)))):EntR r n σ m i (.one b)
 | vec {α:Type} {k:Nat} {f:α→List I} {l:List α} (h2:σ[mvr r n (i,[])]? =some (some (vec k f l))):EntR r n σ m i (.one (vec k f l))
 | mat {α:Type} {k j:Nat} {f:α→List I} {M:List (List α)} (hj:(mvr r n (i,[])).1=j) (hi:Nat.blt i m=true) (h:σ[j]? =some (mat (j,[]) k f M)):EntR r n σ m i (mat (i,[]) k f M)
 | any {e:Ent} (h:∀ p b,e.sub p=some b→b.ok m=true∧σ[mvr r n (i,p)]? =some (some (b.ren (mvr r n)))):EntR r n σ m i e
def StR_(r n:Nat)(σ:b8)(m:Nat):Nat→b8→Prop
 | _,[]=>True
 | i,e::l=>EntR r n σ m i e∧StR_ r n σ m (i+1) l
theorem EntR.get{r n:Nat}{σ:b8}{m i:Nat}{e:Ent}(h:EntR r n σ m i e){p:List Nat}{b:Blk}(hb:e.sub p=some b):b.ok m=true∧σ[mvr r n (i,p)]? =some (some (b.ren (mvr r n))):=by
 cases h with
 | dead=>cases p<;>cases hb
 | one h1 h2=>cases p with
  | nil=>cases hb; exact ⟨h1,h2⟩
  | cons=>cases hb
 | vec h2=>cases p with
  | nil=>cases hb; exact ⟨D9,by rw [Blk.im_ren]; exact h2⟩
  | cons=>cases hb
 | @mat α k j f M hj hi h=>
  have hi':i<m:=by simpa using hi
  have e:∀ q,mvr r n (i,q)=(j,q):=fun q=>by rw [← hj]; rfl
  rw [e,n5 h]
  cases p with
  | nil=>
   cases hb
   refine ⟨hdr_ok hi' _, ?_⟩
   rw [mat_main]
   congr 2
   simp only [Blk.ren]
   congr 1
   apply List.ext_getElem?
   intro q
   rw [List.getElem?_map]
   simp only [hdr,List.getElem?_mapIdx,Option.map_map]
   cases M[q]? with
   | none=>rfl
   | some row=>simp [C.renL,C.ren,e]
  | cons a q=>
   rw [mat_row] at hb ⊢
   split at hb
   ·rename_i row hrow
    cases q with
    | cons b q=>cases hb
    | nil=>cases hb; exact ⟨D9,by rw [Blk.im_ren]⟩
   ·cases hb
 | any h=>exact h p b hb
theorem StR_.get{r n m:Nat}{σ:b8}:∀ {i:Nat} {σ':b8},StR_ r n σ m i σ'→∀ (j:Nat) (p:List Nat) (b:Blk),σ'[((j,p):Id)]? =some (some b)→b.ok m=true∧σ[mvr r n (i+j,p)]? =some (some (b.ren (mvr r n)))
 | _,[],_,j,p,b,h=>by simp at h
 | i,e::l,h,0,p,b,hb=>by
  rw [b8.at_eq] at hb
  simp only [b8.at,List.getElem?_cons_zero,Option.some.injEq] at hb
  exact h.1.get hb
 | i,e::l,h,j+1,p,b,hb=>by
  have:=StR_.get (i:=i+1) h.2 j p b (by
   rw [b8.at_eq] at hb ⊢
   simpa [b8.at] using hb)
  rwa [show i+1+j=i+(j+1) by omega] at this
def EnvR(r n:Nat)(env:Env):Env→Prop
 | []=>True
 | (t,v)::l=>lookup t env=some (v.ren (mvr r n))∧EnvR r n env l
theorem EnvR.get{r n:Nat}:∀ {env':Env},EnvR r n env env'→∀ t v,lookup t env'=some v→lookup t env=some (v.ren (mvr r n))
 | [],_,t,v,h=>by simp [lookup] at h
 | (k,x)::l,⟨h1,h2⟩,t,v,h=>by
  simp only [lookup] at h
  split at h
  ·rename_i he; cases h; rw [← Nat.eq_of_beq_eq_true he]; exact h1
  ·exact EnvR.get h2 t v h
def deadR(σ:b8)(n:Nat):Bool:=match σ[n]? with
 | some .dead=>true
 | some _=>false
 | none=>true
theorem Sub.moveM(r n:Nat)(h0:Nat.ble σ0.length r=true)(hl:Nat.ble σ0.length σ'.length=true)(hn:deadR σ' n=true)(henv:EnvR r n env env')(he:envOk σ'.length env'=true)(hst:StR_ r n σv σ'.length 0 σ'):Sub σ0 ⟨env,σv⟩ ⟨env',σ'⟩:=by
 have h0':=Nat.le_of_ble_eq_true h0
 have hd:∀ (p:List Nat) b,σ'[((n,p):Id)]? ≠ some (some b):=fun p b hb=>by
  rw [b8.at_eq] at hb
  simp only [b8.at] at hb
  simp only [deadR] at hn
  split at hb
  ·rename_i e hx
   rw [hx] at hn
   cases e with
   | dead=>cases p<;>cases hb
   | one=>cases hn
   | node=>cases hn
  ·cases hb
 refine Sub.mk (mvr r n) (fun i hi=>mvr_ne (fun e=>by omega)) (Nat.le_of_ble_eq_true hl) (fun i j b b' hi hj h=> ?_) (fun i b hi=> ?_) (fun t v ht=>⟨an3 he t v ht,henv.get t v ht⟩)
 ·by_cases h1:i.1=r<;>by_cases h2:j.1=r
  ·rw [aq6 h1,aq6 h2] at h
   exact Prod.ext (h1.trans h2.symm) (Prod.mk.inj h).2
  ·rw [aq6 h1,mvr_ne h2] at h
   subst h; exact absurd hj (hd _ _)
  ·rw [aq6 h2,mvr_ne h1] at h
   subst h; exact absurd hi (hd _ _)
  ·rwa [mvr_ne h1,mvr_ne h2] at h
 ·have:=hst.get i.1 i.2 b hi
  rwa [Nat.zero_add] at this
theorem AWP.moveM{c:Code}(r n:Nat)(h0:Nat.ble σ0.length r=true)(hl:Nat.ble σ0.length σ'.length=true)(hn:deadR σ' n=true)(henv:EnvR r n env env')(he:envOk σ'.length env'=true)(hst:StR_ r n σv σ'.length 0 σ')(h:AWP P σ0 sz c Q (St.mk env' σ')):AWP P σ0 sz c Q (St.mk env σv):=
 AWP.sub (Sub.moveM r n h0 hl hn henv he hst) h
/-! ### A row of nothing appended to rows -/
end
end Ab
end
section
namespace Ab
open Go
section
variable {P:Program} {σ0:b8} {sz:Nat} {Q:Post} {env env':Env} {σv σ':b8}
end
end Ab
end
section
namespace Ab
open Go
section
variable {P:Program} {σ0:b8} {sz:Nat} {Q:Post} {env env':Env} {σv σ':b8} {ops:Array Oper} {rest:List Oper} {dst:Option Nat} {ty:TypeId} {pos:String} {after:Array Edge}
def isIfaceD:TypeDesc→Bool
 | .interface _=>true
 | _=>false
theorem ifc1_inv{w:World}{φ:Phi}{σ:b8}{A:Nat→Prop}{t:TypeId}{c:C}{u:Value}(h:RelT w φ σ A (.c (.ifc t [c] false)) u):∃ v,u=.iface t v∧RelC w φ σ A c v:=by
 cases h with | c h=>cases h with | ifc1 h=>exact ⟨_,rfl,h⟩
theorem S.mkIfc{x:Operand}{t:TypeId}{d:TypeDesc}{c:C}[ht:TyD P t d](hi:isIfaceD d=false)(hx:ev env x=some (.c c))(hd:f7 sz dst=true)
  (h:AOps P σ0 sz ops Q rest (St.mk (putE env dst (.c (.ifc t [c] false))) σv)):AOps P σ0 sz ops Q (⟨dst,.makeInterface t x,ty,pos,after,none⟩::rest) (St.mk env σv):=
 .value rfl hd _ (fun Γ φ a w hR=>by
  have hr:=i5 hR hx
  generalize hu:a.eval x=u at hr
  cases hr with | c hr=>
   refine ⟨.iface t u, ?_,.c (.ifc1 hr)⟩
   cases d<;>first | (cases hi; done) | simp [execOp,Instr.makeInterface,run_underlying ht.h,hu]) h
theorem S.assert{x:Operand}{xt t:TypeId}{d:TypeDesc}{c:C}[ht:TyD P t d](hi:isIfaceD d=false)(hx:ev env x=some (.c (.ifc t [c] false)))(hd:f7 sz dst=true)
  (h:AOps P σ0 sz ops Q rest (St.mk (putE env dst (.c c)) σv)):AOps P σ0 sz ops Q (⟨dst,.typeAssert x xt t false,ty,pos,after,none⟩::rest) (St.mk env σv):=
 .value rfl hd _ (fun Γ φ a w hR=>by
  obtain ⟨v,hv,hr⟩:=ifc1_inv (i5 hR hx)
  refine ⟨v, ?_,.c hr⟩
  cases d<;>first | (cases hi; done) | simp [execOp,Instr.typeAssert,run_underlying ht.h,hv]) h
/-! ### Calls through an interface -/
theorem AOps.enterS{o:Oper}{f:FuncId}{ts:List T}{Qc:T→b8→Prop}(hg:o.guard=none)(hd:f7 sz o.dst=true)(hf:FnOk P f ts σv Qc)
  (he:∀ Γ φ a w,R Γ sz (St.mk env σv) φ a w→∃ vs:List Value,(execOp a.eval o).run P w=.ok (.enter f vs.toArray) w∧ts.length=vs.length∧∀ (i:Nat) (t:T) (u:Value),ts[i]? =some t→vs[i]? =some u→RelT w φ σv (Al Γ.N φ σv) t u)
  (h:∀ r σ',Qc r σ'→AOps P σ0 sz ops Q rest ((St.mk env σ').put o.dst r)):AOps P σ0 sz ops Q (o::rest) (St.mk env σv):=fun Γ φ a w hΓ hR ro=>by
 obtain ⟨vs,h1,h2,h3⟩:=he Γ φ a w hR
 refine P8 hg (ak9 h1 ?_)
 refine (hf.run ⟨w,Γ.N,φ,σv⟩ vs rfl hR.toRs.down h2 h3).mono ?_
 rintro e w' ⟨v,r,σ',φ',rfl,hq,hr,hs⟩
 exact h r σ' hq Γ φ' _ w' hΓ ((hR.of hs.kept (hR.toRs.up hs)).put hd hr) ro
class MethF (P:Program) (t:TypeId) (name:String) (f:outParam FuncId) (b:outParam Bool):Prop where
 h:((P.info? t).bind fun i=>(i.methods.find? (·.name==name)).map fun m=>(m.path.toList,m.func))=some ([],some (f,b))
theorem MethF.get{t:TypeId}{name:String}{f:FuncId}{b:Bool}[h:MethF P t name f b]:∃ i m,P.info? t=some i∧i.methods.find? (·.name==name)=some m∧m.path=#[]∧m.func=some (f,b):=by
 obtain ⟨i,h1,h2⟩:=Option.bind_eq_some_iff.1 h.h
 obtain ⟨m,h3,h4⟩:=Option.map_eq_some_iff.1 h2
 simp only [Prod.mk.injEq] at h4
 exact ⟨i,m,h1,h3,by simpa using h4.1,h4.2⟩
theorem run_recvP{t e:TypeId}{v:Value}{wr:Option String}{w:World}[hd:TyD P t (.pointer e)]:(receiverAt t (.val v) true wr).run P w=.ok v w:=by
 unfold receiverAt
 rw [Sem.run_bind,run_underlying hd.h]
 rfl
theorem run_recvV{t e:TypeId}{de:TypeDesc}{a:Addr}{u:Value}{wr:String}{w:World}[hd:TyD P t (.pointer e)][he:TyD P e de](ha:A6 de=false)(hu:w.cell? a=some u):(receiverAt t (.val (.pointer (some a))) false (some wr)).run P w=.ok u w:=by
 unfold receiverAt
 rw [Sem.run_bind,run_underlying hd.h]
 show (loadVar e a).run P w=_
 exact ad4 ha hu
theorem run_method{t:TypeId}{name:String}{f:FuncId}{b:Bool}{v u:Value}{w:World}[hm:MethF P t name f b](hr:∀ wr:String,(receiverAt t (.val v) b (some wr)).run P w=.ok u w):(method (P.types.size+Made.depth) t v name).run P w=.ok (f,u) w:=by
 obtain ⟨i,m,h1,h2,h3,h4⟩:=hm.get
 rw [show P.types.size+Made.depth=(P.types.size+99)+1 from rfl]
 have hi:(typeInfo t).run P w=.ok i w:=by simp [typeInfo,h1]
 unfold method
 rw [Sem.run_bind,hi]
 simp only [Result.andThen_ok,h2,h3,h4,follow]
 simp only [Sem.run_bind,Sem.run_pure,Result.andThen_ok,Array.isEmpty_empty,if_true]
 rw [hr]
 rfl
theorem fn_body{f:FuncId}(hfn:∃ fn,P.funcs[f]? =some fn∧(fn.name== "runtime.NumGoroutine")=false∧fn.body.isNone=false)(vs:Array Value)(w:World):(callFunc f vs).run P w=.ok (.enter f vs) w:=by
 obtain ⟨fn,h1,h2,h3⟩:=hfn
 have h2':¬ fn.name= "runtime.NumGoroutine" :=by simpa using h2
 have h3':¬ fn.body=none:=fun e=>by rw [e] at h3; cases h3
 simp [callFunc,h1,h2',h3']
theorem invoke_args{Γ:Cx}{φ:Phi}{a:Act}{w:World}(hR:R Γ sz (St.mk env σv) φ a w){as':List Operand}{ts:List T}(ha:evs env as'=some ts){c:C}{v:Value}(hc:RelC w φ σv (Al Γ.N φ σv) c v):
  (T.c c::ts).length=(v::as'.map a.eval).length∧∀ (i:Nat) (t:T) (u:Value),(T.c c::ts)[i]? =some t→(v::as'.map a.eval)[i]? =some u→RelT w φ σv (Al Γ.N φ σv) t u:=by
 obtain ⟨k1,k2⟩:=evs_rel hR ha
 refine ⟨by simp [k1],fun i t u hi hu=> ?_⟩
 cases i with
 | zero=>simp only [List.getElem?_cons_zero,Option.some.injEq] at hi hu; subst hi hu; exact .c hc
 | succ i=>exact k2 i t u (by simpa using hi) (by simpa using hu)
theorem S.invokeP{x:Operand}{as':List Operand}{ats:Array TypeId}{name:String}{t e:TypeId}{c:C}{f:FuncId}{ts:List T}{r2:T}{σ'':b8}[hd:TyD P t (.pointer e)][hm:MethF P t name f true](hx:ev env x=some (.c (.ifc t [c] false)))(ha:evs env as'=some ts)(hdst:f7 sz dst=true)
  (hf:FnOk P f (.c c::ts) σv fun r s=>r=r2∧s=σ'') (h:AOps P σ0 sz ops Q rest (St.mk (putE env dst r2) σ'')):
  AOps P σ0 sz ops Q (⟨dst,.call ⟨.invoke x name,as'.toArray,ats⟩,ty,pos,after,none⟩::rest) (St.mk env σv):=by
 refine AOps.enterS rfl hdst hf (fun Γ φ a w hR=> ?_) (fun r s ⟨h1,h2⟩=>by subst h1 h2; exact h)
 obtain ⟨v,hv,hr⟩:=ifc1_inv (i5 hR hx)
 refine ⟨v::as'.map a.eval, ?_,invoke_args hR ha hr⟩
 have:=fn_body hf.fn (v::as'.map a.eval).toArray w
 simp [execOp,resolve,invoke,callMethod,hv,run_method (P:=P) (t:=t) (name:=name) (fun wr=>run_recvP (e:=e))]
 simpa [List.take_of_length_le] using this
theorem S.invokeV{x:Operand}{as':List Operand}{ats:Array TypeId}{name:String}{t e:TypeId}{de:TypeDesc}{id:Id}{j o k:Nat}{es:List (List C)}{el:List C}{c:C}{f:FuncId}{ts:List T}{r2:T}{σ'':b8}[hd:TyD P t (.pointer e)][he:TyD P e de][hm:MethF P t name f false](hagg:A6 de=false)
  (hx:ev env x=some (.c (.ifc t [.ptr id j o] false))) (hσ:σv[id]? =some (some (.cells k es))) (hel:es[j]? =some el) (hc:el[o]? =some c) (ha:evs env as'=some ts) (hdst:f7 sz dst=true)
  (hf:FnOk P f (.c c::ts) σv fun r s=>r=r2∧s=σ'') (h:AOps P σ0 sz ops Q rest (St.mk (putE env dst r2) σ'')):
  AOps P σ0 sz ops Q (⟨dst,.call ⟨.invoke x name,as'.toArray,ats⟩,ty,pos,after,none⟩::rest) (St.mk env σv):=by
 refine AOps.enterS rfl hdst hf (fun Γ φ a w hR=> ?_) (fun r s ⟨h1,h2⟩=>by subst h1 h2; exact h)
 obtain ⟨v,hv,hr⟩:=ifc1_inv (i5 hR hx)
 obtain ⟨hid,b,base,hp,hv2⟩:=ac0 (.c hr) hσ
 obtain ⟨arr,ety,hb,_,_,hcs⟩:=F2 hR hσ hp
 obtain ⟨u,hu,hru⟩:=hcs j el o c hel hc
 refine ⟨u::as'.map a.eval, ?_,invoke_args hR ha hru⟩
 have:=fn_body hf.fn (u::as'.map a.eval).toArray w
 simp [execOp,resolve,invoke,callMethod,hv,hv2,run_method (P:=P) (t:=t) (name:=name) (fun wr=>run_recvV (e:=e) hagg ((M4 hb).trans hu))]
 simpa [List.take_of_length_le] using this
/-! ### Maps: how many keys -/
theorem S.lenMap{K V:Type}{fk:K→Value}{fv:V→Value}{x:Operand}{t kt vt:TypeId}{id:Id}{m:List (K × V)}[ht:TyD P t (.map kt vt)](hx:ev env x=some (.c (.map id)))(hσ:σv[id]? =some (some (mapB fk fv m)))(hd:f7 sz dst=true)
  (h:AOps P σ0 sz ops Q rest (St.mk (putE env dst (.c (int (m.length:Int)))) σv)):AOps P σ0 sz ops Q (⟨dst,.call ⟨.builtin .len,#[x],#[t]⟩,ty,pos,after,none⟩::rest) (St.mk env σv):=
 .value rfl hd _ (fun Γ φ a w hR=>by
  obtain ⟨b,base,hp,hv⟩:=af4 (i5 hR hx) hσ
  obtain ⟨b',o,_,g1,g2,⟨es,c,rfl,g3⟩,_⟩:=hR.st.blk _ _ hσ
  rw [hp] at g1; cases g1
  have hl:es.size=m.length:=by
   have:=congrArg List.length g3
   simpa using this
  exact ⟨.int .i64 m.length,by simp [execOp,hv,resolve,invoke,builtin,Builtin.len_,run_underlying ht.h,Go.MapKept.run_getObj_map g2,goInt,hl,Result.andThen],.int _⟩) h
/-! ### Maps whose values are nothing (sets) -/
def noV:Unit→Value:=fun _=>.agg #[]
theorem W.lookupOkU{K:Type}[DecidableEq K]{fk:K→Value}{d:TypeDesc}{x y:Operand}{t kt vt:TypeId}{id:Id}{m:List (K × Unit)}{k:K}{size bytes:Nat}{zv:Value}[ht:TyD P t (.map kt vt)][hkt:TyD P kt d][hs:TyS P vt size bytes zv](hk:KeyT d fk)(hz:zv=.agg #[])
  (hx:ev env x=some (.c (.map id))) (hy:ev env y=some (.c (.imm (.val (fk k))))) (hσ:σv[id]? =some (some (mapB fk noV m))) (hd:f7 sz dst=true)
  (h:AOps P σ0 sz ops Q rest (St.mk (putE env dst (.tup [.agg [],.c (bool (mget m k).isSome)])) σv)):AOps P σ0 sz ops Q (⟨dst,.lookup t x y true,ty,pos,after,none⟩::rest) (St.mk env σv):=by
 refine .valueW rfl hd _ _ (fun Γ φ a w hR=> ?_) h
 obtain ⟨b,base,hp,hv⟩:=af4 (i5 hR hx) hσ
 obtain ⟨hv2,_⟩:=D5 (i5 hR hy)
 obtain ⟨b',o,_,g1,g2,⟨es,c,rfl,g3⟩,_⟩:=hR.st.blk _ _ hσ
 rw [hp] at g1; cases g1
 refine ⟨.tuple #[.agg #[],.bool (mget m k).isSome],w,φ, ?_,RelT.tup' (vs:=[.agg #[],.bool (mget m k).isSome]) rfl (fun i t u hi hu=> ?_),hR⟩
 ·rcases ab2 hk k m es.toList 0 g3 with ⟨q1,q2,_⟩ | ⟨v,j,e,q1,q2,_⟩
  ·simp [execOp,hv,hv2,Instr.lookup,run_underlying ht.h,Go.MapKept.run_getObj_map g2,Go.MapKept.run_checkKey hkt.h (hk.key k),Go.MapKept.run_findKey hkt.h q2,K8 (t:=vt),q1,hz,Result.andThen]
  ·simp [execOp,hv,hv2,Instr.lookup,run_underlying ht.h,Go.MapKept.run_getObj_map g2,Go.MapKept.run_checkKey hkt.h (hk.key k),Go.MapKept.run_findKey hkt.h q2,q1,noV,Result.andThen]
 ·match i with
  | 0=>cases hi; cases hu; exact RelT.agg' (vs:=[]) rfl (fun i c v hc=>by simp at hc)
  | 1=>cases hi; cases hu; exact .bool _
  | i+2=>simp at hi
theorem agg0_inv{w:World}{φ:Phi}{σ:b8}{A:Nat→Prop}{u:Value}(h:RelT w φ σ A (.agg []) u):u=.agg #[]:=by
 cases h with | agg us hr=>simp
theorem W.mapUpdateU{K:Type}[DecidableEq K]{fk:K→Value}{d:TypeDesc}{x y v:Operand}{t kt vt:TypeId}{id:Id}{m:List (K × Unit)}{k:K}[ht:TyD P t (.map kt vt)][hkt:TyD P kt d](hk:KeyT d fk)
  (hx:ev env x=some (.c (.map id))) (hy:ev env y=some (.c (.imm (.val (fk k))))) (hv:ev env v=some (.agg [])) (hσ:σv[id]? =some (some (mapB fk noV m))) (hσ':σv.put id (some (mapB fk noV (mset m k ())))=σ')
  (h:AOps P σ0 sz ops Q rest (St.mk env σ')):AOps P σ0 sz ops Q (⟨none,.mapUpdate t x y v,ty,pos,after,none⟩::rest) (St.mk env σv):=by
 subst hσ'
 refine .skipW rfl rfl _ (fun Γ φ ac w hR=> ?_) h
 obtain ⟨b,base,hp,e1⟩:=af4 (i5 hR hx) hσ
 obtain ⟨e2,_⟩:=D5 (i5 hR hy)
 have e3:=agg0_inv (i5 hR hv)
 obtain ⟨b',o,_,g1,g2,⟨es,c,rfl,g3⟩,_⟩:=hR.st.blk _ _ hσ
 rw [hp] at g1; cases g1
 rcases ab2 hk k m es.toList 0 g3 with ⟨q1,q2,q3⟩ | ⟨v0,j,e,q1,q2,q3,q4,q5⟩
 ·have hW:=Rs.writeO (q1:=mapP fk noV (mset m k ())) (o1:=.map (es.push {key:=fk k,val:=.agg #[],born:=c}) (c+1)) hR.toRs hσ hp g2 ⟨_,_,rfl,by rw [Array.toList_push]; exact q3 () c⟩
  refine ⟨_,φ, ?_,hR.of hW.1 hW.2⟩
  simp [execOp,e1,e2,e3,Instr.mapUpdate,run_underlying ht.h,Go.MapKept.run_getObj_map g2,Go.MapKept.run_checkKey hkt.h (hk.key k),Go.MapKept.run_findKey hkt.h q2,Go.MapKept.run_setObj_map _ g2,Result.andThen]
 ·have hj:es[j]? =some e:=by simpa using q3
  have hW:=Rs.writeO (q1:=mapP fk noV (mset m k ())) (o1:=.map (es.modify j fun e=>{e with key:=fk k,val:=.agg #[]}) c) hR.toRs hσ hp g2 ⟨_,_,rfl,by rw [Array.toList_modify]; exact q5 ()⟩
  refine ⟨_,φ, ?_,hR.of hW.1 hW.2⟩
  simp [execOp,e1,e2,e3,Instr.mapUpdate,run_underlying ht.h,Go.MapKept.run_getObj_map g2,Go.MapKept.run_checkKey hkt.h (hk.key k),Go.MapKept.run_findKey hkt.h q2,hj,q4,Go.MapKept.run_keyThatStays (hk.key k),Go.MapKept.run_setObj_map _ g2,Result.andThen]
theorem W.insertU{K:Type}[DecidableEq K]{fk:K→Value}{d:TypeDesc}{x y v:Operand}{t kt vt:TypeId}{id:Id}{m:List (K × Unit)}{k:K}[ht:TyD P t (.map kt vt)][hkt:TyD P kt d](hk:KeyT d fk)
  (hx:ev env x=some (.c (.map id))) (hy:ev env y=some (.c (.imm (.val (fk k))))) (hv:ev env v=some (.agg [])) (hσ:σv[id]? =some (some (mapB fk noV m))) (hσ':σv.put id (some (mapB fk noV (mset m k ())))=σ')
  (h:AOps P σ0 sz ops Q rest (St.mk env σ')):AOps P σ0 sz ops Q (⟨none,.insert t x y v,ty,pos,after,none⟩::rest) (St.mk env σv):=by
 subst hσ'
 refine .skipW rfl rfl _ (fun Γ φ ac w hR=> ?_) h
 obtain ⟨b,base,hp,e1⟩:=af4 (i5 hR hx) hσ
 obtain ⟨e2,_⟩:=D5 (i5 hR hy)
 have e3:=agg0_inv (i5 hR hv)
 obtain ⟨b',o,_,g1,g2,⟨es,c,rfl,g3⟩,_⟩:=hR.st.blk _ _ hσ
 rw [hp] at g1; cases g1
 rcases ab2 hk k m es.toList 0 g3 with ⟨q1,q2,q3⟩ | ⟨v0,j,e,q1,q2,q3,q4,q5⟩
 ·have hW:=Rs.writeO (q1:=mapP fk noV (mset m k ())) (o1:=.map (es.push {key:=fk k,val:=.agg #[],born:=c}) (c+1)) hR.toRs hσ hp g2 ⟨_,_,rfl,by rw [Array.toList_push]; exact q3 () c⟩
  refine ⟨_,φ, ?_,hR.of hW.1 hW.2⟩
  simp [execOp,e1,e2,e3,Instr.mapUpdate,run_underlying ht.h,Go.MapKept.run_getObj_map g2,Go.MapKept.run_checkKey hkt.h (hk.key k),Go.MapKept.run_findKey hkt.h q2,Go.MapKept.run_setObj_map _ g2,Result.andThen]
 ·have hj:es[j]? =some e:=by simpa using q3
  have hW:=Rs.writeO (q1:=mapP fk noV (mset m k ())) (o1:=.map (es.modify j fun e=>{e with key:=fk k,val:=.agg #[]}) c) hR.toRs hσ hp g2 ⟨_,_,rfl,by rw [Array.toList_modify]; exact q5 ()⟩
  refine ⟨_,φ, ?_,hR.of hW.1 hW.2⟩
  simp [execOp,e1,e2,e3,Instr.mapUpdate,run_underlying ht.h,Go.MapKept.run_getObj_map g2,Go.MapKept.run_checkKey hkt.h (hk.key k),Go.MapKept.run_findKey hkt.h q2,hj,q4,Go.MapKept.run_keyThatStays (hk.key k),Go.MapKept.run_setObj_map _ g2,Result.andThen]
end
/-! ### A struct without fields -/
theorem S.build0{P:Program}{σ0:b8}{sz:Nat}{Q:Post}{env:Env}{σv:b8}{ops:Array Oper}{rest:List Oper}{dst:Option Nat}{ty:TypeId}{pos:String}{after:Array Edge}{t:TypeId}{fs:Array Field}{size bytes:Nat}{z:Value}[ht:TyD P t (.struct fs)][hs:TyS P t size bytes z](hf:fs=#[])(hz:z=.agg #[])(hd:f7 sz dst=true)
  (h:AOps P σ0 sz ops Q rest (St.mk (putE env dst (.agg [])) σv)):AOps P σ0 sz ops Q (⟨dst,.build t #[],ty,pos,after,none⟩::rest) (St.mk env σv):=
 .value rfl hd _ (fun Γ φ a w hR=>by
  subst hf hz
  refine ⟨.agg #[], ?_,RelT.agg' (vs:=[]) rfl (fun i c v hc=>by simp at hc)⟩
  simp [execOp,Instr.build,K8 (t:=t),run_underlying ht.h,Value.cells,Instr.fill]) h
theorem S.store0{P:Program}{σ0:b8}{sz:Nat}{Q:Post}{env:Env}{σv:b8}{ops:Array Oper}{rest:List Oper}{ty:TypeId}{pos:String}{after:Array Edge}{x y:Operand}{t:TypeId}{fs:Array Field}{bytes k j o:Nat}{id:Id}{es:List (List C)}{z:Value}[ht:TyD P t (.struct fs)][hs:TyS P t 0 bytes z](hx:ev env x=some (.c (.ptr id j o)))(hy:ev env y=some (.agg []))(hσ:σv[id]? =some (some (.cells k es)))
  (h:AOps P σ0 sz ops Q rest (St.mk env σv)):AOps P σ0 sz ops Q (⟨none,.store t x y,ty,pos,after,none⟩::rest) (St.mk env σv):=
 .skipW rfl rfl σv (fun Γ φ a w hR=>by
  obtain ⟨hid,b,base,hp,hv⟩:=ac0 (i5 hR hx) hσ
  have hv2:=agg0_inv (i5 hR hy)
  refine ⟨w,φ, ?_,hR⟩
  simp [execOp,hv,hv2,Instr.storeAt,Instr.sureAddr,storeVar,Value.cells,storeCells,o7 (t:=t)]) h
/-! ### Contracts with two kinds of ends -/
theorem FnOk.alt1{A B:Type}{P:Program}{f:FuncId}{args:List T}{σ:b8}{Q1:A→T→b8→Prop}{Q2:B→T→b8→Prop}{v:A}(h:FnOk P f args σ fun tt ss=>(∃ w,(Sum.inl v:A ⊕ B)=.inl w∧Q1 w tt ss)∨∃ w,(Sum.inl v:A ⊕ B)=.inr w∧Q2 w tt ss):FnOk P f args σ (Q1 v):=
 h.mono fun r s hq=>by
  rcases hq with ⟨w,e,hq⟩ | ⟨w,e,_⟩
  ·cases e; exact hq
  ·cases e
theorem FnOk.alt2{A B:Type}{P:Program}{f:FuncId}{args:List T}{σ:b8}{Q1:A→T→b8→Prop}{Q2:B→T→b8→Prop}{v:B}(h:FnOk P f args σ fun tt ss=>(∃ w,(Sum.inr v:A ⊕ B)=.inl w∧Q1 w tt ss)∨∃ w,(Sum.inr v:A ⊕ B)=.inr w∧Q2 w tt ss):FnOk P f args σ (Q2 v):=
 h.mono fun r s hq=>by
  rcases hq with ⟨w,e,_⟩ | ⟨w,e,hq⟩
  ·cases e
  ·cases e; exact hq
end Ab
end
section
namespace Ab
open Go
section
variable {α:Type}
def pool(size:Nat)(f:α→List I)(E:List α):Ent:=.node none (E.map fun e=>.one (vec size f [e]))
def prow(r:Nat)(l:List Int):Blk:=.cells 1 (l.map fun i=>[.ptr (r,[i.toNat]) 0 0])
def O4{K:Type}(fk:K→Value)(ks:List K):Obj→List Value→Prop:=fun o us=>∃ es c,o=.map es c∧es.toList.map (·.key)=ks.map fk∧es.toList.map (·.val)=us
def mapCB{K V:Type}(fk:K→Value)(fc:V→C)(m:List (K × V)):Blk:=.obj (O4 fk (m.map (·.1))) (m.map fun p=>fc p.2)
def O1(r:Nat)(i:Int):C:=.ptr (r,[i.toNat]) 0 0
def pmap{K:Type}(r:Nat)(fk:K→Value)(m:List (K × Int)):Blk:=mapCB fk (O1 r) m
def ptrO(r:Nat):Option Int→C
 | some i=>O1 r i
 | none=>.imm (.val (.pointer none))
theorem am8{r:Nat}{o:Option Int}{i:Int}(h:o=some i):some (T.c (ptrO r o))=some (T.c (.ptr (r,[i.toNat]) 0 0)):=by rw [h]; rfl
theorem T9{size:Nat}{f:α→List I}{E:List α}{p:List Nat}{b:Blk}(h:(pool size f E).sub p=some b):∃ i e,p=[i]∧E[i]? =some e∧b=vec size f [e]:=by
 cases p with
 | nil=>cases h
 | cons i q=>
  simp only [pool,Ent.sub,List.getElem?_map] at h
  cases hi:E[i]? with
  | none=>simp [hi] at h
  | some e=>
   rw [hi] at h
   cases q with
   | nil=>simp only [Option.map_some,Ent.sub,Option.some.injEq] at h; exact ⟨i,e,rfl,hi,h.symm⟩
   | cons=>simp [Ent.sub] at h
theorem ap8{size:Nat}{f:α→List I}{E:List α}{i:Nat}{e:α}(h:E[i]? =some e):(pool size f E).sub [i]=some (vec size f [e]):=by
 simp [pool,Ent.sub,h]
theorem n9{σ:b8}{r size:Nat}{f:α→List I}{E:List α}{i:Int}{e:α}(h:σ[r]? =some (pool size f E))(he:ix E i=some e):σ[((r,[i.toNat]):Id)]? =some (some (.cells size [(f e).map .imm])):=by
 rw [n5 h,ap8 (O3 he).2]; rfl
theorem l7{size n:Nat}{f:α→List I}{E:List α}:∀ q b,(pool size f E).sub q=some b→b.ok n=true:=fun q b h=>by
 obtain ⟨i,e,_,_,rfl⟩:=T9 h; exact D9
theorem pool_no{size:Nat}{f:α→List I}{E:List α}{id:Id}:∀ q b,(pool size f E).sub q=some b→b.no id=true:=fun q b h=>by
 obtain ⟨i,e,_,_,rfl⟩:=T9 h; exact Blk.im_no _ _ _
theorem pool_fwd{size:Nat}{f:α→List I}{E:List α}{π:Id→Id}:∀ p b,(pool size f E).sub p=some b→(pool size f E).sub p=some (b.ren π):=fun p b h=>by
 obtain ⟨i,e,rfl,_,rfl⟩:=T9 h; rw [h,B5]
theorem pool_bwd{size:Nat}{f:α→List I}{E:List α}{π:Id→Id}:∀ p b,(pool size f E).sub p=some b→∃ b0,(pool size f E).sub p=some b0∧b=b0.ren π:=fun p b h=>by
 obtain ⟨i,e,rfl,_,rfl⟩:=T9 h; exact ⟨_,h,B5.symm⟩
theorem RenE.pool{size r r':Nat}{f:α→List I}{E:List α}{π:Id→Id}:RenE π r (Ab.pool size f E) r' (Ab.pool size f E):=.any pool_fwd pool_bwd
theorem r9.pool{size r m a:Nat}{f:α→List I}{E:List α}{n:Id}{σ:b8}(hσ:σ[r]? =some (Ab.pool size f E)):r9 (a,[]) n σ m r (Ab.pool size f E):=by
 show ∀ (p:List Nat) (b:Blk),(Ab.pool size f E).sub p=some b→_
 intro p b hb
 obtain ⟨i,e,rfl,_,rfl⟩:=T9 hb
 have hm:mv (a,[]) n (r,[i])=(r,[i]):=by
  have:((r,[i]):Id) ≠ (a,[]):=fun e=>by cases e
  simp [mv,A4 this]
 rw [hm,n5 hσ,hb]
 exact ⟨D9,by rw [B5]⟩
theorem r9.poolR{size r m a q:Nat}{f:α→List I}{E:List α}{n:Id}{σ:b8}(h:Nat.beq a r=false)(hσ:σ[r]? =some (Ab.pool size f E)):r9 (a,[q]) n σ m r (Ab.pool size f E):=by
 show ∀ (p:List Nat) (b:Blk),(Ab.pool size f E).sub p=some b→_
 intro p b hb
 obtain ⟨i,e,rfl,_,rfl⟩:=T9 hb
 have hm:mv (a,[q]) n (r,[i])=(r,[i]):=by
  have:((r,[i]):Id) ≠ (a,[q]):=fun e=>by cases e; simp at h
  simp [mv,A4 this]
 rw [hm,n5 hσ,hb]
 exact ⟨D9,by rw [B5]⟩
theorem EntR.pool{size r n m i j:Nat}{f:α→List I}{E:List α}{σ:b8}(hj:(mvr r n (i,[])).1=j)(hσ:σ[j]? =some (Ab.pool size f E)):EntR r n σ m i (Ab.pool size f E):=.any fun p b hb=>by
 have e:∀ q,mvr r n (i,q)=(j,q):=fun q=>by rw [← hj]; rfl
 obtain ⟨k,e0,rfl,_,rfl⟩:=T9 hb
 rw [e,n5 hσ,hb]
 exact ⟨D9,by rw [B5]⟩
theorem FrzB.pool{size:Nat}{f:α→List I}{E:List α}{id:Id}{X:C→C→Prop}:FrzB id X (Ab.pool size f E) (Ab.pool size f E):=by
 show _=_∧_
 exact ⟨rfl,fun p b h=>pool_no p b h⟩
/-! ### Rows and maps of pointers among other blocks -/
theorem i6{r n:Nat}{l:List Int}(h:Nat.blt r n=true):(prow r l).ok n=true:=by
 simp only [prow,Blk.ok,List.all_map,List.all_eq_true]
 intro i _
 simp [C.okL,C.ok] at h ⊢
 exact h
theorem prow_no{r a:Nat}{l:List Int}:(prow r l).no (a,[])=true:=by
 simp only [prow,Blk.no,List.all_map,List.all_eq_true]
 intro i _
 have:idb ((r,[i.toNat]):Id) (a,[])=false:=A4 (fun e=>by cases e)
 simp [C.noL,C.no,this]
theorem prow_noR{r a p:Nat}{l:List Int}(h:Nat.beq a r=false):(prow r l).no (a,[p])=true:=by
 simp only [prow,Blk.no,List.all_map,List.all_eq_true]
 intro i _
 have:idb ((r,[i.toNat]):Id) (a,[p])=false:=A4 (fun e=>by cases e; simp at h)
 simp [C.noL,C.no,this]
theorem i4{r r':Nat}{l:List Int}{π:Id→Id}(h:∀ q,π (r,q)=(r',q)):(prow r l).ren π=prow r' l:=by
 simp [prow,Blk.ren,C.renL,C.ren,h]
theorem K3{r:Nat}{l:List Int}{a:Nat}{n:Id}:(prow r l).ren (mv (a,[]) n)=prow r l:=Blk.ren_no _ prow_no
theorem prow_mvR{r a q:Nat}{l:List Int}{n:Id}(h:Nat.beq a r=false):(prow r l).ren (mv (a,[q]) n)=prow r l:=Blk.ren_no _ (prow_noR h)
theorem w9{i n:Id}{id:Id}{b:Blk}{σ:b8}(h:σ[i]? =some (some b))(e:b.ren (mv id n)=b):σ[i]? =some (some (b.ren (mv id n))):=by rw [e]; exact h
theorem F0{r n i:Nat}{b b':Blk}{σ:b8}{j:Id}(hj:mvr r n (i,[])=j)(h:σ[j]? =some (some b'))(e:b.ren (mvr r n)=b'):σ[mvr r n (i,[])]? =some (some (b.ren (mvr r n))):=by rw [hj,e]; exact h
theorem renL_map{r r':Nat}{K:Type}{m:List (K × Int)}{π:Id→Id}(h:∀ q,π (r,q)=(r',q)):C.renL π (m.map fun p=>O1 r p.2)=m.map fun p=>O1 r' p.2:=by
 induction m with
 | nil=>rfl
 | cons p m ih=>
  have e:C.ren π (O1 r p.2)=O1 r' p.2:=by simp [O1,C.ren,h]
  simp only [List.map_cons,C.renL,ih,e]
section
variable {K:Type} {fk:K→Value} {r:Nat} {m:List (K × Int)}
theorem j8{n:Nat}(h:Nat.blt r n=true):(pmap r fk m).ok n=true:=by
 simp only [pmap,mapCB,Blk.ok]
 rw [G7,List.all_map,List.all_eq_true]
 intro p _
 simpa [O1,C.ok] using h
theorem pmap_no{a:Nat}:(pmap r fk m).no (a,[])=true:=by
 simp only [pmap,mapCB,Blk.no]
 rw [noL_eq,List.all_map,List.all_eq_true]
 intro p _
 have:idb ((r,[p.2.toNat]):Id) (a,[])=false:=A4 (fun e=>by cases e)
 simp [O1,C.no,this]
theorem pmap_noR{a q:Nat}(h:Nat.beq a r=false):(pmap r fk m).no (a,[q])=true:=by
 simp only [pmap,mapCB,Blk.no]
 rw [noL_eq,List.all_map,List.all_eq_true]
 intro p _
 have:idb ((r,[p.2.toNat]):Id) (a,[q])=false:=A4 (fun e=>by cases e; simp at h)
 simp [O1,C.no,this]
theorem k8{r':Nat}{π:Id→Id}(h:∀ q,π (r,q)=(r',q)):(pmap r fk m).ren π=pmap r' fk m:=by
 simp only [pmap,mapCB,Blk.ren,renL_map h]
theorem K1{a:Nat}{n:Id}:(pmap r fk m).ren (mv (a,[]) n)=pmap r fk m:=Blk.ren_no _ pmap_no
theorem pmap_mvR{a q:Nat}{n:Id}(h:Nat.beq a r=false):(pmap r fk m).ren (mv (a,[q]) n)=pmap r fk m:=Blk.ren_no _ (pmap_noR h)
end
theorem FrzB.prow{r a:Nat}{l:List Int}{X:C→C→Prop}:FrzB (a,[]) X (.one (Ab.prow r l)) (.one (Ab.prow r l)):=by
 have h:=prow_no (r:=r) (a:=a) (l:=l)
 unfold FrzB
 split
 ·rename_i h1 _; cases h1
 ·rename_i k1 e k2 e' h1 h2
  simp only [Ab.prow,Ent.one.injEq,Blk.cells.injEq] at h1 h2
  obtain ⟨rfl,h1⟩:=h1
  obtain ⟨rfl,h2⟩:=h2
  have:e=e':=by rw [h1] at h2; simpa using h2
  subst this
  refine ⟨rfl, ?_⟩
  obtain ⟨i,rfl⟩:∃ i,l=[i]:=by
   cases l with
   | nil=>simp at h1
   | cons i l=>cases l with
    | nil=>exact ⟨i,rfl⟩
    | cons b l=>simp at h1
  simp only [List.map_cons,List.map_nil,List.cons.injEq,and_true] at h1
  subst h1
  refine ⟨.inl ⟨rfl, ?_⟩,trivial⟩
  have:idb ((r,[i.toNat]):Id) (a,[])=false:=A4 (fun e=>by cases e)
  simp [C.no,this]
 ·rename_i h1 h2
  cases h1; cases h2
  exact ⟨rfl,h⟩
 ·rename_i h1; cases h1
 ·rename_i h1 h2 h3 h4
  first | exact (h3 _ _ rfl rfl).elim | exact (h4 _ _ rfl rfl).elim | exact (h2 _ _ rfl rfl).elim
end
section
variable {P:Program} {σ0:b8} {sz:Nat} {Q:Post} {env env':Env} {σv σ':b8} {ops:Array Oper} {rest:List Oper} {dst:Option Nat} {ty:TypeId} {pos:String} {after:Array Edge}
/-! ### Rows of pointers -/
theorem S.loadP{x:Operand}{t:TypeId}{d:TypeDesc}{h r:Nat}{i a:Int}{l:List Int}[ht:TyD P t d](he:ix l i=some a)(ha:A6 d=false)(hx:ev env x=some (.c (.ptr (h,[]) i.toNat 0)))(hσ:σv[((h,[]):Id)]? =some (some (prow r l)))(hd:f7 sz dst=true)
  (hh:AOps P σ0 sz ops Q rest (St.mk (putE env dst (.c (.ptr (r,[a.toNat]) 0 0))) σv)):AOps P σ0 sz ops Q (⟨dst,.load t x,ty,pos,after,none⟩::rest) (St.mk env σv):=
 .E (e:=[.ptr (r,[a.toNat]) 0 0]) ha hx hσ (by rw [List.getElem?_map,(O3 he).2]; rfl) rfl hd hh
theorem S.storeP{x y:Operand}{t:TypeId}{bytes h r:Nat}{z:Value}{i:Nat}{a:Int}{l:List Int}[hs:TyS P t 1 bytes z](hi:i<l.length)(hx:ev env x=some (.c (.ptr (h,[]) i 0)))(hy:ev env y=some (.c (.ptr (r,[a.toNat]) 0 0)))
  (hσ:σv[((h,[]):Id)]? =some (some (prow r l))) (hσ':putF σv (h,[]) (some (prow r (l.set i a)))=some σ') (hh:AOps P σ0 sz ops Q rest (St.mk env σ')):AOps P σ0 sz ops Q (⟨none,.store t x y,ty,pos,after,none⟩::rest) (St.mk env σv):=by
 have h2:=u3 hσ'
 subst h2
 refine AOps.store hx hy hσ (by rw [List.getElem?_map,List.getElem?_eq_getElem hi]; rfl) (by simp) ?_
 have e:(l.map fun i=>[C.ptr (r,[i.toNat]) 0 0]).set i [.ptr (r,[a.toNat]) 0 0]=(l.set i a).map fun i=>[C.ptr (r,[i.toNat]) 0 0]:=by rw [List.map_set]
 simp only [List.set_cons_zero]
 rw [e]
 exact hh
theorem S.appendP{x y:Operand}{t e:TypeId}{bytes m k h s r:Nat}{n:Id}{z:Value}{l new l':List Int}{σ1:b8}[ht:TyD P t (.slice e)][hs:TyS P e 1 bytes z]
  (ha:app bytes l new=some l') (hzk:(z.cells.size==1)=true) (hbp:Nat.blt 0 bytes=true) (hx:ev env x=some (.c (.own (h,[]) 0 m))) (hm:m=l.length) (hσ:σv[((h,[]):Id)]? =some (some (prow r l)))
  (hy:ev env y=some (.c (.own (s,[]) 0 k))) (hk:k=new.length) (hs':σv[((s,[]):Id)]? =some (some (prow r new))) (hn:newF σv=some n) (h1:putF σv (h,[]) none=some σ1) (hσ':o8 σ1 (.one (prow r l'))=some σ') (hd:f7 sz dst=true)
  (hh:AOps P σ0 sz ops Q rest (St.mk (putE env dst (.c (.own n 0 l'.length))) σ')):AOps P σ0 sz ops Q (⟨dst,.call ⟨.builtin .append,#[x,y],#[t,t]⟩,ty,pos,after,none⟩::rest) (St.mk env σv):=by
 obtain ⟨hb,rfl⟩:=aj4 ha
 have h2:=u3 h1
 have h3:=u6 hn; have h4:=n3 hσ'
 subst hm hk h2 h3 h4
 have hsrc:=Src.own (σ:=σv) (j:=0) (n:=new.length) hs'
 refine AOps.append hzk hbp hx hσ hy hsrc ?_ hd ?_
 ·rw [List.drop_zero,List.take_of_length_le (by simp)]; simpa using hb
 ·have e1:(((l.map fun i=>[C.ptr (r,[i.toNat]) 0 0]).drop 0).take l.length)++(((new.map fun i=>[C.ptr (r,[i.toNat]) 0 0]).drop 0).take new.length)=(l++new).map fun i=>[C.ptr (r,[i.toNat]) 0 0]:=by
   rw [List.drop_zero,List.drop_zero,List.take_of_length_le (by simp),List.take_of_length_le (by simp)]; simp
  have e2:l.length+((((new.map fun i=>[C.ptr (r,[i.toNat]) 0 0]).drop 0).take new.length)).length=(l++new).length:=by simp
  rw [e1,e2]
  exact hh
theorem S.shrinkP{x y:Operand}{t e:TypeId}{bytes n h r:Nat}{z:Value}{kk:IntKind}{hi:Int}{l l':List Int}[ht:TyD P t (.slice e)][hs:TyS P e 1 bytes z]
  (hl:subL l 0 hi=some l') (hx:ev env x=some (.c (.own (h,[]) 0 n))) (hn:n=l.length) (hσ:σv[((h,[]):Id)]? =some (some (prow r l))) (hy:ev env y=some (.c (.imm (.val (.int kk hi))))) (hd:f7 sz dst=true)
  (hh:AOps P σ0 sz ops Q rest (St.mk (putE env dst (.c (.own (h,[]) 0 l'.length))) σv)):AOps P σ0 sz ops Q (⟨dst,.slice t x none (some y) none,ty,pos,after,none⟩::rest) (St.mk env σv):=by
 unfold subL at hl
 split at hl
 ·rename_i hc
  cases hl
  have e1:hi=((hi.toNat:Nat):Int):=by omega
  rw [e1] at hy
  refine AOps.sliceOwnTo hx hσ hy (by omega) hd ?_
  rw [show (List.drop (Int.toNat 0) (List.take hi.toNat l)).length=hi.toNat by simp; omega] at hh
  exact hh
 ·cases hl
/-! ### Entries -/
theorem setF_at{σ σ':b8}{n:Nat}{e e':Ent}(h:σ[n]? =some e)(h':setF σ n e'=some σ')(i:Id):σ'[i]? =if i.1=n then some (e'.sub i.2) else σ[i]? :=by
 obtain ⟨rfl,_⟩:=H7 h'
 exact set_ent h i
theorem S.storeE{α:Type}{size bytes o r:Nat}{f:α→List I}{E:List α}{i:Int}{e e':α}{c:I}{x y:Operand}{t:TypeId}{z:Value}[hs:TyS P t 1 bytes z](he:ix E i=some e)(hl:Nat.blt o (f e).length=true)(hf:(f e).set o c=f e')(hx:ev env x=some (.c (.ptr (r,[i.toNat]) 0 o)))(hy:ev env y=some (.c (.imm c)))
  (hσ:σv[r]? =some (pool size f E)) (hσ':setF σv r (pool size f (E.set i.toNat e'))=some σ') (hh:AOps P σ0 sz ops Q rest (St.mk env σ')):AOps P σ0 sz ops Q (⟨none,.store t x y,ty,pos,after,none⟩::rest) (St.mk env σv):=by
 have hlt:=h9 he
 have hlo:o<((f e).map C.imm).length:=by rw [List.length_map]; exact Nat.le_of_ble_eq_true hl
 refine AOps.store hx hy (n9 hσ he) rfl hlo ?_
 have e1:([(f e).map C.imm].set 0 (((f e).map C.imm).set o (.imm c)))=[(f e').map C.imm]:=by
  rw [← hf,List.map_set]; rfl
 rw [e1]
 have h2:=(H7 hσ').1
 refine AOps.sub (Sub.same (by rw [h2]; simp) fun j=> ?_) hh
 rw [setF_at hσ hσ']
 have hb:σv[((r,[i.toNat]):Id)]? =some (some (.cells size [(f e).map .imm])):=n9 hσ he
 by_cases hj:j=(r,[i.toNat])
 ·subst hj
  rw [b8.get_put_eq hb,if_pos rfl,ap8 (e:=e') (by simp [hlt])]
  rfl
 ·rw [b8.get_put_ne hj]
  by_cases hr:j.1=r
  ·obtain ⟨j1,q⟩:=j
   simp only at hr
   subst hr
   rw [if_pos rfl,n5 hσ]
   congr 1
   cases q with
   | nil=>rfl
   | cons a q=>
    simp only [pool,Ent.sub,List.getElem?_map,List.getElem?_set]
    by_cases ha:i.toNat=a
    ·subst ha
     cases q with
     | nil=>exact absurd rfl hj
     | cons b q=>
      rw [if_pos rfl,if_pos hlt,(O3 he).2]
      rfl
    ·rw [if_neg ha]
  ·rw [if_neg hr]
def chkH(n:Nat)(l:List Int):Option Unit:=if ∀ i ∈ l,i.toNat<n then some () else none
theorem chkH_get{n:Nat}{l:List Int}{u:Unit}(h:chkH n l=some u):∀ i ∈ l,i.toNat<n:=by
 unfold chkH at h
 split at h
 ·assumption
 ·cases h
theorem r9.adopt{α:Type}{size r m n:Nat}{f:α→List I}{E:List α}{e:α}{σ:b8}(hσ:σ[r]? =some (Ab.pool size f E))(hn:σ[((n,[]):Id)]? =some (some (vec size f [e]))):r9 (r,[E.length]) (n,[]) σ m r (Ab.pool size f (E++[e])):=by
 show ∀ (p:List Nat) (b:Blk),(Ab.pool size f (E++[e])).sub p=some b→_
 intro p b hb
 obtain ⟨i,e0,rfl,hi,rfl⟩:=T9 hb
 refine ⟨D9, ?_⟩
 rw [B5]
 rw [List.getElem?_append] at hi
 split at hi
 ·rename_i hlt
  have hm:mv (r,[E.length]) (n,[]) (r,[i])=(r,[i]):=by
   have:((r,[i]):Id) ≠ (r,[E.length]):=fun e=>by cases e; omega
   simp [mv,A4 this]
  rw [hm,n5 hσ,ap8 hi]
 ·rename_i hge
  have hi0:i=E.length:=by
   have:=(List.getElem?_eq_some_iff.1 hi).1
   simp at this; omega
  subst hi0
  simp at hi
  subst hi
  have hm:mv (r,[E.length]) (n,[]) (r,[E.length])=(n,[]):=by simp [mv,E9.2 rfl]
  rw [hm,hn]
theorem prow_adopt{r k:Nat}{l:List Int}{n:Id}{u:Unit}(h:chkH k l=some u):(prow r l).ren (mv (r,[k]) n)=prow r l:=by
 refine Blk.ren_no _ ?_
 simp only [prow,Blk.no,List.all_map,List.all_eq_true]
 intro i hi
 have:=chkH_get h i hi
 have:idb ((r,[i.toNat]):Id) (r,[k])=false:=A4 (fun e=>by cases e; omega)
 simp [C.noL,C.no,this]
theorem pmap_adopt{K:Type}{fk:K→Value}{r k:Nat}{m:List (K × Int)}{n:Id}{u:Unit}(h:chkH k (m.map (·.2))=some u):(pmap r fk m).ren (mv (r,[k]) n)=pmap r fk m:=by
 refine Blk.ren_no _ ?_
 simp only [pmap,mapCB,Blk.no]
 rw [noL_eq,List.all_map,List.all_eq_true]
 intro p hp
 have:=chkH_get h p.2 (List.mem_map.2 ⟨p,hp,rfl⟩)
 have:idb ((r,[p.2.toNat]):Id) (r,[k])=false:=A4 (fun e=>by cases e; omega)
 simp [O1,C.no,this]
theorem ptr_adopt{r n:Nat}{k:Nat}:some (T.c (.ptr (n,[]) 0 0))=some (T.ren (mv (r,[k]) (n,[])) (.c (.ptr (r,[((k:Int)).toNat]) 0 0))):=by
 simp [T.ren,C.ren,mv,E9.2 rfl]
theorem ab9{i id n:Id}{b:Blk}{σ:b8}(h:σ[i]? =some (some b))(e:b.ren (mv id n)=b)(hm:mv id n i=i):σ[mv id n i]? =some (some (b.ren (mv id n))):=by rw [hm,e]; exact h
theorem af2{r k a:Nat}{n:Id}:mv (r,[k]) n (a,[])=(a,[]):=by
 have:((a,[]):Id) ≠ (r,[k]):=fun e=>by cases e
 simp [mv,A4 this]
theorem Sub.newPool{α:Type}{size:Nat}{f:α→List I}(hσ:o8 σv (pool size f ([]:List α))=some σ'):Sub σ0 ⟨env,σv⟩ ⟨env,σ'⟩:=by
 have h:=n3 hσ
 subst h
 intro Γ sz φ a w hΓ hR
 have hV:=hR.toRs.virt 1
 have hK:=hV.2.kill (σv.length,[])
 refine (Sub.same (σ0:=σ0) (env:=env) (σ1:=b8.put (σv++[Ent.one (Blk.cells 1 [])]) (σv.length,[]) none) (by simp) fun i=> ?_) Γ sz _ a w hΓ ((hR.of hV.1 hV.2).of hK.1 hK.2)
 by_cases hi:i=(σv.length,[])
 ·subst hi
  have e0:(σv++[Ent.one (Blk.cells 1 [])])[((σv.length,[]):Id)]? =some (some (Blk.cells 1 [])):=by
   rw [b8.get_right (by simp)]; simp [b8.at_eq,b8.at,Ent.sub]
  rw [b8.get_put_eq e0,b8.get_right (by simp)]
  simp [b8.at_eq,b8.at,pool,Ent.sub]
 ·rw [b8.get_put_ne hi]
  rcases Nat.lt_or_ge i.1 σv.length with hl | hl
  ·rw [b8.get_left hl,b8.get_left hl]
  ·rw [b8.get_right hl,b8.get_right hl]
   obtain ⟨i1,q⟩:=i
   rw [b8.at_eq,b8.at_eq]
   simp only [b8.at]
   cases hk:i1 - σv.length with
   | zero=>
    cases q with
    | nil=>exact absurd (by simp at hl; congr 1; omega) hi
    | cons a q=>simp [pool,Ent.sub]
   | succ m=>rfl
/-! ### Maps of pointers -/
section
variable {K:Type} [DecidableEq K] {V:Type} {fk:K→Value} {d:TypeDesc}
def mdel:List (K × V)→K→List (K × V)
 | [],_=>[]
 | p::r,k=>if k=p.1 then r else p::mdel r k
theorem an0(hk:KeyT d fk)(k:K):∀ (m:List (K × V)) (l:List MapEntry) (i:Nat),l.map (·.key)=(m.map (·.1)).map fk→
  (mget m k=none∧Instr.findNow d (fk k) l i=some none∧(∀ v,mset m k v=m++[(k,v)])∧mdel m k=m)∨
  ∃ j p e,m[j]? =some p∧mget m k=some p.2∧l[j]? =some e∧e.key=fk k∧Instr.findNow d (fk k) l i=some (some (i+j,e.val))∧(∀ v,mset m k v=m.set j (k,v))∧mdel m k=m.eraseIdx j
 | [],[],i,_=>.inl ⟨rfl,rfl,fun v=>rfl,rfl⟩
 | [],_::_,i,h=>by simp at h
 | _::_,[],i,h=>by simp at h
 | p::m,e::l,i,h=>by
  simp only [List.map_cons,List.cons.injEq] at h
  obtain ⟨h1,h3⟩:=h
  obtain ⟨r,hr,hiff⟩:∃ r,Instr.sameNow d (fk k) e.key=some r∧(r=true↔fk k=e.key):=Go.MapKept.sameNow_of_keys (hk.key k) (by rw [h1]; exact hk.key p.1)
  by_cases c:k=p.1
  ·have:r=true:=hiff.2 (by rw [h1,c])
   subst this
   exact .inr ⟨0,p,e,rfl,by simp [mget,c],rfl,by rw [h1,c],by simp [Instr.findNow,hr],fun v=>by simp [mset,c],by simp [mdel,c]⟩
  ·have:r=false:=by
    cases r with
    | false=>rfl
    | true=>exact absurd (hk.inj ((hiff.1 rfl).trans h1)) c
   subst this
   rcases an0 hk k m l (i+1) h3 with ⟨g1,g2,g3,g4⟩ | ⟨j,p',e',g1,g2,g3,g4,g5,g6,g7⟩
   ·exact .inl ⟨by simp [mget,c,g1],by simp [Instr.findNow,hr,g2],fun v=>by simp [mset,c,g3],by simp [mdel,c,g4]⟩
   ·exact .inr ⟨j+1,p',e',by simpa using g1,by simp [mget,c,g2],by simpa using g3,g4,by simp [Instr.findNow,hr,g5]; omega,fun v=>by simp [mset,c,g6],by simp [mdel,c,g7]⟩
theorem ak8{w:World}{φ:Phi}{σ:b8}{A:Nat→Prop}{id:Id}{p:Obj→List Value→Prop}{cs:List C}{u:Value}(h:RelT w φ σ A (.c (.map id)) u)(hσ:σ[id]? =some (some (.obj p cs))):∃ b base,φ id=some (b,base)∧u=.map (some b):=by
 cases h with | c h=>cases h with | map hid h1 h=>exact h _ _ hσ
theorem W.makeMapP{t:TypeId}{id:Id}(r:Nat)(fk:K→Value)(hid:newF σv=some id)(hσ:o8 σv (.one (pmap r fk ([]:List (K × Int))))=some σ')(hd:f7 sz dst=true)
  (h:AOps P σ0 sz ops Q rest (St.mk (putE env dst (.c (.map id))) σ')):AOps P σ0 sz ops Q (⟨dst,.makeMap t none,ty,pos,after,none⟩::rest) (St.mk env σv):=by
 have h2:=u6 hid; have h3:=n3 hσ
 subst h2 h3
 refine .valueW rfl hd _ _ (fun Γ φ a w hR=> ?_) h
 have hA:=Rs.allocB (p0:=O4 fk []) (cs0:=[]) (us0:=[]) (obj:=.map #[] 0) hR.toRs ⟨#[],0,rfl,rfl,rfl⟩ (fun i x hx=>by simp at hx)
 exact ⟨.map (some w.heap.size),w.alloc (.map #[] 0),_,by simp [execOp,Instr.makeMap],.c (.map (by simp) rfl fun p cs hp=>⟨w.heap.size,0,by simp [l9],rfl⟩),hR.of hA.1 hA.2⟩
theorem S.lookupOkP{x y:Operand}{t kt vt:TypeId}{id:Id}{r:Nat}{m:List (K × Int)}{k:K}{size bytes:Nat}{zv:Value}[ht:TyD P t (.map kt vt)][hkt:TyD P kt d][hs:TyS P vt size bytes zv](hk:KeyT d fk)(hz:zv=.pointer none)
  (hx:ev env x=some (.c (.map id))) (hy:ev env y=some (.c (.imm (.val (fk k))))) (hσ:σv[id]? =some (some (pmap r fk m))) (hd:f7 sz dst=true)
  (h:AOps P σ0 sz ops Q rest (St.mk (putE env dst (.tup [.c (ptrO r (mget m k)),.c (bool (mget m k).isSome)])) σv)):AOps P σ0 sz ops Q (⟨dst,.lookup t x y true,ty,pos,after,none⟩::rest) (St.mk env σv):=by
 refine .valueW rfl hd _ _ (fun Γ φ a w hR=> ?_) h
 obtain ⟨b,base,hp,hv⟩:=ak8 (i5 hR hx) hσ
 obtain ⟨hv2,_⟩:=D5 (i5 hR hy)
 obtain ⟨b',o,us,g1,g2,⟨es,c,rfl,g3,g4⟩,g5⟩:=hR.st.blk _ _ hσ
 rw [hp] at g1; cases g1
 rcases an0 hk k m es.toList 0 g3 with ⟨q1,q2,_⟩ | ⟨j,p,e,q0,q1,q3,q4,q2,_⟩
 ·refine ⟨.tuple #[.pointer none,.bool false],w,φ, ?_,RelT.tup' (vs:=[.pointer none,.bool false]) rfl (fun i t u hi hu=> ?_),hR⟩
  ·simp [execOp,hv,hv2,Instr.lookup,run_underlying ht.h,Go.MapKept.run_getObj_map g2,Go.MapKept.run_checkKey hkt.h (hk.key k),Go.MapKept.run_findKey hkt.h q2,K8 (t:=vt),hz,Result.andThen]
  ·match i with
   | 0=>cases hi; cases hu; rw [q1]; exact .c (.imm (.val rfl))
   | 1=>cases hi; cases hu; rw [q1]; exact .bool _
   | i+2=>simp at hi
 ·obtain ⟨u,hu,hru⟩:=g5 j (O1 r p.2) (by rw [List.getElem?_map,q0]; rfl)
  have hue:u=e.val:=by
   rw [← g4,List.getElem?_map,q3] at hu
   simpa using hu.symm
  subst hue
  refine ⟨.tuple #[e.val,.bool true],w,φ, ?_,RelT.tup' (vs:=[e.val,.bool true]) rfl (fun i t u hi hu=> ?_),hR⟩
  ·simp [execOp,hv,hv2,Instr.lookup,run_underlying ht.h,Go.MapKept.run_getObj_map g2,Go.MapKept.run_checkKey hkt.h (hk.key k),Go.MapKept.run_findKey hkt.h q2,Result.andThen]
  ·match i with
   | 0=>cases hi; cases hu; rw [q1]; exact .c hru
   | 1=>cases hi; cases hu; rw [q1]; exact .bool _
   | i+2=>simp at hi
theorem S.mapUpdateP{x y v:Operand}{t kt vt:TypeId}{id:Id}{r:Nat}{m:List (K × Int)}{k:K}{a:Int}[ht:TyD P t (.map kt vt)][hkt:TyD P kt d](hk:KeyT d fk)
  (hx:ev env x=some (.c (.map id))) (hy:ev env y=some (.c (.imm (.val (fk k))))) (hv:ev env v=some (.c (.ptr (r,[a.toNat]) 0 0))) (hσ:σv[id]? =some (some (pmap r fk m))) (hσ':putF σv id (some (pmap r fk (mset m k a)))=some σ')
  (h:AOps P σ0 sz ops Q rest (St.mk env σ')):AOps P σ0 sz ops Q (⟨none,.mapUpdate t x y v,ty,pos,after,none⟩::rest) (St.mk env σv):=by
 have h2:=u3 hσ'
 subst h2
 refine .skipW rfl rfl _ (fun Γ φ ac w hR=> ?_) h
 obtain ⟨b,base,hp,e1⟩:=ak8 (i5 hR hx) hσ
 obtain ⟨e2,_⟩:=D5 (i5 hR hy)
 have hrv:=i5 hR hv
 generalize e3:ac.eval v=u at hrv
 have hru:RelC w φ σv (Al Γ.N φ σv) (O1 r a) u:=by cases hrv with | c h=>exact h
 obtain ⟨b',o,us,g1,g2,⟨es,c,rfl,g3,g4⟩,g5⟩:=hR.st.blk _ _ hσ
 rw [hp] at g1; cases g1
 rcases an0 hk k m es.toList 0 g3 with ⟨q1,q2,q3,_⟩ | ⟨j,p,e,q0,q1,q3,q4,q2,q5,_⟩
 ·have hW:=Rs.writeB (q1:=O4 fk ((mset m k a).map (·.1))) (cs1:=(mset m k a).map fun p=>O1 r p.2) (us1:=us++[u]) (o1:=.map (es.push {key:=fk k,val:=u,born:=c}) (c+1)) hR.toRs hσ hp g2
   ⟨_,_,rfl,by rw [q3]; simp [g3],by simp [g4]⟩ (fun i x hx=>by
    rw [q3,List.map_append,List.getElem?_append] at hx
    split at hx
    ·obtain ⟨u',h1,h2⟩:=g5 i x hx
     exact ⟨u',by rw [List.getElem?_append_left (List.getElem?_eq_some_iff.1 h1).1]; exact h1,h2⟩
    ·rename_i hge
     have hl:us.length=m.length:=by rw [← g4]; have:=congrArg List.length g3; simpa using this
     simp only [List.length_map] at hx hge
     have h0:i=m.length:=by
      have:=(List.getElem?_eq_some_iff.1 hx).1
      simp at this; omega
     subst h0
     simp at hx
     subst hx
     exact ⟨u,by rw [← hl]; simp,hru⟩)
  refine ⟨_,φ, ?_,hR.of hW.1 hW.2⟩
  simp [execOp,e1,e2,e3,Instr.mapUpdate,run_underlying ht.h,Go.MapKept.run_getObj_map g2,Go.MapKept.run_checkKey hkt.h (hk.key k),Go.MapKept.run_findKey hkt.h q2,Go.MapKept.run_setObj_map _ g2,Result.andThen]
 ·have hj:es[j]? =some e:=by simpa using q3
  have hW:=Rs.writeB (q1:=O4 fk ((mset m k a).map (·.1))) (cs1:=(mset m k a).map fun p=>O1 r p.2) (us1:=us.set j u) (o1:=.map (es.modify j fun e=>{e with key:=fk k,val:=u}) c) hR.toRs hσ hp g2
   ⟨_,_,rfl,by
    rw [q5,Array.toList_modify]
    apply List.ext_getElem?
    intro i
    have hg:=congrArg (fun l=>l[i]?) g3
    simp only [List.getElem?_map,List.getElem?_modify,List.getElem?_set] at hg ⊢
    by_cases hi:j=i
    ·subst hi
     have hlt:=(List.getElem?_eq_some_iff.1 q0).1
     simp [q3,hlt]
    ·simpa [hi] using hg,by
    rw [Array.toList_modify]
    apply List.ext_getElem?
    intro i
    have hg:=congrArg (fun l=>l[i]?) g4
    simp only [List.getElem?_map,List.getElem?_modify,List.getElem?_set] at hg ⊢
    by_cases hi:j=i
    ·subst hi
     have hlt:j<us.length:=by rw [← g4]; simpa using (List.getElem?_eq_some_iff.1 q3).1
     simp [q3,hlt]
    ·simpa [hi] using hg⟩ (fun i x hx=>by
    rw [q5,List.getElem?_map,List.getElem?_set] at hx
    by_cases hi:j=i
    ·subst hi
     have hlt:=(List.getElem?_eq_some_iff.1 q0).1
     have hlu:j<us.length:=by rw [← g4]; simpa using (List.getElem?_eq_some_iff.1 q3).1
     simp [hlt] at hx
     subst hx
     exact ⟨u,by simp [hlu],hru⟩
    ·rw [if_neg hi,← List.getElem?_map] at hx
     obtain ⟨u',h1,h2⟩:=g5 i x hx
     exact ⟨u',by rw [List.getElem?_set,if_neg hi]; exact h1,h2⟩)
  refine ⟨_,φ, ?_,hR.of hW.1 hW.2⟩
  simp [execOp,e1,e2,e3,Instr.mapUpdate,run_underlying ht.h,Go.MapKept.run_getObj_map g2,Go.MapKept.run_checkKey hkt.h (hk.key k),Go.MapKept.run_findKey hkt.h q2,hj,q4,Go.MapKept.run_keyThatStays (hk.key k),Go.MapKept.run_setObj_map _ g2,Result.andThen]
theorem ac1{A B:Type}(f:A→B):∀ (l:List A) (j:Nat),(l.map f).eraseIdx j=(l.eraseIdx j).map f
 | [],_=>rfl
 | _::_,0=>rfl
 | a::l,j+1=>by simp [ac1 f l j]
theorem erase_rel{es:Array MapEntry}{us:List Value}{m:List (K × Int)}{r j:Nat}(g3:es.toList.map (·.key)=(m.map (·.1)).map fk)(g4:es.toList.map (·.val)=us):
  (es.eraseIdxIfInBounds j).toList.map (·.key)=((m.eraseIdx j).map (·.1)).map fk∧(es.eraseIdxIfInBounds j).toList.map (·.val)=us.eraseIdx j:=by
 have e0:(es.eraseIdxIfInBounds j).toList=es.toList.eraseIdx j:=by
  unfold Array.eraseIdxIfInBounds
  split
  ·rw [Array.toList_eraseIdx]
  ·rename_i h
   rw [List.eraseIdx_of_length_le (by simpa using h)]
 rw [e0]
 exact ⟨by rw [← ac1,g3,← ac1,← ac1],by rw [← ac1,g4]⟩
theorem S.deleteP{x y:Operand}{t kt kt' vt:TypeId}{id:Id}{r:Nat}{m:List (K × Int)}{k:K}[ht:TyD P t (.map kt vt)][hkt:TyD P kt d](hk:KeyT d fk)
  (hx:ev env x=some (.c (.map id))) (hy:ev env y=some (.c (.imm (.val (fk k))))) (hσ:σv[id]? =some (some (pmap r fk m))) (hd:f7 sz dst=true) (hσ':putF σv id (some (pmap r fk (mdel m k)))=some σ')
  (h:AOps P σ0 sz ops Q rest (St.mk (putE env dst (.tup [])) σ')):AOps P σ0 sz ops Q (⟨dst,.call ⟨.builtin .delete,#[x,y],#[t,kt']⟩,ty,pos,after,none⟩::rest) (St.mk env σv):=by
 have h2:=u3 hσ'
 subst h2
 refine .valueW rfl hd (.tup []) _ (fun Γ φ ac w hR=> ?_) h
 obtain ⟨b,base,hp,e1⟩:=ak8 (i5 hR hx) hσ
 obtain ⟨e2,_⟩:=D5 (i5 hR hy)
 obtain ⟨b',o,us,g1,g2,⟨es,c,rfl,g3,g4⟩,g5⟩:=hR.st.blk _ _ hσ
 rw [hp] at g1; cases g1
 have hnil:∀ w φ σ A,RelT w φ σ A (.tup []) (.tuple #[]):=fun w φ σ A=>RelT.tup' (vs:=[]) rfl (fun i t u hi=>by simp at hi)
 rcases an0 hk k m es.toList 0 g3 with ⟨q1,q2,_,q6⟩ | ⟨j,p,e,q0,q1,q3,q4,q2,_,q6⟩
 ·have hW:=Rs.writeB (q1:=O4 fk ((mdel m k).map (·.1))) (cs1:=(mdel m k).map fun p=>O1 r p.2) (us1:=us) (o1:=.map es c) hR.toRs hσ hp g2 ⟨_,_,rfl,by rw [q6]; exact g3,g4⟩ (fun i x hx=>by rw [q6] at hx; exact g5 i x hx)
  refine ⟨.tuple #[],_,φ, ?_,hnil _ _ _ _,hR.of hW.1 hW.2⟩
  simp [execOp,resolve,invoke,builtin,e1,e2,Builtin.delete_,run_underlying ht.h,Go.MapKept.run_getObj_map g2,Go.MapKept.run_checkKey hkt.h (hk.key k),Go.MapKept.run_findKey hkt.h q2,Go.MapKept.run_setObj_map _ g2,Result.andThen]
 ·have he:=erase_rel (r:=r) (j:=j) g3 g4
  have hW:=Rs.writeB (q1:=O4 fk ((mdel m k).map (·.1))) (cs1:=(mdel m k).map fun p=>O1 r p.2) (us1:=us.eraseIdx j) (o1:=.map (es.eraseIdxIfInBounds j) c) hR.toRs hσ hp g2 ⟨_,_,rfl,by rw [q6]; exact he.1,he.2⟩ (fun i x hx=>by
   rw [q6,← ac1,List.getElem?_eraseIdx] at hx
   rw [List.getElem?_eraseIdx]
   split at hx
   ·rename_i hlt
    obtain ⟨u,h1,h2⟩:=g5 i x hx
    exact ⟨u,by rw [if_pos hlt]; exact h1,h2⟩
   ·rename_i hge
    obtain ⟨u,h1,h2⟩:=g5 (i+1) x hx
    exact ⟨u,by rw [if_neg hge]; exact h1,h2⟩)
  refine ⟨.tuple #[],_,φ, ?_,hnil _ _ _ _,hR.of hW.1 hW.2⟩
  simp [execOp,resolve,invoke,builtin,e1,e2,Builtin.delete_,run_underlying ht.h,Go.MapKept.run_getObj_map g2,Go.MapKept.run_checkKey hkt.h (hk.key k),Go.MapKept.run_findKey hkt.h q2,Go.MapKept.run_setObj_map _ g2,Result.andThen]
end
/-! ### A view becomes a row of its own -/
theorem Sub.reownC{id:Id}{k j n:Nat}{es:List (List C)}{n':Id}{σ1:b8}(t:Nat)(hx:lookup t env=some (.c (.own id j n)))(hσ:σv[id]? =some (some (.cells k es)))(hjl:j+n≤es.length)(h0:Nat.ble σ0.length id.1=true)(hid:newF σv=some n')
  (h1:putF σv id none=some σ1) (hσ':o8 σ1 (.one (.cells k ((es.drop j).take n)))=some σ') (henv:ReE env t (.own n' 0 n) env'):Sub σ0 ⟨env,σv⟩ ⟨env',σ'⟩:=fun Γ sz φ a w hΓ hR=>by
 have h2:=u3 h1
 have h3:=u6 hid; have h4:=n3 hσ'
 have hvl:((es.drop j).take n).length=n:=by rw [List.length_take,List.length_drop]; omega
 subst h2 h3 h4
 generalize hes:(es.drop j).take n=es' at *
 have at_new:(σv.put id none++[Ent.one (.cells k es')])[((σv.length,[]):Id)]? =some (some (.cells k es')):=by
  rw [b8.get_right (by simp)]; simp [b8.at_eq,b8.at,Ent.sub]
 obtain ⟨u0,hu0,hrel⟩:=hR.env t _ hx
 have ho:=D0 hrel hσ
 have fin:∀ (φ':Phi) (hk:Kept w w φ φ' σv (σv.put id none++[.one (.cells k es')]) (Al Γ.N φ σv) (Al Γ.N φ' (σv.put id none++[.one (.cells k es')]))) (hs:Rs Γ (σv.put id none++[.one (.cells k es')]) φ' w) (hview:P6 w (φ' (σv.length,[])) k es'.length 0 n u0),
   R Γ sz ⟨env',σv.put id none++[.one (.cells k es')]⟩ φ' a w:=fun φ' hk hs hview=>by
  have hR1:=hR.of hk hs
  refine {toRs:=hs,defers:=hR1.defers,asize:=hR.asize,env:=fun t' v' ht'=> ?_}
  rcases henv.get t' v' ht' with ⟨rfl,rfl⟩ | h
  ·refine ⟨u0,hu0,.c (.own (by simp) (by cases hrel with | c g2=>exact g2.one) fun k' es2 he=> ?_)⟩
   rw [at_new] at he
   cases he
   exact hview
  ·obtain ⟨u1,g1,g2⟩:=hR1.env t' v' h
   exact ⟨u1,g1,g2⟩
 rcases ho with ⟨p1,p2,p3,p4⟩ | ⟨b,base,cap,arr,ety,ad,hp,hvv,had,hcap,hmax,hjn,hbk,hsz⟩
 ·have hnil:es'=[]:=List.eq_nil_of_length_eq_zero (by rw [hvl,p4])
  subst hnil
  have hK:=hR.toRs.kill id
  have hV:=hK.2.virt k
  rw [b8.length_put] at hV
  refine ⟨fun i=>if i=(σv.length,[]) then none else φ i, ?_⟩
  exact fin _ (Kept.trans (Nat.le_refl _) hK.1 hV.1) hV.2 (.inl ⟨by simp,p2,rfl,p4⟩)
 ·obtain ⟨arr2,ety2,q1,q2,q3,q4⟩:=F2 hR hσ hp
  rw [hbk] at q1; cases q1
  have hO:=Rs.reown (k:=k) (base':=base+j * k) (es':=es') (arr':=arr) hR.toRs hσ hp hbk (fun i e he=>by
    rw [← hes,List.getElem?_take] at he
    split at he
    ·rw [List.getElem?_drop] at he
     exact q3 _ e he
    ·cases he) (by
    rw [hvl]
    have:(j+cap) * k=j * k+cap * k:=Nat.add_mul ..
    have:n * k≤cap * k:=Nat.mul_le_mul_right k hcap
    omega) (fun i e o x he hx=>by
    rw [← hes,List.getElem?_take] at he
    split at he
    ·rw [List.getElem?_drop] at he
     obtain ⟨u2,g1,g2⟩:=q4 _ e o x he hx
     refine ⟨u2, ?_,g2⟩
     rw [← g1,Nat.add_mul]
     congr 1; omega
    ·cases he)
  rw [Go.setRow_self w b arr ety (0,0) hbk] at hO
  refine ⟨fun i=>if i=(σv.length,[]) then some (b,base+j * k) else φ i, ?_⟩
  refine fin _ hO.1 hO.2 (.inr ⟨b,base+j * k,cap,arr,ety,ad,by simp,hvv,fun hc=> ?_,hcap,hmax,by omega,hbk, ?_⟩)
  ·rw [had hc,Nat.zero_mul,Nat.add_zero]
  ·have:(j+cap) * k=j * k+cap * k:=Nat.add_mul ..
   rw [Nat.zero_add]; omega
theorem Sub.reownP{h r m:Nat}{l l':List Int}{n':Id}{σ1:b8}{hi:Int}(t:Nat)(hl:subL l 0 hi=some l')(hx:lookup t env=some (.c (.own (h,[]) 0 m)))(hm:m=l'.length)(hσ:σv[((h,[]):Id)]? =some (some (prow r l)))(h0:Nat.ble σ0.length h=true)(hid:newF σv=some n')
  (h1:putF σv (h,[]) none=some σ1) (hσ':o8 σ1 (.one (prow r l'))=some σ') (henv:ReE env t (.own n' 0 m) env'):Sub σ0 ⟨env,σv⟩ ⟨env',σ'⟩:=by
 have hll:l'.length≤l.length∧l'=l.take l'.length:=by
  unfold subL at hl
  split at hl
  ·cases hl
   refine ⟨by simp; omega, ?_⟩
   simp
  ·cases hl
 have e:(prow r l')=.cells 1 (((l.map fun i=>[C.ptr (r,[i.toNat]) 0 0]).drop 0).take m):=by
  rw [List.drop_zero,← List.map_take,hm,← hll.2]; rfl
 rw [e] at hσ'
 exact Sub.reownC t hx hσ (by simp; omega) h0 hid h1 hσ' henv
/-! ### Places told by their bounds alone -/
theorem n7{β:Type}{l:List β}{i:Int}{a:β}(h:ix l i=some a):0≤i∧i.toNat<l.length:=⟨(O3 h).1,h9 h⟩
theorem S.idxPb{x y:Operand}{t e:TypeId}{bytes n h r:Nat}{z:Value}{kk:IntKind}{i:Int}{l:List Int}[ht:TyD P t (.slice e)][hs:TyS P e 1 bytes z]
  (hx:ev env x=some (.c (.own (h,[]) 0 n))) (hσ:σv[((h,[]):Id)]? =some (some (prow r l))) (hn:n=l.length) (hb:0≤i∧i.toNat<l.length) (hy:ev env y=some (.c (.imm (.val (.int kk i))))) (hd:f7 sz dst=true)
  (hh:AOps P σ0 sz ops Q rest (St.mk (putE env dst (.c (.ptr (h,[]) i.toNat 0))) σv)):AOps P σ0 sz ops Q (⟨dst,.indexAddr t x y,ty,pos,after,none⟩::rest) (St.mk env σv):=
 .indexAddrOwn hx hσ hy (by omega) hd (by rw [Nat.zero_add]; exact hh)
theorem pool_ex{α:Type}{σ:b8}{r size:Nat}{f:α→List I}{E:List α}{i:Int}(h:σ[r]? =some (pool size f E))(hb:i.toNat<E.length):∃ e:α,σ[((r,[i.toNat]):Id)]? =some (some (.cells size [(f e).map .imm])):=
 ⟨E[i.toNat],by rw [n5 h,ap8 (List.getElem?_eq_getElem hb)]; rfl⟩
theorem S.nilCheckE{α:Type}{size r o:Nat}{f:α→List I}{E:List α}{i:Int}{x:Operand}(hx:ev env x=some (.c (.ptr (r,[i.toNat]) 0 o)))(hσ:σv[r]? =some (pool size f E))(hb:i.toNat<E.length)(hd:f7 sz dst=true)
  (h:AOps P σ0 sz ops Q rest (St.mk (putE env dst (.c (.ptr (r,[i.toNat]) 0 o))) σv)):AOps P σ0 sz ops Q (⟨dst,.nilCheck x,ty,pos,after,none⟩::rest) (St.mk env σv):=by
 obtain ⟨e,he⟩:=pool_ex hσ hb
 exact AOps.ag hx he hd h
theorem S.fieldE{α:Type}{size r g off ft size' bytes:Nat}{f:α→List I}{E:List α}{i:Int}{x:Operand}{t:TypeId}{z:Value}[hf:FieldC P t g off ft][hs:TyS P ft size' bytes z](hz:Nat.beq size' 0=false)
  (hx:ev env x=some (.c (.ptr (r,[i.toNat]) 0 0))) (hσ:σv[r]? =some (pool size f E)) (hb:i.toNat<E.length) (hd:f7 sz dst=true)
  (h:AOps P σ0 sz ops Q rest (St.mk (putE env dst (.c (.ptr (r,[i.toNat]) 0 off))) σv)):AOps P σ0 sz ops Q (⟨dst,.fieldAddr t x g,ty,pos,after,none⟩::rest) (St.mk env σv):=by
 obtain ⟨e,he⟩:=pool_ex hσ hb
 exact W.fieldAddr hz hx he hd h
def ad9{A B:Type}(l:List A)(l':List B):Option Unit:=if l.length=l'.length then some () else none
theorem aj0{A B:Type}{l:List A}{l':List B}{u:Unit}(h:ad9 l l'=some u):l.length=l'.length:=by
 unfold ad9 at h
 split at h
 ·assumption
 ·cases h
theorem Sub.virtP(r:Nat){b:Id}{n kb o:Nat}{cs cs':List C}{σ1:b8}(hb:σv[b]? =some (some (.cells kb [cs])))(hc:cs[o]? =some (.imm (.val (.slice none 0 0))))(hn:newF σv=some (n,[]))(h1:o8 σv (.one (prow r []))=some σ1)
  (hs:setF cs o (.own (n,[]) 0 ([]:List Int).length)=some cs') (hσ':putF σ1 b (some (.cells kb [cs']))=some σ'):Sub σ0 ⟨env,σv⟩ ⟨env,σ'⟩:=
 Sub.virtB (α:=Int) 1 (fun _=>[]) hb hc hn h1 hs hσ'
theorem AWP.virtP{c:Code}(r:Nat){b:Id}{n kb o:Nat}{cs cs':List C}{σ1:b8}(hb:σv[b]? =some (some (.cells kb [cs])))(hc:cs[o]? =some (.imm (.val (.slice none 0 0))))(hn:newF σv=some (n,[]))(h1:o8 σv (.one (prow r []))=some σ1)
  (hs:setF cs o (.own (n,[]) 0 ([]:List Int).length)=some cs') (hσ':putF σ1 b (some (.cells kb [cs']))=some σ') (h:AWP P σ0 sz c Q (St.mk env σ')):AWP P σ0 sz c Q (St.mk env σv):=AWP.sub (Sub.virtP r hb hc hn h1 hs hσ') h
end
end Ab
end
section
namespace Ab
open Go
section
variable {K α:Type} [DecidableEq K]
def posM:List (K × List α)→K→Nat
 | [],_=>0
 | p::r,k=>if k=p.1 then 0 else posM r k+1
def rowM(m:List (K × List α))(k:K):List α:=(mget m k).getD []
def rowC(r:Nat)(m:List (K × List α))(k:K):C:=match mget m k with
 | some row=>.own (r,[posM m k]) 0 row.length
 | none=>.imm (.val (.slice none 0 0))
theorem O2(k:K):∀ m:List (K × List α),(mget m k=none∧posM m k=m.length∧∀ v,mset m k v=m++[(k,v)])∨∃ row,mget m k=some row∧m[posM m k]? =some (k,row)∧∀ v,mset m k v=m.set (posM m k) (k,v)
 | []=>.inl ⟨rfl,rfl,fun v=>rfl⟩
 | p::m=>by
  by_cases c:k=p.1
  ·exact .inr ⟨p.2,by simp [mget,c],by simp [posM,c],fun v=>by simp [mset,posM,c]⟩
  ·rcases O2 k m with ⟨h1,h2,h3⟩ | ⟨row,h1,h2,h3⟩
   ·exact .inl ⟨by simp [mget,c,h1],by simp [posM,c,h2],fun v=>by simp [mset,c,h3]⟩
   ·exact .inr ⟨row,by simp [mget,c,h1],by simpa [posM,c] using h2,fun v=>by simp [mset,posM,c,h3]⟩
def J6(r:Nat)(m:List (K × List α)):List C:=m.mapIdx fun i p=>.own (r,[i]) 0 p.2.length
def mmap(r k:Nat)(fk:K→Value)(f:α→List I)(m:List (K × List α)):Ent:=.node (some (.obj (O4 fk (m.map (·.1))) (J6 r m))) (m.map fun p=>.one (vec k f p.2))
def mmapD(r k:Nat)(fk:K→Value)(f:α→List I)(m:List (K × List α))(key:K):Ent:=.node (some (.obj (O4 fk (m.map (·.1))) (J6 r m))) ((m.map fun p=>.one (vec k f p.2)).set (posM m key) .dead)
def ah0(r:Nat)(m:List (K × List α))(key:K)(s n:Nat):List C:=if (mget m key).isSome=true then (J6 r m).set (posM m key) (.own (s,[]) 0 n) else J6 r m++[.own (s,[]) 0 n]
def mmapS(r k:Nat)(fk:K→Value)(f:α→List I)(m:List (K × List α))(key:K)(s n:Nat):Ent:=.node (some (.obj (O4 fk ((mset m key []).map (·.1))) (ah0 r m key s n))) ((m.map fun p=>.one (vec k f p.2)).set (posM m key) .dead)
variable {fk:K→Value} {f:α→List I} {m:List (K × List α)} {r k:Nat}
theorem heads_len:(J6 r m).length=m.length:=by simp [J6]
theorem heads_get{i:Nat}{x:C}(h:(J6 r m)[i]? =some x):∃ p,m[i]? =some p∧x=.own (r,[i]) 0 p.2.length:=by
 simp only [J6,List.getElem?_mapIdx,Option.map_eq_some_iff] at h
 obtain ⟨p,h1,h2⟩:=h
 exact ⟨p,h1,h2.symm⟩
theorem mm_sub{q:List Nat}{b:Blk}(h:(mmap r k fk f m).sub q=some b):(q=[]∧b=.obj (O4 fk (m.map (·.1))) (J6 r m))∨∃ i p,q=[i]∧m[i]? =some p∧b=vec k f p.2:=by
 cases q with
 | nil=>exact .inl ⟨rfl,by simpa [mmap,Ent.sub] using h.symm⟩
 | cons i q=>
  simp only [mmap,Ent.sub,List.getElem?_map] at h
  cases hi:m[i]? with
  | none=>simp [hi] at h
  | some p=>
   rw [hi] at h
   cases q with
   | nil=>simp only [Option.map_some,Ent.sub,Option.some.injEq] at h; exact .inr ⟨i,p,rfl,hi,h.symm⟩
   | cons=>simp [Ent.sub] at h
theorem mm_main:(mmap r k fk f m).sub []=some (.obj (O4 fk (m.map (·.1))) (J6 r m)):=rfl
theorem mm_row{i:Nat}{p:K × List α}(h:m[i]? =some p):(mmap r k fk f m).sub [i]=some (vec k f p.2):=by simp [mmap,Ent.sub,h]
theorem heads_ok{n:Nat}(h:Nat.blt r n=true):C.okL n (J6 r m)=true:=by
 rw [G7,List.all_eq_true]
 intro x hx
 obtain ⟨i,hi⟩:=List.getElem?_of_mem hx
 obtain ⟨p,_,rfl⟩:=heads_get hi
 simpa [C.ok] using h
theorem heads_no{id:Id}(h:id.1 ≠ r):C.noL id (J6 r m)=true:=by
 rw [noL_eq,List.all_eq_true]
 intro x hx
 obtain ⟨i,hi⟩:=List.getElem?_of_mem hx
 obtain ⟨p,_,rfl⟩:=heads_get hi
 have:idb ((r,[i]):Id) id=false:=A4 (fun e=>h (by rw [← e]))
 simp [C.no,this]
theorem mm_ok{n:Nat}(h:Nat.blt r n=true):∀ q b,(mmap r k fk f m).sub q=some b→b.ok n=true:=fun q b hb=>by
 rcases mm_sub hb with ⟨_,rfl⟩ | ⟨i,p,_,_,rfl⟩
 ·simpa [Blk.ok] using heads_ok h
 ·exact D9
theorem mm_no{id:Id}(h:id.1 ≠ r):∀ q b,(mmap r k fk f m).sub q=some b→b.no id=true:=fun q b hb=>by
 rcases mm_sub hb with ⟨_,rfl⟩ | ⟨i,p,_,_,rfl⟩
 ·simpa [Blk.no] using heads_no h
 ·exact Blk.im_no _ _ _
theorem r9.mmap{id n:Id}{mx:Nat}{σ:b8}(h:Nat.beq id.1 r=false)(hr:Nat.blt r mx=true)(hσ:σ[r]? =some (Ab.mmap r k fk f m)):r9 id n σ mx r (Ab.mmap r k fk f m):=by
 have hne:id.1 ≠ r:=fun e=>by simp [e] at h
 show ∀ (p:List Nat) (b:Blk),(Ab.mmap r k fk f m).sub p=some b→_
 intro p b hb
 have hm:mv id n (r,p)=(r,p):=by
  have:(r,p) ≠ id:=fun e=>hne (by rw [← e])
  simp [mv,A4 this]
 rw [hm,n5 hσ,hb]
 exact ⟨mm_ok hr p b hb,by rw [Blk.ren_no _ (mm_no hne p b hb)]⟩
theorem aq2{π:Id→Id}{r':Nat}(h:∀ q,π (r,q)=(r',q)):C.renL π (J6 r m)=J6 r' m:=by
 have renL_get:∀ (L:List C) (i:Nat),(C.renL π L)[i]? =(L[i]?).map (C.ren π):=fun L=>by
  induction L with
  | nil=>intro i; simp [C.renL]
  | cons x L ih=>intro i; cases i with
   | zero=>simp [C.renL]
   | succ i=>simpa [C.renL] using ih i
 apply List.ext_getElem?
 intro i
 rw [renL_get]
 simp only [J6,List.getElem?_mapIdx]
 cases m[i]? with
 | none=>rfl
 | some p=>simp [C.ren,h]
theorem EntR.mmap{r0 n mx i j:Nat}{σ:b8}(hj:(mvr r0 n (i,[])).1=j)(hr:Nat.blt i mx=true)(hσ:σ[j]? =some (Ab.mmap j k fk f m)):EntR r0 n σ mx i (Ab.mmap i k fk f m):=.any fun p b hb=>by
 have e:∀ q,mvr r0 n (i,q)=(j,q):=fun q=>by rw [← hj]; rfl
 rw [e,n5 hσ]
 refine ⟨mm_ok hr p b hb, ?_⟩
 rcases mm_sub hb with ⟨rfl,rfl⟩ | ⟨q,p',rfl,hq,rfl⟩
 ·rw [mm_main]
  simp only [Blk.ren,aq2 e]
 ·rw [mm_row hq,B5]
theorem RenE.mmap{r':Nat}{π:Id→Id}(h:∀ q,π (r,q)=(r',q)):RenE π r (Ab.mmap r k fk f m) r' (Ab.mmap r' k fk f m):=.any (fun p b hb=>by
  rcases mm_sub hb with ⟨rfl,rfl⟩ | ⟨q,p',rfl,hq,rfl⟩
  ·rw [mm_main]; simp only [Blk.ren,aq2 h]
  ·rw [mm_row hq,B5]) (fun p b hb=>by
  rcases mm_sub hb with ⟨rfl,rfl⟩ | ⟨q,p',rfl,hq,rfl⟩
  ·exact ⟨_,mm_main,by simp only [Blk.ren,aq2 h]⟩
  ·exact ⟨_,mm_row hq,B5.symm⟩)
theorem FrzB.mmap{id:Id}{X:C→C→Prop}(h:Nat.beq id.1 r=false):FrzB id X (Ab.mmap r k fk f m) (Ab.mmap r k fk f m):=by
 have hne:id.1 ≠ r:=fun e=>by simp [e] at h
 show _=_∧_
 exact ⟨rfl,fun p b h=>mm_no hne p b h⟩
end
section
variable {P:Program} {σ0:b8} {sz:Nat} {Q:Post} {env env':Env} {σv σ':b8} {ops:Array Oper} {rest:List Oper} {dst:Option Nat} {ty:TypeId} {pos:String} {after:Array Edge}
variable {K α:Type} [DecidableEq K] {fk:K→Value} {d:TypeDesc} {f:α→List I} {m:List (K × List α)} {r k:Nat}
theorem find_pos(hk:KeyT d fk)(key:K):∀ (m:List (K × List α)) (l:List MapEntry) (i:Nat),l.map (·.key)=(m.map (·.1)).map fk→
  (mget m key=none∧Instr.findNow d (fk key) l i=some none)∨∃ row e,mget m key=some row∧m[posM m key]? =some (key,row)∧l[posM m key]? =some e∧e.key=fk key∧Instr.findNow d (fk key) l i=some (some (i+posM m key,e.val))
 | [],[],i,_=>.inl ⟨rfl,rfl⟩
 | [],_::_,i,h=>by simp at h
 | _::_,[],i,h=>by simp at h
 | p::m,e::l,i,h=>by
  simp only [List.map_cons,List.cons.injEq] at h
  obtain ⟨h1,h3⟩:=h
  obtain ⟨r,hr,hiff⟩:∃ r,Instr.sameNow d (fk key) e.key=some r∧(r=true↔fk key=e.key):=Go.MapKept.sameNow_of_keys (hk.key key) (by rw [h1]; exact hk.key p.1)
  by_cases c:key=p.1
  ·have:r=true:=hiff.2 (by rw [h1,c])
   subst this
   exact .inr ⟨p.2,e,by simp [mget,c],by simp [posM,c],by simp [posM,c],by rw [h1,c],by subst c; simp [Instr.findNow,hr,posM]⟩
  ·have:r=false:=by
    cases r with
    | false=>rfl
    | true=>exact absurd (hk.inj ((hiff.1 rfl).trans h1)) c
   subst this
   rcases find_pos hk key m l (i+1) h3 with ⟨g1,g2⟩ | ⟨row,e',g1,g2,g3,g4,g5⟩
   ·exact .inl ⟨by simp [mget,c,g1],by simp [Instr.findNow,hr,g2]⟩
   ·exact .inr ⟨row,e',by simp [mget,c,g1],by simpa [posM,c] using g2,by simpa [posM,c] using g3,g4,by simp [Instr.findNow,hr,g5,posM,c]; omega⟩
theorem mm_rowAt(h:σv[r]? =some (mmap r k fk f m)){key:K}{row:List α}(he:mget m key=some row):σv[((r,[posM m key]):Id)]? =some (some (vec k f row)):=by
 rcases O2 key m with ⟨h1,_⟩ | ⟨row',h1,h2,_⟩
 ·rw [h1] at he; cases he
 ·rw [h1] at he; cases he
  rw [n5 h,mm_row h2]
theorem mm_get(h:σv[r]? =some (mmap r k fk f m)){key:K}{i:Int}{a:α}(ha:ix (rowM m key) i=some a):σv[((r,[posM m key]):Id)]? =some (some (vec k f (rowM m key))):=by
 unfold rowM at ha ⊢
 cases he:mget m key with
 | none=>rw [he] at ha; simp [ix] at ha
 | some row=>rw [Option.getD_some]; exact mm_rowAt h he
theorem snocF_all{β:Type}:∀ (l:List β) (x:β),o8 l x=some (l++[x])
 | [],x=>rfl
 | a::l,x=>by simp [o8,snocF_all l x]
theorem W.makeMapM{t:TypeId}(r k:Nat)(fk:K→Value)(f:α→List I)(hid:newF σv=some (r,[]))(hσ:o8 σv (mmap r k fk f ([]:List (K × List α)))=some σ')(hd:f7 sz dst=true)
  (h:AOps P σ0 sz ops Q rest (St.mk (putE env dst (.c (.map (r,[])))) σ')):AOps P σ0 sz ops Q (⟨dst,.makeMap t none,ty,pos,after,none⟩::rest) (St.mk env σv):=by
 have h2:=u6 hid; have h3:=n3 hσ
 cases h2
 subst h3
 have heq:∀ i:Id,(σv++[Ent.one (pmap 0 fk ([]:List (K × Int)))])[i]? =(σv++[mmap σv.length k fk f ([]:List (K × List α))])[i]? :=fun i=>by
  rcases Nat.lt_or_ge i.1 σv.length with hl | hl
  ·rw [b8.get_left hl,b8.get_left hl]
  ·rw [b8.get_right hl,b8.get_right hl]
   obtain ⟨i1,q⟩:=i
   rw [b8.at_eq,b8.at_eq]
   simp only [b8.at]
   cases i1 - σv.length with
   | zero=>cases q<;>rfl
   | succ m=>rfl
 exact W.makeMapP (K:=K) 0 fk hid (snocF_all _ _) hd (AOps.sub (Sub.same (by simp) heq) h)
theorem S.lookupM{x y:Operand}{t kt vt:TypeId}{r:Nat}{m:List (K × List α)}{key:K}{size bytes:Nat}{zv:Value}[ht:TyD P t (.map kt vt)][hkt:TyD P kt d][hs:TyS P vt size bytes zv](hk:KeyT d fk)(hz:zv=.slice none 0 0)
  (hx:ev env x=some (.c (.map (r,[])))) (hy:ev env y=some (.c (.imm (.val (fk key))))) (hσ:σv[r]? =some (mmap r k fk f m)) (hd:f7 sz dst=true)
  (h:AOps P σ0 sz ops Q rest (St.mk (putE env dst (.c (rowC r m key))) σv)):AOps P σ0 sz ops Q (⟨dst,.lookup t x y false,ty,pos,after,none⟩::rest) (St.mk env σv):=by
 refine .valueW rfl hd _ _ (fun Γ φ a w hR=> ?_) h
 have hmain:σv[((r,[]):Id)]? =some (some (.obj (O4 fk (m.map (·.1))) (J6 r m))):=by rw [n5 hσ]; rfl
 obtain ⟨b,base,hp,hv⟩:=ak8 (i5 hR hx) hmain
 obtain ⟨hv2,_⟩:=D5 (i5 hR hy)
 obtain ⟨b',o,us,g1,g2,⟨es,c,rfl,g3,g4⟩,g5⟩:=hR.st.blk _ _ hmain
 rw [hp] at g1; cases g1
 unfold rowC
 rcases find_pos hk key m es.toList 0 g3 with ⟨q1,q2⟩ | ⟨row,e,q1,q0,q3,q4,q2⟩
 ·rw [q1]
  refine ⟨.slice none 0 0,w,φ, ?_,.c (.imm (.val rfl)),hR⟩
  simp [execOp,hv,hv2,Instr.lookup,run_underlying ht.h,Go.MapKept.run_getObj_map g2,Go.MapKept.run_checkKey hkt.h (hk.key key),Go.MapKept.run_findKey hkt.h q2,K8 (t:=vt),hz,Result.andThen]
 ·rw [q1]
  obtain ⟨u,hu,hru⟩:=g5 (posM m key) (.own (r,[posM m key]) 0 row.length) (by simp [J6,List.getElem?_mapIdx,q0])
  have hue:u=e.val:=by
   rw [← g4,List.getElem?_map,q3] at hu
   simpa using hu.symm
  subst hue
  refine ⟨e.val,w,φ, ?_,.c hru,hR⟩
  simp [execOp,hv,hv2,Instr.lookup,run_underlying ht.h,Go.MapKept.run_getObj_map g2,Go.MapKept.run_checkKey hkt.h (hk.key key),Go.MapKept.run_findKey hkt.h q2,Result.andThen]
theorem S.appendMM{new l':List α}{x y:Operand}{t e:TypeId}{bytes:Nat}{n:Id}{z:Value}{v:T}{key:K}{σ1:b8}[ht:TyD P t (.slice e)][hs:TyS P e k bytes z]
  (ha:app bytes (rowM m key) new=some l') (hzk:(z.cells.size==k)=true) (hbp:Nat.blt 0 bytes=true) (hx:ev env x=some (.c (rowC r m key))) (hσ:σv[r]? =some (mmap r k fk f m)) (hy:ev env y=some v) (hsrc:SrcF σv k f v new) (hn:newF σv=some n) (h1:setF σv r (mmapD r k fk f m key)=some σ1) (hσ':o8 σ1 (.one (vec k f l'))=some σ') (hd:f7 sz dst=true)
  (h:AOps P σ0 sz ops Q rest (St.mk (putE env dst (.c (.own n 0 l'.length))) σ')):
  AOps P σ0 sz ops Q (⟨dst,.call ⟨.builtin .append,#[x,y],#[t,t]⟩,ty,pos,after,none⟩::rest) (St.mk env σv):=by
 obtain ⟨hb,rfl⟩:=aj4 ha
 have h2:=(H7 h1).1
 have h3:=u6 hn; have h4:=n3 hσ'
 subst h2 h3 h4
 unfold rowC at hx
 unfold rowM at hb h
 rcases O2 key m with ⟨q1,q2,_⟩ | ⟨row,q1,q2,_⟩
 ·rw [q1] at hx
  rw [q1,Option.getD_none,List.nil_append] at h
  rw [q1,Option.getD_none] at hb
  refine AOps.appendNil (new:=(new.map f).map (·.map .imm)) hzk hbp hx hy hsrc.src (by simpa using hb) hd ?_
  rw [show ((new.map f).map (·.map C.imm)).length=new.length by simp]
  refine AOps.sub (s':=⟨putE env dst (.c (.own (σv.length,[]) 0 new.length)),σv.set r (mmapD r k fk f m key)++[.one (vec k f new)]⟩) (Sub.same (by simp) fun i=> ?_) h
  have hset:∀ i:Id,(σv.set r (mmapD r k fk f m key))[i]? =σv[i]? :=fun i=>by
   rw [set_ent hσ]
   split
   ·rename_i hi
    obtain ⟨i1,q⟩:=i
    simp only at hi
    subst hi
    rw [n5 hσ]
    congr 1
    simp only [mmapD,mmap]
    rw [List.set_eq_of_length_le (by rw [q2]; simp)]
   ·rfl
  rcases Nat.lt_or_ge i.1 σv.length with hl | hl
  ·rw [b8.get_left hl,b8.get_left (by simpa using hl),hset]
  ·rw [b8.get_right hl,b8.get_right (by simpa using hl),List.length_set]; rfl
 ·rw [q1] at hx
  rw [q1,Option.getD_some] at h
  rw [q1,Option.getD_some] at hb
  have hrow:=mm_rowAt hσ q1
  refine AOps.append (new:=(new.map f).map (·.map .imm)) hzk hbp hx hrow hy hsrc.src (by simpa using hb) hd ?_
  have e1:(((((row.map f).map (·.map C.imm)).drop 0).take row.length)++(new.map f).map (·.map C.imm))=((row++new).map f).map (·.map C.imm):=by
   rw [List.drop_zero,List.take_of_length_le (by simp)]; simp
  have e2:row.length+((new.map f).map (·.map C.imm)).length=(row++new).length:=by simp
  rw [e1,e2]
  refine AOps.sub (s':=⟨putE env dst (.c (.own (σv.length,[]) 0 (row++new).length)),σv.set r (mmapD r k fk f m key)++[.one (vec k f (row++new))]⟩) (Sub.same (by simp) fun i=> ?_) h
  have hput:∀ i:Id,(σv.put (r,[posM m key]) none)[i]? =(σv.set r (mmapD r k fk f m key))[i]? :=fun i=>by
   rw [set_ent hσ]
   by_cases hi:i=(r,[posM m key])
   ·subst hi
    rw [b8.get_put_eq hrow,if_pos rfl]
    have:=(List.getElem?_eq_some_iff.1 q2).1
    simp [mmapD,Ent.sub,this]
   ·rw [b8.get_put_ne hi]
    by_cases hr:i.1=r
    ·obtain ⟨i1,q⟩:=i
     simp only at hr
     subst hr
     rw [if_pos rfl,n5 hσ]
     congr 1
     cases q with
     | nil=>rfl
     | cons a q=>
      simp only [mmap,mmapD,Ent.sub,List.getElem?_set,List.length_map,List.getElem?_map]
      by_cases hap:posM m key=a
      ·subst hap
       cases q with
       | nil=>exact absurd rfl hi
       | cons b q=>
        rw [if_pos rfl,if_pos (List.getElem?_eq_some_iff.1 q2).1,q2]
        rfl
      ·rw [if_neg hap]
    ·rw [if_neg hr]
  rcases Nat.lt_or_ge i.1 σv.length with hl | hl
  ·rw [b8.get_left (by simpa using hl),b8.get_left (by simpa using hl),hput]
  ·rw [b8.get_right (by simpa using hl),b8.get_right (by simpa using hl),b8.length_put,List.length_set]; rfl
theorem S.updateMM{x y v:Operand}{t kt vt:TypeId}{s n:Nat}{key:K}[ht:TyD P t (.map kt vt)][hkt:TyD P kt d](hk:KeyT d fk)
  (hx:ev env x=some (.c (.map (r,[])))) (hy:ev env y=some (.c (.imm (.val (fk key))))) (hv:ev env v=some (.c (.own (s,[]) 0 n))) (hσ:σv[r]? =some (mmapD r k fk f m key)) (hσ':setF σv r (mmapS r k fk f m key s n)=some σ')
  (h:AOps P σ0 sz ops Q rest (St.mk env σ')):AOps P σ0 sz ops Q (⟨none,.mapUpdate t x y v,ty,pos,after,none⟩::rest) (St.mk env σv):=by
 have hset:=H7 hσ'
 have hmain:σv[((r,[]):Id)]? =some (some (.obj (O4 fk (m.map (·.1))) (J6 r m))):=by rw [n5 hσ]; rfl
 refine .skipW rfl rfl (σv.put (r,[]) (some (.obj (O4 fk ((mset m key []).map (·.1))) (ah0 r m key s n)))) (fun Γ φ ac w hR=> ?_) (AOps.sub (s':=⟨env,σ'⟩) (Sub.same (by rw [hset.1]; simp) fun i=> ?_) h)
 ·obtain ⟨b,base,hp,e1⟩:=ak8 (i5 hR hx) hmain
  obtain ⟨e2,_⟩:=D5 (i5 hR hy)
  have hrv:=i5 hR hv
  generalize e3:ac.eval v=u at hrv
  have hru:RelC w φ σv (Al Γ.N φ σv) (.own (s,[]) 0 n) u:=by cases hrv with | c h=>exact h
  obtain ⟨b',o,us,g1,g2,⟨es,c,rfl,g3,g4⟩,g5⟩:=hR.st.blk _ _ hmain
  rw [hp] at g1; cases g1
  have hlu:us.length=m.length:=by rw [← g4]; have:=congrArg List.length g3; simpa using this
  rcases find_pos hk key m es.toList 0 g3 with ⟨q1,q2⟩ | ⟨row,e,q1,q0,q3,q4,q2⟩
  ·have hms:mset m key ([]:List α)=m++[(key,[])]:=by
    rcases O2 key m with ⟨_,_,h3⟩ | ⟨row,h1,_⟩
    ·exact h3 _
    ·rw [q1] at h1; cases h1
   have hW:=Rs.writeB (q1:=O4 fk ((mset m key []).map (·.1))) (cs1:=ah0 r m key s n) (us1:=us++[u]) (o1:=.map (es.push {key:=fk key,val:=u,born:=c}) (c+1)) hR.toRs hmain hp g2
    ⟨_,_,rfl,by rw [hms]; simp [g3],by simp [g4]⟩ (fun i x hx=>by
     simp only [ah0,q1,Option.isSome_none,Bool.false_eq_true,if_false] at hx
     rw [List.getElem?_append] at hx
     split at hx
     ·obtain ⟨u',h1,h2⟩:=g5 i x hx
      exact ⟨u',by rw [List.getElem?_append_left (List.getElem?_eq_some_iff.1 h1).1]; exact h1,h2⟩
     ·rename_i hge
      rw [heads_len] at hx hge
      have h0:i=m.length:=by
       have:=(List.getElem?_eq_some_iff.1 hx).1
       simp at this; omega
      subst h0
      simp at hx
      subst hx
      exact ⟨u,by rw [← hlu]; simp,hru⟩)
   refine ⟨_,φ, ?_,hR.of hW.1 hW.2⟩
   simp [execOp,e1,e2,e3,Instr.mapUpdate,run_underlying ht.h,Go.MapKept.run_getObj_map g2,Go.MapKept.run_checkKey hkt.h (hk.key key),Go.MapKept.run_findKey hkt.h q2,Go.MapKept.run_setObj_map _ g2,Result.andThen]
  ·have hms:mset m key ([]:List α)=m.set (posM m key) (key,[]):=by
    rcases O2 key m with ⟨h1,_⟩ | ⟨row,_,_,h3⟩
    ·rw [q1] at h1; cases h1
    ·exact h3 _
   have hj:es[posM m key]? =some e:=by simpa using q3
   have hlt:=(List.getElem?_eq_some_iff.1 q0).1
   have hW:=Rs.writeB (q1:=O4 fk ((mset m key []).map (·.1))) (cs1:=ah0 r m key s n) (us1:=us.set (posM m key) u) (o1:=.map (es.modify (posM m key) fun e=>{e with key:=fk key,val:=u}) c) hR.toRs hmain hp g2
    ⟨_,_,rfl,by
     rw [hms,Array.toList_modify]
     apply List.ext_getElem?
     intro i
     have hg:=congrArg (fun l=>l[i]?) g3
     simp only [List.getElem?_map,List.getElem?_modify,List.getElem?_set] at hg ⊢
     by_cases hi:posM m key=i
     ·subst hi
      simp [q3,hlt]
     ·simpa [hi] using hg,by
     rw [Array.toList_modify]
     apply List.ext_getElem?
     intro i
     have hg:=congrArg (fun l=>l[i]?) g4
     simp only [List.getElem?_map,List.getElem?_modify,List.getElem?_set] at hg ⊢
     by_cases hi:posM m key=i
     ·subst hi
      simp [q3,hlu,hlt]
     ·simpa [hi] using hg⟩ (fun i x hx=>by
     simp only [ah0,q1,Option.isSome_some,if_true] at hx
     rw [List.getElem?_set] at hx
     by_cases hi:posM m key=i
     ·subst hi
      simp [heads_len,hlt] at hx
      subst hx
      exact ⟨u,by simp [hlu,hlt],hru⟩
     ·rw [if_neg hi] at hx
      obtain ⟨u',h1,h2⟩:=g5 i x hx
      exact ⟨u',by rw [List.getElem?_set,if_neg hi]; exact h1,h2⟩)
   refine ⟨_,φ, ?_,hR.of hW.1 hW.2⟩
   simp [execOp,e1,e2,e3,Instr.mapUpdate,run_underlying ht.h,Go.MapKept.run_getObj_map g2,Go.MapKept.run_checkKey hkt.h (hk.key key),Go.MapKept.run_findKey hkt.h q2,hj,q4,Go.MapKept.run_keyThatStays (hk.key key),Go.MapKept.run_setObj_map _ g2,Result.andThen]
 ·rw [setF_at hσ hσ']
  by_cases hi:i=(r,[])
  ·subst hi
   rw [b8.get_put_eq hmain,if_pos rfl]; rfl
  ·rw [b8.get_put_ne hi]
   by_cases hr:i.1=r
   ·obtain ⟨i1,q⟩:=i
    simp only at hr
    subst hr
    rw [if_pos rfl,n5 hσ]
    cases q with
    | nil=>exact absurd rfl hi
    | cons a q=>rfl
   ·rw [if_neg hr]
theorem r9.putMM{l:List α}{mx s n:Nat}{key:K}{σ:b8}(hr:Nat.blt r mx=true)(hσ:σ[r]? =some (mmapS r k fk f m key s n))(hn:n=l.length)(hs:σ[((s,[]):Id)]? =some (some (vec k f l))):r9 (r,[posM m key]) (s,[]) σ mx r (Ab.mmap r k fk f (mset m key l)):=by
 subst hn
 have hlt:∀ q,q ≠ posM m key→mv (r,[posM m key]) (s,[]) (r,[q])=(r,[q]):=fun q hq=>by
  have:((r,[q]):Id) ≠ (r,[posM m key]):=fun e=>by cases e; exact hq rfl
  simp [mv,A4 this]
 have hself:mv (r,[posM m key]) (s,[]) (r,[posM m key])=(s,[]):=by simp [mv,E9.2 rfl]
 have hroot:mv (r,[posM m key]) (s,[]) (r,[])=(r,[]):=af2
 show ∀ (p:List Nat) (b:Blk),(Ab.mmap r k fk f (mset m key l)).sub p=some b→_
 intro p b hb
 refine ⟨mm_ok hr p b hb, ?_⟩
 rcases mm_sub hb with ⟨rfl,rfl⟩ | ⟨i,p',rfl,hi,rfl⟩
 ·rw [hroot,n5 hσ]
  show some (some (Blk.obj (O4 fk ((mset m key []).map (·.1))) (ah0 r m key s l.length)))=_
  congr 2
  simp only [Blk.ren]
  have hkeys:(mset m key l).map (·.1)=(mset m key []).map (·.1):=by
   rcases O2 key m with ⟨_,_,h3⟩ | ⟨_,_,_,h3⟩
   ·rw [h3,h3]; simp
   ·rw [h3,h3]; simp [List.map_set]
  rw [hkeys]
  congr 1
  have renL_get:∀ (L:List C) (i:Nat),(C.renL (mv (r,[posM m key]) (s,[])) L)[i]? =(L[i]?).map (C.ren (mv (r,[posM m key]) (s,[]))):=fun L=>by
   induction L with
   | nil=>intro i; simp [C.renL]
   | cons x L ih=>intro i; cases i with
    | zero=>simp [C.renL]
    | succ i=>simpa [C.renL] using ih i
  apply List.ext_getElem?
  intro i
  rw [renL_get]
  simp only [ah0,J6]
  rcases O2 key m with ⟨h1,h2,h3⟩ | ⟨row,h1,h2,h3⟩
  ·rw [h1,h3]
   simp only [Option.isSome_none,Bool.false_eq_true,if_false,List.mapIdx_append,List.length_map]
   rcases Nat.lt_or_ge i m.length with hl | hl
   ·rw [List.getElem?_append_left (by simpa using hl),List.getElem?_append_left (by simpa using hl),List.getElem?_mapIdx]
    cases hm:m[i]? with
    | none=>rfl
    | some p=>simp [C.ren,hlt i (by omega)]
   ·rw [List.getElem?_append_right (by simpa using hl),List.getElem?_append_right (by simpa using hl)]
    simp only [List.length_mapIdx]
    cases hd:i - m.length with
    | zero=>
     have:i=m.length:=by omega
     simp [C.ren,h2,mv,E9.2 rfl]
    | succ j=>simp
  ·have hl:=(List.getElem?_eq_some_iff.1 h2).1
   rw [h1,h3]
   simp only [Option.isSome_some,if_true]
   by_cases hi:posM m key=i
   ·subst hi
    simp [List.getElem?_mapIdx,List.getElem?_set,hl,C.ren,hself]
   ·rw [List.getElem?_set,if_neg hi,List.getElem?_mapIdx,List.getElem?_mapIdx,List.getElem?_set,if_neg hi]
    cases hm:m[i]? with
    | none=>rfl
    | some p=>simp [C.ren,hlt i (fun e=>hi e.symm)]
 ·rw [B5]
  rcases O2 key m with ⟨h1,h2,h3⟩ | ⟨row,h1,h2,h3⟩
  ·rw [h3,List.getElem?_append] at hi
   split at hi
   ·rename_i hl
    rw [hlt i (by omega),n5 hσ]
    simp only [mmapS,Ent.sub,List.getElem?_set,List.getElem?_map]
    rw [if_neg (by omega),hi]; rfl
   ·rename_i hl
    have:i=m.length:=by
     have:=(List.getElem?_eq_some_iff.1 hi).1
     simp at this; omega
    subst this
    simp at hi
    subst hi
    rw [← h2,hself,hs]
  ·have hl:=(List.getElem?_eq_some_iff.1 h2).1
   rw [h3,List.getElem?_set] at hi
   by_cases e:posM m key=i
   ·subst e
    rw [if_pos rfl,if_pos hl] at hi
    cases hi
    rw [hself,hs]
   ·rw [if_neg e] at hi
    rw [hlt i (fun x=>e x.symm),n5 hσ]
    simp only [mmapS,Ent.sub,List.getElem?_set,List.getElem?_map]
    rw [if_neg e,hi]; rfl
theorem S.lenMM{x:Operand}{t e:TypeId}{key:K}[ht:TyD P t (.slice e)](hx:ev env x=some (.c (rowC r m key)))(hσ:σv[r]? =some (mmap r k fk f m))(hd:f7 sz dst=true)
  (h:(rowM m key).length≤9223372036854775807→AOps P σ0 sz ops Q rest (St.mk (putE env dst (.c (int ((rowM m key).length:Int)))) σv)):AOps P σ0 sz ops Q (⟨dst,.call ⟨.builtin .len,#[x],#[t]⟩,ty,pos,after,none⟩::rest) (St.mk env σv):=by
 unfold rowC at hx
 unfold rowM at h
 rcases O2 key m with ⟨q1,_⟩ | ⟨row,q1,_⟩
 ·rw [q1] at hx
  rw [q1] at h
  exact AOps.lenNil hx hd (h (by simp))
 ·rw [q1] at hx
  rw [q1] at h
  exact AOps.lenOwnB hx (mm_rowAt hσ q1) hd h
theorem af0{n:Nat}{key:K}(h:Nat.blt r n=true):(T.c (rowC r m key)).ok n=true:=by
 simp only [T.ok]
 unfold rowC
 split
 ·simpa [C.ok] using h
 ·rfl
theorem rowC_mv{π:Id→Id}{o:Option T}{key:K}(hπ:∀ i,π (r,[i])=(r,[i]))(e:o=some (.c (rowC r m key))):o=some ((T.c (rowC r m key)).ren π):=by
 rw [e]
 unfold rowC
 split
 ·simp only [T.ren,C.ren,hπ]
 ·rfl
theorem S.idxMM{x y:Operand}{t e:TypeId}{bytes:Nat}{z:Value}{kk:IntKind}{i:Int}{a:α}{key:K}[ht:TyD P t (.slice e)][hs:TyS P e k bytes z]
  (ha:ix (rowM m key) i=some a) (hx:ev env x=some (.c (rowC r m key))) (hσ:σv[r]? =some (mmap r k fk f m)) (hy:ev env y=some (.c (.imm (.val (.int kk i))))) (hd:f7 sz dst=true)
  (h:AOps P σ0 sz ops Q rest (St.mk (putE env dst (.c (.ptr (r,[posM m key]) i.toNat 0))) σv)):AOps P σ0 sz ops Q (⟨dst,.indexAddr t x y,ty,pos,after,none⟩::rest) (St.mk env σv):=by
 have hrow:=mm_get hσ ha
 unfold rowC at hx
 unfold rowM at ha hrow
 cases he:mget m key with
 | none=>rw [he] at ha; simp [ix] at ha
 | some row=>
  rw [he] at hx ha hrow
  simp only [Option.getD_some] at ha hrow
  exact .indexAddrOwn hx hrow hy (by have:=O3 ha; have:=h9 ha; omega) hd (by rw [Nat.zero_add]; exact h)
end
end Ab
end
section
namespace Ab
open Go
section
variable {P:Program} {σ0:b8} {sz:Nat} {Q:Post} {env:Env} {σv σ':b8} {ops:Array Oper} {rest:List Oper} {dst:Option Nat} {ty:TypeId} {pos:String} {after:Array Edge}
theorem AOps.eqlNil{x y:Operand}{t t' e:TypeId}{k:Nat}{es:List (List I)}[ht:TyD P t (.slice e)](hx:ev env x=some (.c (.imm (.sl k es))))(hy:ev env y=some (.c (.imm (.val (.slice none 0 0)))))(hd:f7 sz dst=true)
  (h1:es=[]→AOps P σ0 sz ops Q rest (St.mk (putE env dst (.c (bool true))) σv)) (h2:AOps P σ0 sz ops Q rest (St.mk (putE env dst (.c (bool false))) σv)):
  AOps P σ0 sz ops Q (⟨dst,.binOp .eql t x y t',ty,pos,after,none⟩::rest) (St.mk env σv):=fun Γ φ a w hΓ hR ro=>by
  have hrel:=i5 hR hx
  have hyv:=A5 hR hy
  generalize hu:a.eval x=u at hrel
  cases hrel with | c hrel=>cases hrel with | imm hrel=>
  cases hrel with
  | slNil=>
   have hg:(eqGuard .eql t x y (.slice none 0 0) (.slice none 0 0)).run P w=.ok () w:=rfl
   have hr:(binOp .eql t (.slice none 0 0) (.slice none 0 0)).run P w=.ok (.bool true) w:=by
    show (do pure (Value.bool (← Op.equal t (.slice none 0 0) (.slice none 0 0)))).run P w=_
    simp [run_equal_slice_nil w t e none 0 0 ht.h]
   have hrun:(execOp a.eval ⟨dst,.binOp .eql t x y t',ty,pos,after,none⟩).run P w=.ok (.value (.bool true)) w:=by
    simp [execOp,hu,hyv,hg,hr]
   exact P8 rfl (val_in hrun (h1 rfl Γ φ _ w hΓ (hR.put hd (.c (.imm (.val rfl)))) ro))
  | @sl _ _ ad cap us _ _ _ _ _=>
   have hg:(eqGuard .eql t x y (.slice (some ad) es.length cap) (.slice none 0 0)).run P w=.ok () w:=rfl
   have hr:(binOp .eql t (.slice (some ad) es.length cap) (.slice none 0 0)).run P w=.ok (.bool false) w:=by
    show (do pure (Value.bool (← Op.equal t (.slice (some ad) es.length cap) (.slice none 0 0)))).run P w=_
    simp [run_equal_slice_nil w t e (some ad) es.length cap ht.h]
   have hrun:(execOp a.eval ⟨dst,.binOp .eql t x y t',ty,pos,after,none⟩).run P w=.ok (.value (.bool false)) w:=by
    simp [execOp,hu,hyv,hg,hr]
   exact P8 rfl (val_in hrun (h2 Γ φ _ w hΓ (hR.put hd (.c (.imm (.val rfl)))) ro))
end
end Ab
end
section
namespace Ab
open Go Go.Proofs
open Tryz
def m7(s:List Int):Option (List Int):=app 8 [] s
theorem m8{s r:List Int}(h:m7 s=some r):m5 prog 27 [.c (row 1 intI s)] 1 (List.map intI r):=by
 unfold m7 at h
 unfold m5
 refine FnOk.enter (rs:=[.t 2]) func27 rfl ntmps27 results27 rfl ⟨trivial,trivial⟩ (by kernel_rfl) rfl ?_
 refine AWP.q ?_
 refine AWP.u ?_
 refine AOps.v rfl rfl ?_
 refine AOps.nil ?_
 refine b6 ?_
 refine AWP.q ?_
 refine AWP.q ?_
 refine AWP.u ?_
 refine AOps.j rfl rfl ?_
 refine AOps.eqlNil rfl rfl rfl (fun he=> ?_) ?_
 ·have hs:s=[]:=by simpa using he
  subst hs
  have hr:r=[]:=by
   have:=aj4 h
   simpa using this.2
  subst hr
  refine AOps.nil ?_
  refine b6 ?_
  refine AWP.condT rfl ?_
  refine AWP.q ?_
  refine AWP.u ?_
  refine AOps.v rfl rfl ?_
  refine AOps.nil ?_
  refine b6 ?_
  refine AWP.virtV 1 intI 2 rfl rfl rfl ?_
  refine AWP.ret ?_
  refine e7 ?_
  exact Done.ret rfl (Fresh.mk rfl rfl)
 ·refine AOps.nil ?_
  refine b6 ?_
  refine AWP.condF rfl ?_
  refine AWP.skip ?_
  refine b6 ?_
  refine AWP.q ?_
  refine AWP.u ?_
  refine S.lit (f:=intI) (l:=[]) (ess:=[]) rfl rfl rfl rfl rfl rfl rfl trivial rfl rfl rfl ?_
  refine AOps.j rfl rfl ?_
  refine S.append (f:=intI) h rfl rfl rfl rfl rfl rfl .row rfl rfl rfl rfl ?_
  refine AOps.v rfl rfl ?_
  refine AOps.nil ?_
  refine b6 ?_
  refine AWP.ret ?_
  exact Done.ret rfl (Fresh.mk rfl rfl)
end Ab
end
section
namespace Ab
open Go Go.Proofs
end Ab
end
section
namespace Ab
open Go Go.Proofs
set_option maxHeartbeats 4000000
attribute [local irreducible] AWP AOps thn inB Done f4 m5 Sub
abbrev u64(n:Int):C:=.imm (.val (.int .u64 n))
end Ab
end
section
set_option linter.all false
namespace Ab
open Go Go.Proofs Go.RowKit Go.Lib
section
variable {P:Program}
end
section
set_option maxHeartbeats 4000000
set_option maxRecDepth 100000
end
structure Rw(w:World)(φ:Phi)(σ:b8)(A:Nat→Prop)(k:Nat)(es:List (List C))(us:List Value):Prop where
 len:us.length=es.length * k
 hk:∀ (j:Nat) (e:List C),es[j]? =some e→e.length=k
 rel:∀ (j:Nat) (e:List C) (o:Nat) (x:C),es[j]? =some e→e[o]? =some x→∃ u,us[j * k+o]? =some u∧RelC w φ σ A x u
theorem Y4.rw{w:World}{φ:Phi}{σ:b8}{A:Nat→Prop}{k:Nat}{es:List (List C)}{b:Option Addr}{us:List Value}(h:Y4 w φ σ A k es b us):Rw w φ σ A k es us:=⟨h.len,h.hk,h.rel⟩
section
variable {w:World} {φ:Phi} {σ:b8} {A:Nat→Prop} {k:Nat} {es es2:List (List C)} {us us2:List Value}
theorem Rw.append(h:Rw w φ σ A k es us)(g:Rw w φ σ A k es2 us2):Rw w φ σ A k (es++es2) (us++us2):=by
 refine ⟨by rw [List.length_append,List.length_append,h.len,g.len,Nat.add_mul],fun j e he=> ?_,fun j e o x he hx=> ?_⟩
 ·rw [List.getElem?_append] at he
  split at he
  ·exact h.hk j e he
  ·exact g.hk _ e he
 ·rw [List.getElem?_append] at he
  split at he
  ·obtain ⟨u,hu,hr⟩:=h.rel j e o x he hx
   exact ⟨u,by rw [List.getElem?_append_left (List.getElem?_eq_some_iff.1 hu).1]; exact hu,hr⟩
  ·rename_i hj
   obtain ⟨u,hu,hr⟩:=g.rel _ e o x he hx
   have hl:=h.len
   have hm:es.length * k≤j * k:=Nat.mul_le_mul_right k (by omega)
   refine ⟨u, ?_,hr⟩
   rw [List.getElem?_append_right (by omega),hl]
   rw [Nat.sub_mul] at hu
   rw [← hu]; congr 1; omega
theorem Rw.take(h:Rw w φ σ A k es us)(i:Nat)(hi:i≤es.length):Rw w φ σ A k (es.take i) (us.take (i * k)):=by
 have hl:=h.len
 have hm:i * k≤es.length * k:=Nat.mul_le_mul_right k hi
 refine ⟨by rw [List.length_take,List.length_take,Nat.min_eq_left hi,Nat.min_eq_left (by omega)],fun j e he=> ?_,fun j e o x he hx=> ?_⟩
 ·rw [List.getElem?_take] at he
  split at he
  ·exact h.hk j e he
  ·cases he
 ·rw [List.getElem?_take] at he
  split at he
  ·rename_i hj
   obtain ⟨u,hu,hr⟩:=h.rel j e o x he hx
   have:=h.hk j e he
   have:=(List.getElem?_eq_some_iff.1 hx).1
   have hm2:(j+1) * k≤i * k:=Nat.mul_le_mul_right k hj
   rw [Nat.add_mul] at hm2
   exact ⟨u,by rw [List.getElem?_take,if_pos (by omega)]; exact hu,hr⟩
  ·cases he
theorem Rw.drop(h:Rw w φ σ A k es us)(i:Nat)(hi:i≤es.length):Rw w φ σ A k (es.drop i) (us.drop (i * k)):=by
 have hl:=h.len
 refine ⟨by rw [List.length_drop,List.length_drop,hl,Nat.sub_mul],fun j e he=> ?_,fun j e o x he hx=> ?_⟩
 ·rw [List.getElem?_drop] at he
  exact h.hk _ e he
 ·rw [List.getElem?_drop] at he
  obtain ⟨u,hu,hr⟩:=h.rel _ e o x he hx
  refine ⟨u, ?_,hr⟩
  rw [List.getElem?_drop,← hu,Nat.add_mul,Nat.add_assoc]
theorem Rw.mono{w':World}{φ':Phi}{σ':b8}{A':Nat→Prop}(H:Kept w w' φ φ' σ σ' A A')(h:Rw w φ σ A k es us):Rw w' φ' σ' A' k es us:=
 ⟨h.len,h.hk,fun j e o x he hx=>let ⟨u,hu,hr⟩:=h.rel j e o x he hx; ⟨u,hu,hr.mono H⟩⟩
end
end Ab
end
section
namespace Ab
open Go Go.Proofs
section
variable {σ0:b8} {sz:Nat} {Q:Post} {env:Env} {σv σ':b8} {ops:Array Oper} {rest:List Oper} {dst:Option Nat} {ty:TypeId} {pos:String} {after:Array Edge}
end
end Ab
end
section
namespace Ab
open Go Go.Sort
abbrev U32:Type:={x:Int // 0≤x∧x<4294967296}
noncomputable def sortFU(cmp:Int→Int→Option Int)(l:List Int):Option (List Int):=open Classical in
 if h:∀ x ∈ l,0≤x∧x<4294967296 then (ad5 (α:=U32) (fun a b=>cmp a.1 b.1) (l.attach.map fun x=>⟨x.1,h x.1 x.2⟩)).map fun m=>m.map (·.1) else none
theorem sortFU_get{cmp:Int→Int→Option Int}{l l':List Int}(h:sortFU cmp l=some l'):∃ (k m:List U32),l=k.map (·.1)∧l'=m.map (·.1)∧ad5 (fun a b=>cmp a.1 b.1) k=some m:=by
 unfold sortFU at h
 split at h
 ·rename_i hr
  obtain ⟨m,h1,rfl⟩:=Option.map_eq_some_iff.1 h
  exact ⟨_,m,by simp,rfl,h1⟩
 ·cases h
theorem sortFU_len{cmp:Int→Int→Option Int}{l l':List Int}(h:sortFU cmp l=some l'):l.length=l'.length:=by
 obtain ⟨k,m,rfl,rfl,h3⟩:=sortFU_get h
 simpa using sortFL_len h3
section
variable {P:Program} {σ0:b8} {sz:Nat} {Q:Post} {env:Env} {σv σ':b8} {ops:Array Oper} {rest:List Oper} {dst:Option Nat} {ty:TypeId} {pos:String} {after:Array Edge}
theorem vec_u32(m:List U32):vec 1 (fun a:Int=>[I.val (.int .u32 a)]) (m.map (·.1))=vec 1 (fun a:U32=>[I.val (.int .u32 a.1)]) m:=by
 simp [vec,Function.comp_def]
theorem S.sortFU{cmp:Int→Int→Option Int}{x:Operand}{al:List Operand}{ats:Array TypeId}{fs g:FuncId}{id:Id}{n:Nat}{l l':List Int}(hs:sortFU cmp l=some l')
  (hcmp:∀ {a b r},cmp a b=some r→f4 P g [.c (.imm (.val (.int .u32 a))),.c (.imm (.val (.int .u32 b)))] (.c (int r))) (hf:SortFOk P fs) (hgn:K2 P g) (hx:ev env x=some (.c (.fn fs []))) (ha:evs env al=some [.c (.own id 0 n),.c (.fn g [])]) (hn:n=l.length) (hσ:σv[id]? =some (some (vec 1 (fun a:Int=>[I.val (.int .u32 a)]) l)))
  (hd:f7 sz dst=true) (hσ':putF σv id (some (vec 1 (fun a:Int=>[I.val (.int .u32 a)]) l'))=some σ') (h:AOps P σ0 sz ops Q rest (St.mk (putE env dst (.tup [])) σ')):
  AOps P σ0 sz ops Q (⟨dst,.call ⟨.value x,al.toArray,ats⟩,ty,pos,after,none⟩::rest) (St.mk env σv):=by
 obtain ⟨k,m,rfl,rfl,h3⟩:=sortFU_get hs
 rw [vec_u32] at hσ hσ'
 exact S.sortF (α:=U32) (fun a=>.val (.int .u32 a.1)) h3 rfl (fun {a b r} h=>hcmp h) hf hgn hx ha (by rw [hn]; simp) hσ hd hσ' h
end
end Ab
end
section
namespace Ab
open Go Go.Proofs Go.Sort Go.Lib
theorem rev_fn{P:Program}{f:FuncId}(hf:K2 P f)
  (hC:∀ (blk off cap:Nat) (zs:List Int) (w:World),Holds (Value.int .i64) w blk off zs.toArray→zs.length≤9223372036854775807→Calls P f #[.slice (some ⟨blk,off,none⟩) zs.length cap] w fun e w'=>e=.returned (.tuple #[])∧∃ n,w'=putRow (Value.int .i64) (Go.Sort.ahead w n) blk off zs.reverse.toArray)
  (hC0:∀ (p:Option Addr) (cap:Nat) (w:World),Calls P f #[.slice p 0 cap] w fun e w'=>e=.returned (.tuple #[])∧w'=w)
  {σ:b8} {id:Id} {l:List Int} (hσ:σ[id]? =some (some (vec 1 intI l))):
  FnOk P f [.c (.own id 0 l.length)] σ fun r σ'=>r=.tup []∧σ'.length=σ.length∧∀ i:Id,σ'[i]? =(σ.put id (some (vec 1 intI l.reverse)))[i]? :=by
 refine ⟨hf,fun Γ vs hΓ hG hlen hrel=> ?_⟩
 subst hΓ
 match vs,hlen with
 | [u],_=>
 have hu:=D0 (hrel 0 _ u rfl rfl) hσ
 have tupR:∀ {w φ σ A},RelT w φ σ A (.tup []) (.tuple #[]):=fun {w φ σ A}=>RelT.tup (ts:=[]) (fun _=>undef) fun i t h=>by simp at h
 rw [I1] at hu
 have empty:∀ (p:Option Addr) (cap:Nat),l=[]→Calls P f #[.slice p 0 cap] Γ.w0 fun e w'=>∃ v r σ' φ',e=.returned v∧(r=.tup []∧σ'.length=Γ.σ0.length∧∀ i:Id,σ'[i]? =(Γ.σ0.put id (some (vec 1 intI l.reverse)))[i]?)∧RelT w' φ' σ' (Al Γ.N φ' σ') r v∧Rs Γ σ' φ' w':=fun p cap he=>by
  refine (hC0 p cap Γ.w0).mono ?_
  rintro e w' ⟨rfl,rfl⟩
  refine ⟨_,.tup [],Γ.σ0,Γ.φ0,rfl,⟨rfl,rfl,fun i=> ?_⟩,tupR,Rs.refl hG⟩
  have:l.reverse=l:=by rw [he]; rfl
  rw [this]
  by_cases hi:i=id
  ·rw [hi,b8.get_put_eq hσ,hσ]
  ·rw [b8.get_put_ne hi]
 rcases hu with ⟨_,hv,_,h0⟩ | ⟨b,base,cap,arr,ety,a,hp,hv,ha,hcap,hmax,hjn,hbk,hsz⟩
 ·have he:l=[]:=List.eq_nil_of_length_eq_zero (by omega)
  rw [hv]
  exact empty none 0 he
 ·rw [hv]
  by_cases hc0:0<cap
  ·have:=ha hc0
   subst this
   simp only [Nat.zero_mul,Nat.add_zero]
   have hR:=Rs.refl hG
   rcases hR.st.blk _ _ hσ with ⟨h1,_⟩ | ⟨b',base',arr2,ety2,h1,h2,h3,h4,h5⟩
   ·rw [hp] at h1; cases h1
   ·rw [hp] at h1; cases h1
    rw [hbk] at h2; cases h2
    rw [I1] at h3
    have hcell:∀ (j:Nat) (x:Int),l[j]? =some x→arr[base+j]? =some (.int .i64 x):=fun j x hj=>int_cells h5 hj
    have hls:l.reverse.length=l.length:=by simp
    refine (hC b base cap l Γ.w0 (holds_of hbk hcell) (by simp only [maxLen] at hmax; omega)).mono ?_
    rintro e w' ⟨rfl,n,rfl⟩
    have hW:=Rs.write (k:=1) (es':=(l.reverse.map intI).map (·.map C.imm)) (arr':=putCells (Value.int .i64) base l.reverse.toArray arr) hR hσ hp hbk (by rw [I1,I1,hls]) Y0 (fun j e he=>vec_hk he) (by rw [I1]; omega)
     (vec_hc fun j x hj=>al8 (by omega) hj)
    rw [putRow_ahead,ai0 hbk]
    refine ⟨_,.tup [],_,Γ.φ0,rfl,⟨rfl, ?_,fun i=>rfl⟩,tupR,hW.2.ahead n⟩
    rw [b8.length_put]
  ·have he:l=[]:=List.eq_nil_of_length_eq_zero (by omega)
   have hl0:l.length=0:=by rw [he]; rfl
   rw [hl0]
   exact empty (some a) cap he
def RevOk(P:Program)(f:FuncId):Prop:=∀ {σ:b8} {id:Id} {l:List Int},σ[id]? =some (some (vec 1 intI l))→
  FnOk P f [.c (.own id 0 l.length)] σ fun r σ'=>r=.tup []∧σ'.length=σ.length∧∀ i:Id,σ'[i]? =(σ.put id (some (vec 1 intI l.reverse)))[i]?
section
variable {P:Program} {σ0:b8} {sz:Nat} {Q:Post} {env:Env} {σv σ':b8} {ops:Array Oper} {rest:List Oper} {dst:Option Nat} {ty:TypeId} {pos:String} {after:Array Edge}
theorem S.rev{x:Operand}{al:List Operand}{ats:Array TypeId}{f:FuncId}{id:Id}{n:Nat}{l:List Int}(hf:RevOk P f)(hx:ev env x=some (.c (.fn f [])))(ha:evs env al=some [.c (.own id 0 n)])(hn:n=l.length)(hσ:σv[id]? =some (some (vec 1 intI l)))
  (hd:f7 sz dst=true) (hσ':putF σv id (some (vec 1 intI l.reverse))=some σ') (h:AOps P σ0 sz ops Q rest (St.mk (putE env dst (.tup [])) σ')):
  AOps P σ0 sz ops Q (⟨dst,.call ⟨.value x,al.toArray,ats⟩,ty,pos,after,none⟩::rest) (St.mk env σv):=by
 have h2:=u3 hσ'
 subst h2 hn
 refine AOps.callS hx ha hd (hf hσ) ?_
 rintro r σ2 ⟨rfl,hl,he⟩
 refine AOps.sub (s':=⟨putE env dst (.tup []),σv.put id (some (vec 1 intI l.reverse))⟩) ?_ h
 have:=Sub.same (σ0:=σ0) (env:=putE env dst (.tup [])) (σ1:=σ2) (σ2:=σv.put id (some (vec 1 intI l.reverse))) (by rw [b8.length_put,hl]) he
 cases dst<;>exact this
end
end Ab
end
section
namespace Ab
open Go
section
variable {α β:Type} {pre post:α→List I} {g:α→List β} {kb k r:Nat} {fb:β→List I} {M:List α}
def oc(pre post:α→List I)(c:C)(a:α):List C:=(pre a).map .imm++c::(post a).map .imm
def ohdr(pre post:α→List I)(g:α→List β)(r:Nat)(M:List α):List (List C):=M.mapIdx fun i a=>oc pre post (.own (r,[i]) 0 (g a).length) a
def omat(r k:Nat)(pre post:α→List I)(g:α→List β)(kb:Nat)(fb:β→List I)(M:List α):Ent:=.node (some (.cells k (ohdr pre post g r M))) (M.map fun a=>.one (vec kb fb (g a)))
def odat(pre post:α→List I)(g:α→List β)(kb:Nat)(fb:β→List I)(a:α):List I:=pre a++ .sl kb ((g a).map fb)::post a
theorem aj7{a:α}:oc pre post (.imm (.sl kb ((g a).map fb))) a=(odat pre post g kb fb a).map .imm:=by simp [oc,odat]
theorem oc_ren{π:Id→Id}{c:C}{a:α}:C.renL π (oc pre post c a)=oc pre post (c.ren π) a:=by
 have h:∀ l:List I,C.renL π (l.map .imm)=l.map .imm:=fun l=>by
  induction l with
  | nil=>rfl
  | cons x l ih=>simp [C.renL,C.ren,ih]
 have h2:∀ (l:List I) (m:List C),C.renL π (l.map .imm++m)=l.map .imm++C.renL π m:=fun l m=>by
  induction l with
  | nil=>rfl
  | cons x l ih=>simp [C.renL,C.ren,ih]
 simp only [oc,h2,C.renL,h]
theorem oc_all(p:C→Bool)(hp:∀ x:I,p (.imm x)=true){c:C}{a:α}:(oc pre post c a).all p=p c:=by
 have h:∀ l:List I,(l.map C.imm).all p=true:=fun l=>by simp [List.all_eq_true,hp]
 simp only [oc,List.all_append,List.all_cons,h,Bool.true_and,Bool.and_true]
theorem oc_ok{n:Nat}{c:C}{a:α}:C.okL n (oc pre post c a)=c.ok n:=by
 rw [G7]; exact oc_all _ (fun _=>rfl)
theorem oc_no{id:Id}{c:C}{a:α}:C.noL id (oc pre post c a)=c.no id:=by
 rw [noL_eq]; exact oc_all _ (fun _=>rfl)
theorem oc_frz{id:Id}{q:Nat}{es:List (List I)}{c:C}{a:α}:C.frzL id q es (oc pre post c a)=oc pre post (c.frz id q es) a:=by
 have h:∀ l:List I,C.frzL id q es (l.map .imm)=l.map .imm:=fun l=>by
  induction l with
  | nil=>rfl
  | cons x l ih=>simp [C.frzL,C.frz,ih]
 have h2:∀ (l:List I) (m:List C),C.frzL id q es (l.map .imm++m)=l.map .imm++C.frzL id q es m:=fun l m=>by
  induction l with
  | nil=>rfl
  | cons x l ih=>simp [C.frzL,C.frz,ih]
 simp only [oc,h2,C.frzL,h]
theorem ohdr_len:(ohdr pre post g r M).length=M.length:=by simp [ohdr]
theorem ohdr_get{i:Nat}{e:List C}(h:(ohdr pre post g r M)[i]? =some e):∃ a,M[i]? =some a∧e=oc pre post (.own (r,[i]) 0 (g a).length) a:=by
 simp only [ohdr,List.getElem?_mapIdx,Option.map_eq_some_iff] at h
 obtain ⟨a,h1,h2⟩:=h
 exact ⟨a,h1,h2.symm⟩
theorem om_sub{q:List Nat}{b:Blk}(h:(omat r k pre post g kb fb M).sub q=some b):(q=[]∧b=.cells k (ohdr pre post g r M))∨∃ i a,q=[i]∧M[i]? =some a∧b=vec kb fb (g a):=by
 cases q with
 | nil=>exact .inl ⟨rfl,by simpa [omat,Ent.sub] using h.symm⟩
 | cons i q=>
  simp only [omat,Ent.sub,List.getElem?_map] at h
  cases hi:M[i]? with
  | none=>simp [hi] at h
  | some p=>
   rw [hi] at h
   cases q with
   | nil=>simp only [Option.map_some,Ent.sub,Option.some.injEq] at h; exact .inr ⟨i,p,rfl,hi,h.symm⟩
   | cons=>simp [Ent.sub] at h
theorem om_main:(omat r k pre post g kb fb M).sub []=some (.cells k (ohdr pre post g r M)):=rfl
theorem om_row{i:Nat}{a:α}(h:M[i]? =some a):(omat r k pre post g kb fb M).sub [i]=some (vec kb fb (g a)):=by simp [omat,Ent.sub,h]
theorem om_ok{n:Nat}(h:Nat.blt r n=true):∀ q b,(omat r k pre post g kb fb M).sub q=some b→b.ok n=true:=fun q b hb=>by
 rcases om_sub hb with ⟨_,rfl⟩ | ⟨i,p,_,_,rfl⟩
 ·simp only [Blk.ok,List.all_eq_true]
  intro e he
  obtain ⟨i,hi⟩:=List.getElem?_of_mem he
  obtain ⟨a,_,rfl⟩:=ohdr_get hi
  rw [oc_ok]; simpa [C.ok] using h
 ·exact D9
theorem om_no{id:Id}(h:id.1 ≠ r):∀ q b,(omat r k pre post g kb fb M).sub q=some b→b.no id=true:=fun q b hb=>by
 rcases om_sub hb with ⟨_,rfl⟩ | ⟨i,p,_,_,rfl⟩
 ·simp only [Blk.no,List.all_eq_true]
  intro e he
  obtain ⟨i,hi⟩:=List.getElem?_of_mem he
  obtain ⟨a,_,rfl⟩:=ohdr_get hi
  have:idb ((r,[i]):Id) id=false:=A4 (fun e=>h (by rw [← e]))
  rw [oc_no]; simp [C.no,this]
 ·exact Blk.im_no _ _ _
theorem ohdr_ren{π:Id→Id}{r':Nat}(h:∀ q,π (r,q)=(r',q)):(Blk.cells k (ohdr pre post g r M)).ren π=.cells k (ohdr pre post g r' M):=by
 simp only [Blk.ren]
 congr 1
 apply List.ext_getElem?
 intro j
 simp only [ohdr,List.getElem?_map,List.getElem?_mapIdx]
 cases M[j]? with
 | none=>rfl
 | some a=>simp [oc_ren,C.ren,h]
theorem r9.omat{id n:Id}{mx:Nat}{σ:b8}(h:Nat.beq id.1 r=false)(hr:Nat.blt r mx=true)(hσ:σ[r]? =some (Ab.omat r k pre post g kb fb M)):r9 id n σ mx r (Ab.omat r k pre post g kb fb M):=by
 have hne:id.1 ≠ r:=fun e=>by simp [e] at h
 show ∀ (p:List Nat) (b:Blk),(Ab.omat r k pre post g kb fb M).sub p=some b→_
 intro p b hb
 have hm:mv id n (r,p)=(r,p):=by
  have:(r,p) ≠ id:=fun e=>hne (by rw [← e])
  simp [mv,A4 this]
 rw [hm,n5 hσ,hb]
 exact ⟨om_ok hr p b hb,by rw [Blk.ren_no _ (om_no hne p b hb)]⟩
theorem EntR.omat{r0 n mx i j:Nat}{σ:b8}(hj:(mvr r0 n (i,[])).1=j)(hr:Nat.blt i mx=true)(hσ:σ[j]? =some (Ab.omat j k pre post g kb fb M)):EntR r0 n σ mx i (Ab.omat i k pre post g kb fb M):=.any fun p b hb=>by
 have e:∀ q,mvr r0 n (i,q)=(j,q):=fun q=>by rw [← hj]; rfl
 rw [e,n5 hσ]
 refine ⟨om_ok hr p b hb, ?_⟩
 rcases om_sub hb with ⟨rfl,rfl⟩ | ⟨q,p',rfl,hq,rfl⟩
 ·rw [om_main,ohdr_ren e]
 ·rw [om_row hq,B5]
theorem RenE.omat{r':Nat}{π:Id→Id}(h:∀ q,π (r,q)=(r',q)):RenE π r (Ab.omat r k pre post g kb fb M) r' (Ab.omat r' k pre post g kb fb M):=.any (fun p b hb=>by
  rcases om_sub hb with ⟨rfl,rfl⟩ | ⟨q,p',rfl,hq,rfl⟩
  ·rw [om_main,ohdr_ren h]
  ·rw [om_row hq,B5]) (fun p b hb=>by
  rcases om_sub hb with ⟨rfl,rfl⟩ | ⟨q,p',rfl,hq,rfl⟩
  ·exact ⟨_,om_main,(ohdr_ren h).symm⟩
  ·exact ⟨_,om_row hq,B5.symm⟩)
theorem FrzB.omat{id:Id}{X:C→C→Prop}(h:Nat.beq id.1 r=false):FrzB id X (Ab.omat r k pre post g kb fb M) (Ab.omat r k pre post g kb fb M):=by
 have hne:id.1 ≠ r:=fun e=>by simp [e] at h
 show _=_∧_
 exact ⟨rfl,fun p b h=>om_no hne p b h⟩
end
section
variable {P:Program} {σ0:b8} {sz:Nat} {Q:Post} {env env':Env} {σv σ':b8} {ops:Array Oper} {rest:List Oper} {dst:Option Nat} {ty:TypeId} {pos:String} {after:Array Edge}
variable {α β:Type} {pre post:α→List I} {g:α→List β} {kb k r:Nat} {fb:β→List I} {M:List α}
theorem Sub.virtBO{b:Id}{n kk o:Nat}{cs cs':List C}{σ1 σ3 σ4:b8}(k:Nat)(pre post:α→List I)(g:α→List β)(kb:Nat)(fb:β→List I)(hb:σv[b]? =some (some (.cells kk [cs])))(hc:cs[o]? =some (.imm (.val (.slice none 0 0))))(hn:newF σv=some (n,[]))(h1:o8 σv (omat n k pre post g kb fb [])=some σ1)
  (hs:setF cs o (.own (n,[]) 0 ([]:List α).length)=some cs') (hσ':putF σ1 b (some (.cells kk [cs']))=some σ') (h3:o8 σv (.one (vec k (fun _:α=>([]:List I)) ([]:List α)))=some σ3) (h4:putF σ3 b (some (.cells kk [cs']))=some σ4):Sub σ0 ⟨env,σv⟩ ⟨env,σ'⟩:=by
 have g1:=u6 hn; have g2:=n3 h1; have g4:=u3 hσ'
 cases g1
 subst g2 g4
 have e3:=n3 h3; have e4:=u3 h4
 subst e3 e4
 have hbl:=b8.lt_of hb
 have hb3:(σv++[Ent.one (vec k (fun _:α=>([]:List I)) ([]:List α))])[b]? =some (some (.cells kk [cs])):=by rw [b8.get_left hbl]; exact hb
 refine (Sub.virtB (α:=α) k (fun _=>[]) hb hc hn h3 hs h4).trans (Sub.same (by simp) fun i=> ?_)
 have hbm:(σv++[omat σv.length k pre post g kb fb ([]:List α)])[b]? =some (some (.cells kk [cs])):=by rw [b8.get_left hbl]; exact hb
 by_cases hi:i=b
 ·subst hi
  rw [b8.get_put_eq hb3,b8.get_put_eq hbm]
 ·rw [b8.get_put_ne hi,b8.get_put_ne hi]
  rcases Nat.lt_or_ge i.1 σv.length with hl | hl
  ·rw [b8.get_left hl,b8.get_left hl]
  ·rw [b8.get_right hl,b8.get_right hl]
   obtain ⟨i1,q⟩:=i
   rw [b8.at_eq,b8.at_eq]
   simp only [b8.at]
   cases i1 - σv.length with
   | zero=>cases q<;>rfl
   | succ m=>rfl
theorem AWP.virtBO{c:Code}{b:Id}{n kk o:Nat}{cs cs':List C}{σ1 σ3 σ4:b8}(k:Nat)(pre post:α→List I)(g:α→List β)(kb:Nat)(fb:β→List I)(hb:σv[b]? =some (some (.cells kk [cs])))(hc:cs[o]? =some (.imm (.val (.slice none 0 0))))(hn:newF σv=some (n,[]))(h1:o8 σv (omat n k pre post g kb fb [])=some σ1)
  (hs:setF cs o (.own (n,[]) 0 ([]:List α).length)=some cs') (hσ':putF σ1 b (some (.cells kk [cs']))=some σ') (h3:o8 σv (.one (vec k (fun _:α=>([]:List I)) ([]:List α)))=some σ3) (h4:putF σ3 b (some (.cells kk [cs']))=some σ4) (h:AWP P σ0 sz c Q ⟨env,σ'⟩):AWP P σ0 sz c Q ⟨env,σv⟩:=AWP.sub (Sub.virtBO k pre post g kb fb hb hc hn h1 hs hσ' h3 h4) h
theorem om_head(h:σv[r]? =some (omat r k pre post g kb fb M)):σv[((r,[]):Id)]? =some (some (.cells k (ohdr pre post g r M))):=by rw [n5 h]; rfl
theorem S.appendO{x y:Operand}{t e:TypeId}{bytes m n s t0 q:Nat}{z:Value}{a:α}{M':List α}{σ1 σ2:b8}[ht:TyD P t (.slice e)][hts:TyS P e k bytes z]
  (ha:app bytes M [a]=some M') (hzk:(z.cells.size==k)=true) (hbp:Nat.blt 0 bytes=true) (hx:ev env x=some (.c (.own (r,[]) 0 m))) (hm:m=M.length) (hσ:σv[r]? =some (omat r k pre post g kb fb M))
  (hy:ev env y=some (.c (.own (t0,[]) 0 1))) (ht0:σv[((t0,[]):Id)]? =some (some (.cells k [oc pre post (.own (s,[]) 0 q) a]))) (hq:q=(g a).length) (hs:σv[((s,[]):Id)]? =some (some (vec kb fb (g a)))) (hsr:Nat.beq s r=false)
  (hn:newF σv=some (n,[])) (h1:setF σv r .dead=some σ1) (h2:setF σ1 s .dead=some σ2) (hσ':o8 σ2 (omat n k pre post g kb fb M')=some σ') (hd:f7 sz dst=true) (h0:Nat.ble σ0.length n=true)
  (h:AOps P σ0 sz ops Q rest (St.mk (putE env dst (.c (.own (n,[]) 0 M'.length))) σ')):
  AOps P σ0 sz ops Q (⟨dst,.call ⟨.builtin .append,#[x,y],#[t,t]⟩,ty,pos,after,none⟩::rest) (St.mk env σv):=by
 have h2':=(H7 h1).1; have h2s:=(H7 h2).1; have h3:=u6 hn; have h4:=n3 hσ'
 cases h3
 subst h2' h2s h4 hm hq
 obtain ⟨hb,rfl⟩:=aj4 ha
 have hsr':s ≠ r:=fun e=>by simp [e] at hsr
 have hrl:=(List.getElem?_eq_some_iff.1 hσ).1
 have hsl:s<σv.length:=b8.lt_of hs
 have h0':=Nat.le_of_ble_eq_true h0
 intro Γ0 φ0 a0 w0 hΓ0 hR0
 have hsrc:Src σv k (.c (.own (t0,[]) 0 1)) [oc pre post (.own (s,[]) 0 (g a).length) a]:=.own (j:=0) (n:=1) ht0
 refine AOps.append hzk hbp hx (om_head hσ) hy hsrc (by simpa using hb) hd ?_ Γ0 φ0 a0 w0 hΓ0 hR0
 have e1:((ohdr pre post g r M).drop 0).take M.length=ohdr pre post g r M:=by rw [List.drop_zero,List.take_of_length_le (by simp [ohdr_len])]
 rw [e1]
 generalize hX:σv.put (r,[]) none++[Ent.one (.cells k (ohdr pre post g r M++[oc pre post (.own (s,[]) 0 (g a).length) a]))]=σX
 have e5:(St.mk env σX).put dst (.c (.own (σv.length,[]) 0 (M.length+[oc pre post (.own (s,[]) 0 (g a).length) a].length)))=⟨putE env dst (.c (.own (σv.length,[]) 0 (M++[a]).length)),σX⟩:=by
  rw [show M.length+[oc pre post (.own (s,[]) 0 (g a).length) a].length=(M++[a]).length by simp]
  cases dst<;>rfl
 rw [e5]
 have xn:σX[((σv.length,[]):Id)]? =some (some (.cells k (ohdr pre post g r M++[oc pre post (.own (s,[]) 0 (g a).length) a]))):=by
  rw [← hX,b8.get_right (by simp)]; simp [b8.at_eq,b8.at,Ent.sub]
 have xo:∀ i:Id,i.1<σv.length→i ≠ (r,[])→σX[i]? =σv[i]? :=fun i hi hne=>by
  rw [← hX,b8.get_left (by simpa using hi),b8.get_put_ne hne]
 generalize hπ:(fun i:Id=>if i.1=σv.length then (if i.2=[] then (σv.length,[]) else if i.2=[M.length] then (s,[]) else (r,i.2)) else i)=π
 have π0:∀ i:Id,i.1 ≠ σv.length→π i=i:=fun i hi=>by rw [← hπ]; simp [hi]
 have πn:π (σv.length,[])=(σv.length,[]):=by rw [← hπ]; simp
 have πv:π (σv.length,[M.length])=(s,[]):=by rw [← hπ]; simp
 have πr:∀ q,q<M.length→π (σv.length,[q])=(r,[q]):=fun q hq=>by rw [← hπ]; simp; omega
 have hMlen:(M++[a]).length=M.length+1:=by simp
 have dead:∀ (i:Id) b,((σv.set r .dead).set s .dead)[i]? =some (some b)→i.1 ≠ r∧i.1 ≠ s∧σv[i]? =some (some b):=fun i b hi=>by
  obtain ⟨i1,q⟩:=i
  rw [b8.at_eq] at hi
  simp only [b8.at,List.getElem?_set,List.length_set] at hi
  by_cases e1:s=i1
  ·subst e1; simp [hsl,Ent.sub] at hi
  ·rw [if_neg e1] at hi
   by_cases e2:r=i1
   ·subst e2; simp [hrl,Ent.sub] at hi
   ·rw [if_neg e2] at hi
    exact ⟨fun e=>e2 e.symm,fun e=>e1 e.symm,by rw [b8.at_eq]; exact hi⟩
 have cases3:∀ (i:Id) b,((σv.set r .dead).set s .dead++[omat σv.length k pre post g kb fb (M++[a])])[i]? =some (some b)→
   (i.1<σv.length∧i.1 ≠ r∧i.1 ≠ s∧σv[i]? =some (some b))∨(i=(σv.length,[])∧b=.cells k (ohdr pre post g σv.length (M++[a])))∨(∃ q c,i=(σv.length,[q])∧(M++[a])[q]? =some c∧b=vec kb fb (g c)):=fun i b hi=>by
  rcases Nat.lt_or_ge i.1 σv.length with hl | hl
  ·rw [b8.get_left (by simpa using hl)] at hi
   obtain ⟨g1,g2,g3⟩:=dead i b hi
   exact .inl ⟨hl,g1,g2,g3⟩
  ·rw [b8.get_right (by simpa using hl)] at hi
   obtain ⟨i1,q⟩:=i
   simp only [List.length_set] at hi hl
   have hz:i1=σv.length:=by
    have:=b8.lt_of hi
    simp at this; simp at hl; omega
   subst hz
   rw [Nat.sub_self,n5 (e:=omat σv.length k pre post g kb fb (M++[a])) rfl] at hi
   simp only [Option.some.injEq] at hi
   rcases om_sub hi with ⟨rfl,rfl⟩ | ⟨q',c,rfl,hc,rfl⟩
   ·exact .inr (.inl ⟨rfl,rfl⟩)
   ·exact .inr (.inr ⟨q',c,rfl,hc,rfl⟩)
 refine AOps.sub (s':=⟨putE env dst (.c (.own (σv.length,[]) 0 (M++[a]).length)),(σv.set r .dead).set s .dead++[omat σv.length k pre post g kb fb (M++[a])]⟩) ?_ h
 have hlen':((σv.set r .dead).set s .dead++[omat σv.length k pre post g kb fb (M++[a])]).length=σv.length+1:=by simp
 have hqb:∀ {q:Nat} {c:α},(M++[a])[q]? =some c→q<M.length+1:=fun hc=>by rw [← hMlen]; exact (List.getElem?_eq_some_iff.1 hc).1
 refine Sub.mk π (fun i hi=>π0 i (by omega)) (by rw [hlen']; omega) (fun i j b b' hi hj he=> ?_) (fun i b hi=> ?_) (fun t v ht=> ?_)
 ·rcases cases3 i b hi with ⟨g1,g2,g2s,_⟩ | ⟨rfl,_⟩ | ⟨q,row,rfl,g1,_⟩<;>rcases cases3 j b' hj with ⟨k1,k2,k2s,_⟩ | ⟨rfl,_⟩ | ⟨q',row',rfl,k1,_⟩
  ·rwa [π0 i (by omega),π0 j (by omega)] at he
  ·rw [π0 i (by omega),πn] at he; subst he; simp at g1
  ·rw [π0 i (by omega)] at he
   have hq:=hqb k1
   by_cases e:q'=M.length
   ·subst e; rw [πv] at he; subst he; exact absurd rfl g2s
   ·rw [πr q' (by omega)] at he; subst he; exact absurd rfl g2
  ·rw [π0 j (by omega),πn] at he; subst he; simp at k1
  ·rfl
  ·have hq:=hqb k1
   by_cases e:q'=M.length
   ·subst e; rw [πn,πv] at he; simp at he; omega
   ·rw [πn,πr q' (by omega)] at he; simp at he
  ·rw [π0 j (by omega)] at he
   have hq:=hqb g1
   by_cases e:q=M.length
   ·subst e; rw [πv] at he; subst he; exact absurd rfl k2s
   ·rw [πr q (by omega)] at he; subst he; exact absurd rfl k2
  ·have hq:=hqb g1
   by_cases e:q=M.length
   ·subst e; rw [πn,πv] at he; simp at he; omega
   ·rw [πn,πr q (by omega)] at he; simp at he
  ·have hq:=hqb g1
   have hq':=hqb k1
   by_cases e:q=M.length<;>by_cases e':q'=M.length
   ·rw [e,e']
   ·rw [e,πv,πr q' (by omega)] at he; simp at he
   ·rw [e',πv,πr q (by omega)] at he; simp at he
   ·rw [πr q (by omega),πr q' (by omega)] at he
    simp at he; rw [he]
 ·dsimp only
  rw [hlen']
  rcases cases3 i b hi with ⟨g1,g2,g2s,g3⟩ | ⟨rfl,rfl⟩ | ⟨q,c,rfl,g1,rfl⟩
  ·have hok:=hR0.st.okB g3
   have hren:b.ren π=b:=Blk.ren_ok (m:=σv.length) (fun i hi=>π0 i (by omega)) b hok
   refine ⟨Blk.ok_mono (Nat.le_succ _) b hok, ?_⟩
   rw [π0 i (by omega),hren,xo i g1 (fun e=>g2 (by rw [e]))]
   exact g3
  ·refine ⟨om_ok (r:=σv.length) (kb:=kb) (fb:=fb) (by simp) [] _ om_main, ?_⟩
   rw [πn,xn]
   congr 2
   simp only [Blk.ren]
   congr 1
   apply List.ext_getElem?
   intro q
   rw [List.getElem?_map]
   simp only [ohdr,List.getElem?_mapIdx,Option.map_map,List.getElem?_append,List.length_mapIdx]
   by_cases hq:q<M.length
   ·rw [if_pos hq,if_pos hq]
    cases hM:M[q]? with
    | none=>rfl
    | some row=>simp [oc_ren,C.ren,πr q hq]
   ·rw [if_neg hq,if_neg hq]
    by_cases hq2:q=M.length
    ·subst hq2; simp [oc_ren,C.ren,πv]
    ·cases hz:q - M.length with
     | zero=>omega
     | succ x=>simp
  ·have hq:=hqb g1
   refine ⟨D9, ?_⟩
   rw [B5]
   by_cases e:q=M.length
   ·subst e
    rw [πv,xo (s,[]) hsl (fun e=>hsr' (by cases e; rfl)),hs]
    rw [List.getElem?_append_right (Nat.le_refl _),Nat.sub_self] at g1
    cases g1; rfl
   ·rw [πr q (by omega),xo (r,[q]) hrl (by simp)]
    rw [List.getElem?_append_left (by omega)] at g1
    rw [n5 hσ,om_row g1]
 ·dsimp only at ht ⊢
  rw [hlen']
  have old:∀ v,lookup t env=some v→v.ok (σv.length+1)=true∧lookup t env=some (v.ren π):=fun v hv=>by
   obtain ⟨u,_,hr⟩:=hR0.env t v hv
   have hok:=hr.ok
   exact ⟨T.ok_mono (Nat.le_succ _) v hok,by rw [T.ren_ok (m:=σv.length) (fun i hi=>π0 i (by omega)) v hok]; exact hv⟩
  cases hdst:dst with
  | none=>rw [hdst] at ht; exact old v ht
  | some d=>
   rw [hdst] at ht
   simp only [putE,lookup] at ht ⊢
   split at ht
   ·cases ht
    refine ⟨by simp [T.ok,C.ok], ?_⟩
    simp [T.ren,C.ren,πn]
   ·exact old v ht
/-! ### Rows cease to change -/
theorem blt_dec(a b:Nat):Nat.blt a b=decide (a<b):=by rw [Bool.eq_iff_iff,Nat.blt_eq]; simp
theorem beq_dec(a b:Nat):Nat.beq a b=decide (a=b):=by rw [Bool.eq_iff_iff,Nat.beq_eq]; simp
def ohdrF(pre post:α→List I)(g:α→List β)(kb:Nat)(fb:β→List I)(r:Nat)(M:List α)(p:Nat→Bool):List (List C):=M.mapIdx fun i a=>oc pre post (match p i with | true=>.imm (.sl kb ((g a).map fb)) | false=>.own (r,[i]) 0 (g a).length) a
def omF(r k:Nat)(pre post:α→List I)(g:α→List β)(kb:Nat)(fb:β→List I)(M:List α)(p:Nat→Bool):Ent:=.node (some (.cells k (ohdrF pre post g kb fb r M p))) (M.mapIdx fun i a=>match p i with | true=>.dead | false=>.one (vec kb fb (g a)))
theorem omF_zero:omF r k pre post g kb fb M (fun _=>false)=omat r k pre post g kb fb M:=by
 simp only [omF,omat,ohdrF,ohdr]
 congr 1
 apply List.ext_getElem?
 intro i
 simp [List.getElem?_mapIdx]
theorem omF_congr{p p':Nat→Bool}(h:∀ i,i<M.length→p i=p' i):omF r k pre post g kb fb M p=omF r k pre post g kb fb M p':=by
 have e1:ohdrF pre post g kb fb r M p=ohdrF pre post g kb fb r M p':=by
  apply List.ext_getElem?
  intro i
  simp only [ohdrF,List.getElem?_mapIdx]
  cases hi:M[i]? with
  | none=>rfl
  | some a=>simp only [Option.map_some,h i (List.getElem?_eq_some_iff.1 hi).1]
 have e2:(M.mapIdx fun i a=>match p i with | true=>Ent.dead | false=>.one (vec kb fb (g a)))=M.mapIdx fun i a=>match p' i with | true=>Ent.dead | false=>.one (vec kb fb (g a)):=by
  apply List.ext_getElem?
  intro i
  simp only [List.getElem?_mapIdx]
  cases hi:M[i]? with
  | none=>rfl
  | some a=>simp only [Option.map_some,h i (List.getElem?_eq_some_iff.1 hi).1]
 simp only [omF,e1,e2]
theorem omF_frz{p:Nat→Bool}{q:Nat}{a:α}(hq:M[q]? =some a):Blk.frz (r,[q]) kb ((g a).map fb) (.cells k (ohdrF pre post g kb fb r M p))=.cells k (ohdrF pre post g kb fb r M fun i=>p i || Nat.beq i q):=by
 simp only [Blk.frz]
 congr 1
 apply List.ext_getElem?
 intro j
 simp only [ohdrF,List.getElem?_map,List.getElem?_mapIdx,Option.map_map]
 cases hj:M[j]? with
 | none=>rfl
 | some rj=>
  simp only [Option.map_some,Function.comp_apply,Option.some.injEq,oc_frz]
  congr 1
  cases hp:p j with
  | true=>rfl
  | false=>
   by_cases h2:j=q
   ·subst h2
    rw [hq] at hj; cases hj
    simp [C.frz,E9.2 rfl,List.take_of_length_le]
   ·have:idb (r,[j]) (r,[q])=false:=A4 (by simp; exact h2)
    have h3:Nat.beq j q=false:=by cases e:Nat.beq j q with | false=>rfl | true=>exact absurd (Nat.eq_of_beq_eq_true e) h2
    simp [C.frz,this,h3]
theorem Sub.omFrz{p:Nat→Bool}{q:Nat}{a:α}(h0:Nat.ble σ0.length r=true)(hσ:σv[r]? =some (omF r k pre post g kb fb M p))(hq:M[q]? =some a)(hp:p q=false)(hno:ab5 r σv)(he:af3 r env=true):Sub σ0 ⟨env,σv⟩ ⟨env,σv.set r (omF r k pre post g kb fb M fun i=>p i || Nat.beq i q)⟩:=by
 have hrl:r<σv.length:=(List.getElem?_eq_some_iff.1 hσ).1
 have hrow:σv[((r,[q]):Id)]? =some (some (Blk.im kb ((g a).map fb))):=by
  rw [n5 hσ]
  simp [omF,Ent.sub,List.getElem?_mapIdx,hq,hp]
 have hfz:=Sub.frz (σ0:=σ0) (s:=⟨env,σv⟩) (r,[q]) kb ((g a).map fb) (Nat.le_of_ble_eq_true h0) hrow
 refine hfz.trans ((Sub.same (σ2:=σv.set r (omF r k pre post g kb fb M fun i=>p i || Nat.beq i q)) (by simp [St.frz]) fun i=> ?_).trans (Sub.look fun t v ht=> ?_))
 ·simp only [St.frz]
  rw [b8.get_map,set_ent hσ]
  by_cases hi:i=(r,[q])
  ·subst hi
   rw [b8.get_put_eq hrow,if_pos rfl]
   simp [omF,Ent.sub,List.getElem?_mapIdx,hq]
  ·rw [b8.get_put_ne hi]
   by_cases hir:i.1=r
   ·obtain ⟨i1,l⟩:=i
    simp only at hir
    subst hir
    rw [if_pos rfl,n5 hσ]
    simp only [Option.map_some,Option.some.injEq]
    cases l with
    | nil=>simp only [omF,Ent.sub,Option.map_some,omF_frz hq]
    | cons c l=>
     simp only [omF,Ent.sub,List.getElem?_mapIdx]
     cases hc:M[c]? with
     | none=>rfl
     | some row=>
      simp only [Option.map_some]
      cases hpc:p c with
      | true=>simp only [Bool.true_or]; cases l<;>rfl
      | false=>
       by_cases h2:c=q
       ·subst h2
        cases l with
        | nil=>exact absurd rfl hi
        | cons=>simp [Ent.sub]
       ·have h3:Nat.beq c q=false:=by cases e:Nat.beq c q with | false=>rfl | true=>exact absurd (Nat.eq_of_beq_eq_true e) h2
        simp only [h3,Bool.or_false]
        cases l with
        | nil=>simp only [Ent.sub,Option.map_some,Blk.frz_no _ (Blk.im_no _ _ _)]
        | cons=>rfl
   ·rw [if_neg hir]
    cases hx:σv[i]? with
    | none=>rfl
    | some o=>
     cases o with
     | none=>rfl
     | some b=>simp only [Option.map_some,Blk.frz_no _ (hno i b hir hx q)]
 ·simp only [St.frz]
  rw [ae2 (fun v=>v.frz (r,[q]) kb ((g a).map fb)),ht]
  simp only [Option.map_some,T.frz_no v (rowlessT_no (as8 he t v ht))]
theorem ab5.set{e:Ent}(h:ab5 r σv):ab5 r (σv.set r e):=fun i b hi hb q=>by
 refine h i b hi ?_ q
 obtain ⟨i1,l⟩:=i
 rw [b8.at_eq] at hb ⊢
 simp only [b8.at,List.getElem?_set] at hb ⊢
 rwa [if_neg (fun e=>hi e.symm)] at hb
theorem Sub.omFrzTo(i:Nat)(h0:Nat.ble σ0.length r=true)(hσ:σv[r]? =some (omat r k pre post g kb fb M))(hno:ab5 r σv)(he:af3 r env=true):∀ q,q≤M.length→Sub σ0 ⟨env,σv⟩ ⟨env,σv.set r (omF r k pre post g kb fb M fun j=>Nat.blt j q && !(Nat.beq j i))⟩
 | 0,_=>by
  have e:omF r k pre post g kb fb M (fun j=>Nat.blt j 0 && !(Nat.beq j i))=omat r k pre post g kb fb M:=by
   rw [← omF_zero]; exact omF_congr fun j _=>by simp
  rw [e]
  exact Sub.same (by simp) fun i=>by
   rw [set_ent hσ]
   split
   ·rename_i hi
    obtain ⟨i1,p⟩:=i
    simp only at hi; subst hi
    rw [n5 hσ]
   ·rfl
 | q+1,hq=>by
  refine (Sub.omFrzTo i h0 hσ hno he q (by omega)).trans ?_
  have hrl:r<σv.length:=(List.getElem?_eq_some_iff.1 hσ).1
  have hqM:M[q]? =some M[q]:=List.getElem?_eq_getElem (by omega)
  have hcur:(σv.set r (omF r k pre post g kb fb M fun j=>Nat.blt j q && !(Nat.beq j i)))[r]? =some (omF r k pre post g kb fb M fun j=>Nat.blt j q && !(Nat.beq j i)):=by rw [List.getElem?_set]; simp [hrl]
  by_cases hqi:q=i
  ·subst hqi
   have e:omF r k pre post g kb fb M (fun j=>Nat.blt j (q+1) && !(Nat.beq j q))=omF r k pre post g kb fb M fun j=>Nat.blt j q && !(Nat.beq j q):=omF_congr fun j _=>by
    simp only [blt_dec,beq_dec]; rw [Bool.eq_iff_iff]; simp only [Bool.and_eq_true,Bool.or_eq_true,Bool.not_eq_true',decide_eq_true_eq,decide_eq_false_iff_not]; omega
   rw [e]
   exact Sub.same rfl fun _=>rfl
  ·have:=Sub.omFrz (env:=env) h0 hcur hqM (by simp) hno.set he
   rw [List.set_set] at this
   have e:omF r k pre post g kb fb M (fun j=>(Nat.blt j q && !(Nat.beq j i)) || Nat.beq j q)=omF r k pre post g kb fb M fun j=>Nat.blt j (q+1) && !(Nat.beq j i):=omF_congr fun j _=>by
    simp only [blt_dec,beq_dec]; rw [Bool.eq_iff_iff]; simp only [Bool.and_eq_true,Bool.or_eq_true,Bool.not_eq_true',decide_eq_true_eq,decide_eq_false_iff_not]; omega
   rwa [e] at this
abbrev vecP(pre post:α→List I)(g:α→List β)(kb:Nat)(fb:β→List I)(k:Nat)(M:List α)(i:Nat)(n:Id)(m:Nat)(a:α):Blk:=.cells k (((M.map (odat pre post g kb fb)).map (·.map C.imm)).set i (oc pre post (.own n 0 m) a))
theorem ohdrF_to{i:Nat}{a:α}(hi:M[i]? =some a):ohdrF pre post g kb fb r M (fun j=>Nat.blt j M.length && !(Nat.beq j i))=((M.map (odat pre post g kb fb)).map (·.map C.imm)).set i (oc pre post (.own (r,[i]) 0 (g a).length) a):=by
 apply List.ext_getElem?
 intro j
 simp only [ohdrF,List.getElem?_mapIdx,List.getElem?_set,List.length_map,List.getElem?_map]
 cases hj:M[j]? with
 | none=>
  have:=List.getElem?_eq_none_iff.1 hj
  have hl:=(List.getElem?_eq_some_iff.1 hi).1
  rw [if_neg (by omega)]; rfl
 | some b=>
  have hl:=(List.getElem?_eq_some_iff.1 hj).1
  by_cases e:i=j
  ·subst e
   rw [hi] at hj; cases hj
   simp [beq_dec,hl]
  ·rw [if_neg e]
   have:(Nat.blt j M.length && !(Nat.beq j i))=true:=by simp only [blt_dec,beq_dec]; simp; omega
   simp only [Option.map_some,this,aj7]
theorem Sub.splitO{i n:Nat}{a:α}{σ1:b8}(h0:Nat.ble σ0.length r=true)(hσ:σv[r]? =some (omat r k pre post g kb fb M))(hi:M[i]? =some a)(hno:ab5 r σv)(he:af3 r env=true)(hn:newF σv=some (n,[]))(h1:setF σv r (.one (vecP pre post g kb fb k M i (n,[]) (g a).length a))=some σ1)(hσ':o8 σ1 (.one (vec kb fb (g a)))=some σ'):Sub σ0 ⟨env,σv⟩ ⟨env,σ'⟩:=by
 have g1:=u6 hn; have g2:=(H7 h1).1; have g3:=n3 hσ'
 cases g1
 subst g2 g3
 intro Γ0 sz0 φ0 a0 w0 hΓ0 hR0
 have hrl:r<σv.length:=(List.getElem?_eq_some_iff.1 hσ).1
 have h0':=Nat.le_of_ble_eq_true h0
 have hil:=(List.getElem?_eq_some_iff.1 hi).1
 have hF:=Sub.omFrzTo (env:=env) i h0 hσ hno he M.length (Nat.le_refl _)
 generalize hX:σv.set r (omF r k pre post g kb fb M fun j=>Nat.blt j M.length && !(Nat.beq j i))=σX at hF
 have hXl:σX.length=σv.length:=by rw [← hX]; simp
 have hcur:σX[r]? =some (omF r k pre post g kb fb M fun j=>Nat.blt j M.length && !(Nat.beq j i)):=by rw [← hX,List.getElem?_set]; simp [hrl]
 have xr:σX[((r,[]):Id)]? =some (some (.cells k (((M.map (odat pre post g kb fb)).map (·.map C.imm)).set i (oc pre post (.own (r,[i]) 0 (g a).length) a)))):=by
  rw [n5 hcur]; simp only [omF,Ent.sub,ohdrF_to hi]
 have xi:σX[((r,[i]):Id)]? =some (some (vec kb fb (g a))):=by
  rw [n5 hcur]; simp [omF,Ent.sub,List.getElem?_mapIdx,hi,beq_dec]
 have xo:∀ q:Id,q.1 ≠ r→σX[q]? =σv[q]? :=fun q hq=>by
  rw [← hX]
  obtain ⟨q1,l⟩:=q
  rw [b8.at_eq,b8.at_eq]
  simp only [b8.at,List.getElem?_set]
  rw [if_neg (fun e=>hq e.symm)]
 refine (hF.trans ?_) Γ0 sz0 φ0 a0 w0 hΓ0 hR0
 generalize hπ:(fun q:Id=>if q=(σv.length,[]) then ((r,[i]):Id) else q)=π
 have π0:∀ q:Id,q ≠ (σv.length,[])→π q=q:=fun q hq=>by rw [← hπ]; simp [hq]
 have πn:π (σv.length,[])=(r,[i]):=by rw [← hπ]; simp
 have cases3:∀ (q:Id) b,(σv.set r (.one (vecP pre post g kb fb k M i (σv.length,[]) (g a).length a))++[Ent.one (vec kb fb (g a))])[q]? =some (some b)→
   (q.1<σv.length∧q.1 ≠ r∧σv[q]? =some (some b))∨(q=(r,[])∧b=vecP pre post g kb fb k M i (σv.length,[]) (g a).length a)∨(q=(σv.length,[])∧b=vec kb fb (g a)):=fun q b hq=>by
  obtain ⟨q1,l⟩:=q
  rcases Nat.lt_or_ge q1 σv.length with hl | hl
  ·rw [b8.get_left (by simpa using hl),b8.at_eq] at hq
   simp only [b8.at,List.getElem?_set] at hq
   by_cases e:r=q1
   ·subst e
    rw [if_pos rfl,if_pos hrl] at hq
    simp only [Option.some.injEq] at hq
    cases l with
    | nil=>simp only [Ent.sub,Option.some.injEq] at hq; exact .inr (.inl ⟨rfl,hq.symm⟩)
    | cons=>simp [Ent.sub] at hq
   ·rw [if_neg e] at hq
    exact .inl ⟨hl,fun e'=>e e'.symm,by rw [b8.at_eq]; exact hq⟩
  ·rw [b8.get_right (by simpa using hl)] at hq
   have hz:q1=σv.length:=by
    have:=b8.lt_of hq
    simp at this; omega
   subst hz
   rw [b8.at_eq] at hq
   simp only [List.length_set,Nat.sub_self,b8.at,List.getElem?_cons_zero,Option.some.injEq] at hq
   cases l with
   | nil=>simp only [Ent.sub,Option.some.injEq] at hq; exact .inr (.inr ⟨rfl,hq.symm⟩)
   | cons=>simp [Ent.sub] at hq
 have hlen':(σv.set r (.one (vecP pre post g kb fb k M i (σv.length,[]) (g a).length a))++[Ent.one (vec kb fb (g a))]).length=σv.length+1:=by simp
 refine Sub.mk π (fun q hq=>π0 q (fun e=>by subst e; simp at hq; omega)) (by rw [hlen']; omega) (fun q j b b' hq hj hE=> ?_) (fun q b hq=> ?_) (fun t v ht=> ?_)
 ·rcases cases3 q b hq with ⟨g1,g2,_⟩ | ⟨rfl,_⟩ | ⟨rfl,_⟩<;>rcases cases3 j b' hj with ⟨k1,k2,_⟩ | ⟨rfl,_⟩ | ⟨rfl,_⟩
  ·rwa [π0 q (fun e=>by subst e; simp at g1),π0 j (fun e=>by subst e; simp at k1)] at hE
  ·rw [π0 q (fun e=>by subst e; simp at g1),π0 _ (fun e=>by cases e; omega)] at hE; exact hE
  ·rw [π0 q (fun e=>by subst e; simp at g1),πn] at hE; subst hE; exact absurd rfl g2
  ·rw [π0 j (fun e=>by subst e; simp at k1),π0 _ (fun e=>by cases e; omega)] at hE; exact hE
  ·rfl
  ·rw [π0 (r,[]) (fun e=>by cases e; omega),πn] at hE; cases hE
  ·rw [π0 j (fun e=>by subst e; simp at k1),πn] at hE; subst hE; exact absurd rfl k2
  ·rw [π0 (r,[]) (fun e=>by cases e; omega),πn] at hE; cases hE
  ·rfl
 ·dsimp only
  rw [hlen']
  rcases cases3 q b hq with ⟨g1,g2,g3⟩ | ⟨rfl,rfl⟩ | ⟨rfl,rfl⟩
  ·have hok:=hR0.st.okB g3
   have hren:b.ren π=b:=Blk.ren_ok (m:=σv.length) (fun i hi=>π0 i (fun e=>by subst e; simp at hi)) b hok
   exact ⟨Blk.ok_mono (Nat.le_succ _) b hok,by rw [π0 q (fun e=>by subst e; simp at g1),hren,xo q g2,g3]⟩
  ·refine ⟨?_, ?_⟩
   ·simp only [vecP,Blk.ok,List.all_eq_true]
    intro e he
    rcases mem_set he with h | rfl
    ·simp only [List.map_map,List.mem_map,Function.comp_apply] at h
     obtain ⟨b,_,rfl⟩:=h
     rw [← aj7,oc_ok]; rfl
    ·rw [oc_ok]; simp [C.ok]
   ·rw [π0 (r,[]) (fun e=>by cases e; omega),xr]
    have eL:((M.map (odat pre post g kb fb)).map (·.map C.imm)).map (C.renL π)=(M.map (odat pre post g kb fb)).map (·.map C.imm):=by
     apply List.ext_getElem?
     intro j
     simp only [List.getElem?_map,Option.map_map]
     cases M[j]? with
     | none=>rfl
     | some b=>simp only [Option.map_some,Function.comp_apply]; rw [← aj7,oc_ren]; rfl
    simp only [vecP,Blk.ren,List.map_set,eL,oc_ren,C.ren,πn]
  ·exact ⟨D9,by rw [πn,xi,B5]⟩
 ·dsimp only at ht ⊢
  rw [hlen']
  obtain ⟨u,_,hr⟩:=hR0.env t v ht
  have hok:=hr.ok
  exact ⟨T.ok_mono (Nat.le_succ _) v hok,by rw [T.ren_ok (m:=σv.length) (fun i hi=>π0 i (fun e=>by subst e; simp at hi)) v hok]; exact ht⟩
theorem vp_frz{i m:Nat}{n:Id}{a a':α}{l:List β}(hm:m=l.length)(ha:odat pre post g kb fb a'=pre a++ .sl kb (l.map fb)::post a):∀ p,((Ent.one (vecP pre post g kb fb k M i n m a)).sub p).map (Blk.frz n kb (l.map fb))=(Ent.one (vec k (odat pre post g kb fb) (M.set i a'))).sub p:=fun p=>by
 subst hm
 cases p with
 | cons=>rfl
 | nil=>
  have eL:((M.map (odat pre post g kb fb)).map (·.map C.imm)).map (C.frzL n kb (l.map fb))=(M.map (odat pre post g kb fb)).map (·.map C.imm):=by
   apply List.ext_getElem?
   intro j
   simp only [List.getElem?_map,Option.map_map]
   cases M[j]? with
   | none=>rfl
   | some b=>simp only [Option.map_some,Function.comp_apply]; rw [← aj7,oc_frz]; rfl
  simp only [Ent.sub,Option.map_some,vecP,vec,Blk.im,Blk.frz,List.map_set,eL,oc_frz,ha]
  simp [oc,C.frz,E9.2 rfl,List.take_of_length_le]
/-! ### The block with one cell owned elsewhere: looked at, written -/
theorem S.idxVP{x y:Operand}{t e:TypeId}{bytes q m:Nat}{z:Value}{kk:IntKind}{i:Int}{a b:α}{n:Id}[ht:TyD P t (.slice e)][hs:TyS P e k bytes z]
  (hi:ix M i=some b) (hx:ev env x=some (.c (.own (r,[]) 0 q))) (hn:q=M.length) (hσ:σv[((r,[]):Id)]? =some (some (vecP pre post g kb fb k M i.toNat n m a))) (hy:ev env y=some (.c (.imm (.val (.int kk i))))) (hd:f7 sz dst=true)
  (h:AOps P σ0 sz ops Q rest (St.mk (putE env dst (.c (.ptr (r,[]) i.toNat 0))) σv)):AOps P σ0 sz ops Q (⟨dst,.indexAddr t x y,ty,pos,after,none⟩::rest) (St.mk env σv):=
 .indexAddrOwn hx hσ hy (by have:=O3 hi; have:=h9 hi; subst hn; omega) hd (by rw [Nat.zero_add]; exact h)
theorem S.loadVP{x:Operand}{t:TypeId}{d:TypeDesc}{i:Int}{o m:Nat}{a b:α}{n:Id}[ht:TyD P t d](hi:ix M i=some b)(hx:ev env x=some (.c (.ptr (r,[]) i.toNat o)))(hσ:σv[((r,[]):Id)]? =some (some (vecP pre post g kb fb k M i.toNat n m a)))(ho:(pre a).length=o)(ha:A6 d=false)(hd:f7 sz dst=true)
  (h:AOps P σ0 sz ops Q rest (St.mk (putE env dst (.c (.own n 0 m))) σv)):AOps P σ0 sz ops Q (⟨dst,.load t x,ty,pos,after,none⟩::rest) (St.mk env σv):=
 AOps.E (e:=oc pre post (.own n 0 m) a) ha hx hσ (by have:=h9 hi; simp [this]) (by subst ho; simp [oc]) hd h
theorem S.storeVP{x y:Operand}{t:TypeId}{bytes m m' o:Nat}{i:Int}{z:Value}{a b:α}{n n':Id}[hs:TyS P t 1 bytes z](hi:ix M i=some b)(hx:ev env x=some (.c (.ptr (r,[]) i.toNat o)))(hy:ev env y=some (.c (.own n' 0 m')))
  (hσ:σv[((r,[]):Id)]? =some (some (vecP pre post g kb fb k M i.toNat n m a))) (ho:(pre a).length=o) (hσ':putF σv (r,[]) (some (vecP pre post g kb fb k M i.toNat n' m' a))=some σ') (h:AOps P σ0 sz ops Q rest (St.mk env σ')):AOps P σ0 sz ops Q (⟨none,.store t x y,ty,pos,after,none⟩::rest) (St.mk env σv):=by
 have h2:=u3 hσ'
 subst h2
 refine AOps.store (e:=oc pre post (.own n 0 m) a) hx hy hσ (by have:=h9 hi; simp [this]) (by subst ho; simp [oc]) ?_
 have e:(((M.map (odat pre post g kb fb)).map (·.map C.imm)).set i.toNat (oc pre post (.own n 0 m) a)).set i.toNat ((oc pre post (.own n 0 m) a).set o (.own n' 0 m'))=((M.map (odat pre post g kb fb)).map (·.map C.imm)).set i.toNat (oc pre post (.own n' 0 m') a):=by
  rw [List.set_set]
  congr 1
  subst ho
  simp only [oc]
  rw [List.set_append_right _ _ (by simp)]
  simp
 rw [e]
 exact h
theorem vp_elem{i m:Nat}{n:Id}{a:α}{e:List C}(h:e ∈ ((M.map (odat pre post g kb fb)).map (·.map C.imm)).set i (oc pre post (.own n 0 m) a)):(∃ b:α,e=oc pre post (.imm (.sl kb ((g b).map fb))) b)∨e=oc pre post (.own n 0 m) a:=by
 rcases mem_set h with h | h
 ·simp only [List.map_map,List.mem_map,Function.comp_apply] at h
  obtain ⟨b,_,rfl⟩:=h
  exact .inl ⟨b,aj7.symm⟩
 ·exact .inr h
theorem vp_ok{i m N:Nat}{n:Id}{a:α}(h:Nat.blt n.1 N=true):(vecP pre post g kb fb k M i n m a).ok N=true:=by
 simp only [vecP,Blk.ok,List.all_eq_true]
 intro e he
 rcases vp_elem he with ⟨b,rfl⟩ | rfl
 ·rw [oc_ok]; rfl
 ·rw [oc_ok]; simpa [C.ok] using h
theorem vp_ren{i m:Nat}{n:Id}{a:α}{π:Id→Id}:(vecP pre post g kb fb k M i n m a).ren π=vecP pre post g kb fb k M i (π n) m a:=by
 have eL:((M.map (odat pre post g kb fb)).map (·.map C.imm)).map (C.renL π)=(M.map (odat pre post g kb fb)).map (·.map C.imm):=by
  apply List.ext_getElem?
  intro j
  simp only [List.getElem?_map,Option.map_map]
  cases M[j]? with
  | none=>rfl
  | some b=>simp only [Option.map_some,Function.comp_apply]; rw [← aj7,oc_ren]; rfl
 simp only [vecP,Blk.ren,List.map_set,eL,oc_ren,C.ren]
theorem vp_mv{i m:Nat}{n n' j:Id}{a:α}{π:Id→Id}(hπ:π n=n')(h:σv[j]? =some (some (vecP pre post g kb fb k M i n' m a))):σv[j]? =some (some ((vecP pre post g kb fb k M i n m a).ren π)):=by rw [vp_ren,hπ]; exact h
end
end Ab
end
section
namespace Ab
open Go Go.Proofs
set_option linter.all false
abbrev d5(l:List Int):List I:=[.sl 1 (l.map intI)]
structure TOutcome where
  add:List Int
  del:List Int
  weight:Int
structure aq8 where
  pre:List Int
  outcomes:List TOutcome
  cost:Int
structure TOpenTask where
  facts:Int
  init:List Int
  goal:List Int
  operators:List aq8
structure ai3 where
  fx:Int
  fy:Int
  signed:Bool
  code:Int
structure Truntime_boundsError where
  fx:Int
  fy:Int
  signed:Bool
  code:Int
structure af7 where
  facts:Int
  init:List Int
  goal:List Int
  operators:List aq8
structure ar2 where
  pre:List Int
  outcomes:List TOutcome
  cost:Int
structure TChoice where
  state:List Int
  operator:Int
structure TCode_int_Index_int where
  code:Int
  index:Int
structure g8 where
  code:Int
  index:Int
structure f9 where
  pre:List Int
  add:List Int
  del:List Int
  cost:Int
abbrev f8(v:f9):List I:=[.sl 1 (List.map intI v.pre),.sl 1 (List.map intI v.add),.sl 1 (List.map intI v.del),.val (.int .i64 v.cost)]
structure ai2 where
  facts:Int
  init:List Int
  goal:List Int
  operators:List f9
structure d7 where
  facts:Int
  init:List Int
  goal:List Int
  operators:List f9
abbrev eTTask(v:d7):List I:=[.val (.int .i64 v.facts),.sl 1 (List.map intI v.init),.sl 1 (List.map intI v.goal),.sl 4 (List.map f8 v.operators)]
abbrev eLLi64(l:List (List Int)):List I:=[.sl 1 (l.map d5)]
structure TState_int_Operator_int where
  state:List Int
  operator:Int
structure TAdd_int_Del_int_Weight_int where
  add:List Int
  del:List Int
  weight:Int
structure at6 where
  pre:List Int
  add:List Int
  del:List Int
  cost:Int
structure s9 where
  ffrom:Int
  cost:Int
abbrev i8(v:s9):List I:=[.val (.int .u32 v.ffrom),.val (.int .i64 v.cost)]
structure Tspace_Step_uint32 where
  op:Int
  cost:Int
  to:Int
structure TOp_int_Cost_int_To_uint32 where
  op:Int
  cost:Int
  to:Int
structure Tfrom_uint32_cost_int where
  ffrom:Int
  cost:Int
structure i7 where
  pre:Int
  add:Int
  del:Int
  cost:Int
abbrev d4(v:i7):List I:=[.val (.int .u32 v.pre),.val (.int .u32 v.add),.val (.int .u32 v.del),.val (.int .i64 v.cost)]
structure ap4 where
  start:Int
  goal:Int
  ops:List i7
structure Tspace_Words where
  start:Int
  goal:Int
  ops:List i7
structure ao6 where
  pre:Int
  add:Int
  del:Int
  cost:Int
structure ar5 where
  item:Int
  key:Int
  time:Int
  fat:Int
structure c8 where
  item:Int
  key:Int
  time:Int
  fat:Int
abbrev b9(v:c8):List I:=[.val (.int .u32 v.item),.val (.int .i64 v.key),.val (.int .i64 v.time),.val (.int .i64 v.fat)]
structure Tnode_int_from_int_step_int where
  node:List (List Int)
  ffrom:Int
  step:Int
structure d9 where
  node:List (List Int)
  ffrom:Int
  step:Int
abbrev d8(v:d9):List I:=[.sl 1 (List.map d5 v.node),.val (.int .i64 v.ffrom),.val (.int .i64 v.step)]
abbrev preOp(o:f9):List I:=[.sl 1 (o.pre.map intI)]
abbrev postOp(o:f9):List I:=[.sl 1 (o.del.map intI),.val (.int .i64 o.cost)]
abbrev omOp(r:Nat)(M:List f9):Ent:=omat r 4 preOp postOp f9.add 1 intI M
abbrev vpOp(M:List f9)(i n m:Nat)(a:f9):Blk:=vecP preOp postOp f9.add 1 intI 4 M i (n,[]) m a
def S8(l:List Int)(nv:Int):Int→Unit→Option (Unit ⊕ Bool):=fun t3 _=>Option.bind (ix l t3) fun a12=>Option.bind (if a12<0 then some true else if nv≤a12 then some true else if 0<t3 then Option.bind (ix l (t3 - 1)) fun a29=>some (decide (a12≤a29)) else some false) fun t4=>if t4=true then some (.inr false) else some (.inl ())
def A8(l:List Int)(nv:Int):Option Bool:=(Option.bind (rngX 0 (l.length:Int) (S8 l nv) ()) fun | .inl _=>some true | .inr x=>some x)
def cmp_isNaN_int(xv:Int):Option Bool:=some (!(decide (xv=xv)))
def U9(xv:Int)(yv:Int):Option Bool:=Option.bind (Option.bind (cmp_isNaN_int xv) fun a6=>if a6=true then Option.bind (cmp_isNaN_int yv) fun a9=>if (!a9)=true then some true else some (decide (xv<yv)) else some (decide (xv<yv))) fun t3=>some t3
def K7(xv:Int):Option Bool:=some (!(decide (xv=xv)))
def y8(xv:List Int)(target:Int):(Int × Int)→Option ((Int × Int) ⊕ Int):=fun (iv3,j4)=>if iv3<j4 then Option.bind (ix xv (w64 (shrW .u64 ((IntKind.u64).wrap (w64 (iv3+j4))) 1))) fun a24=>Option.bind (U9 a24 target) fun a27=>if a27=true then some (.inl (w64 ((w64 (shrW .u64 ((IntKind.u64).wrap (w64 (iv3+j4))) 1))+1),j4)) else some (.inl (iv3,w64 (shrW .u64 ((IntKind.u64).wrap (w64 (iv3+j4))) 1))) else some (.inr iv3)
noncomputable def q9(xv:List Int)(target:Int):Option (Int × Bool):=Option.bind (Loop (y8 xv target) (0,(xv.length:Int))) fun iv5=>Option.bind (if iv5<(xv.length:Int) then Option.bind (ix xv iv5) fun a38=>if a38=target then some true else Option.bind (ix xv iv5) fun a45=>Option.bind (K7 a45) fun a47=>if a47=true then Option.bind (K7 target) fun a50=>some a50 else some false else some false) fun t8=>some (iv5,t8)
noncomputable def V3(xv:Int)(c2:List Int):Option Bool:=Option.bind (q9 c2 xv) fun a9=>some a9.2
def B8(sv:List Int)(fv:Int→Option Bool):Int→Unit→Option (Unit ⊕ Int):=fun t3 _=>Option.bind (ix sv t3) fun a14=>Option.bind (fv a14) fun a16=>if a16=true then some (.inr t3) else some (.inl ())
def E6(sv:List Int)(fv:Int→Option Bool):Option Int:=(Option.bind (rngX 0 (sv.length:Int) (B8 sv fv) ()) fun | .inl _=>some (-1) | .inr x=>some x)
def w7(sv:List Int)(fv:Int→Option Bool):Option Bool:=Option.bind (E6 sv fv) fun a7=>some (decide (0≤a7))
noncomputable def T5(av:List Int)(bv:List Int):Option Bool:=Option.bind (w7 av (fun y1=>V3 y1 bv)) fun a7=>some a7
def internal_strconv_small(iv:Int):Option ByteArray:=if iv<10 then Option.bind (subS (⟨#[48,49,50,51,52,53,54,55,56,57,97,98,99,100,101,102,103,104,105,106,107,108,109,110,111,112,113,114,115,116,117,118,119,120,121,122]⟩:ByteArray) iv (w64 (iv+1))) fun a8=>some a8 else Option.bind (subS (⟨#[48,48,48,49,48,50,48,51,48,52,48,53,48,54,48,55,48,56,48,57,49,48,49,49,49,50,49,51,49,52,49,53,49,54,49,55,49,56,49,57,50,48,50,49,50,50,50,51,50,52,50,53,50,54,50,55,50,56,50,57,51,48,51,49,51,50,51,51,51,52,51,53,51,54,51,55,51,56,51,57,52,48,52,49,52,50,52,51,52,52,52,53,52,54,52,55,52,56,52,57,53,48,53,49,53,50,53,51,53,52,53,53,53,54,53,55,53,56,53,57,54,48,54,49,54,50,54,51,54,52,54,53,54,54,54,55,54,56,54,57,55,48,55,49,55,50,55,51,55,52,55,53,55,54,55,55,55,56,55,57,56,48,56,49,56,50,56,51,56,52,56,53,56,54,56,55,56,56,56,57,57,48,57,49,57,50,57,51,57,52,57,53,57,54,57,55,57,56,57,57]⟩:ByteArray) (w64 (iv * 2)) (w64 ((w64 (iv * 2))+2))) fun a14=>some a14
abbrev X3(iv:Int)(base:Int)(l:List Int):b8:=[.one (vec 1 eU8 l)]
def y5(iv:Int)(base:Int)(l:List Int):Option (List Int):=if base=10 then if iv<100 then Option.bind (internal_strconv_small (w64 iv)) fun a16=>Option.bind (app 1 l (strL a16)) fun a17=>some a17 else none else none
abbrev aa3(iv:Int)(base:Int)(l:List Int):b8:=[.one (vec 1 eU8 l)]
def z6(iv:Int)(base:Int)(l:List Int):Option (List Int):=Option.bind (if iv<0 then none else some ()) fun _=>Option.bind (y5 ((IntKind.u64).wrap iv) base l) fun a20=>some a20
abbrev am2(iv:Int)(base:Int)(l:List Int):b8:=[.one (vec 1 eU8 l)]
def B1(iv:Int)(base:Int)(l:List Int):Option (List Int):=Option.bind (z6 iv base l) fun a10=>some a10
def ah8(a12:List Int):Int→(List Int)→Option (List Int):=fun t5 c4=>Option.bind (ix a12 t5) fun a18=>Option.bind (B1 a18 10 c4) fun a22=>Option.bind (app 1 a22 [44]) fun a24=>some a24
def ah9(l:List (List Int)):Int→(List Int)→Option (List Int):=fun t3 c2=>Option.bind (ix l t3) fun a12=>(Option.bind (forR 0 (a12.length:Int) (ah8 a12) c2) fun c4=>Option.bind (app 1 c4 [59]) fun a28=>some a28)
def y4(l:List (List Int)):Option ByteArray:=(Option.bind (forR 0 (l.length:Int) (ah9 l) []) fun c2=>some (strB c2))
def H0(sv:List Int)(a12:Int):Int→Option (Int ⊕ Int):=fun iv5=>Option.bind (if iv5<(sv.length:Int) then Option.bind (ix sv iv5) fun a21=>some (decide (a21<a12)) else some false) fun t7=>if t7=true then some (.inl (w64 (iv5+1))) else some (.inr iv5)
noncomputable def M8(sv:List Int)(part:List Int):Int→Int→Option (Int ⊕ Bool):=fun t4 iv3=>Option.bind (ix part t4) fun a12=>Option.bind (Loop (H0 sv a12) iv3) fun iv6=>Option.bind (if iv6=(sv.length:Int) then some true else Option.bind (ix sv iv6) fun a35=>some (!(decide (a35=a12)))) fun t11=>if t11=true then some (.inr false) else some (.inl iv6)
noncomputable def y7(sv:List Int)(part:List Int):Option Bool:=(Option.bind (rngX 0 (part.length:Int) (M8 sv part) 0) fun | .inl iv3=>some true | .inr x=>some x)
noncomputable def aa7(sv:List Int)(del:List Int):Int→(List Int)→Option (List Int):=fun t5 c4=>Option.bind (Option.bind (ix sv t5) fun a16=>Option.bind (q9 del a16) fun a21=>if (!a21.2)=true then Option.bind (app 8 c4 [a16]) fun a29=>some a29 else some c4) fun c6=>some c6
noncomputable def C3(sv:List Int)(add:List Int)(del:List Int):Option (List Int):=(Option.bind (forR 0 (sv.length:Int) (aa7 sv del) []) fun c4=>Option.bind (app 8 c4 add) fun a33=>Option.bind (sortL a33) fun a35=>some (aa9 a35))
def cmp_Compare_int(xv:Int)(yv:Int):Option Int:=Option.bind (cmp_isNaN_int xv) fun a8=>Option.bind (cmp_isNaN_int yv) fun a10=>if a8=true then if a10=true then some 0 else some (-1) else if a10=true then some 1 else if xv<yv then some (-1) else if yv<xv then some 1 else some 0
def D2(s11:List Int)(s22:List Int):Int→Unit→Option (Unit ⊕ Int):=fun t3 _=>Option.bind (ix s11 t3) fun a14=>if (s22.length:Int)≤t3 then some (.inr 1) else Option.bind (ix s22 t3) fun a22=>Option.bind (cmp_Compare_int a14 a22) fun a26=>if a26=0 then some (.inl ()) else some (.inr a26)
def u4(s11:List Int)(s22:List Int):Option Int:=(Option.bind (rngX 0 (s11.length:Int) (D2 s11 s22) ()) fun | .inl _=>if (s11.length:Int)<(s22.length:Int) then some (-1) else some 0 | .inr x=>some x)
def M1(s11:List Int)(s22:List Int):Int→Unit→Option (Unit ⊕ Bool):=fun t4 _=>Option.bind (ix s11 t4) fun a18=>Option.bind (ix s22 t4) fun a22=>if a18=a22 then some (.inl ()) else some (.inr false)
def B2(s11:List Int)(s22:List Int):Option Bool:=if (s11.length:Int)=(s22.length:Int) then (Option.bind (rngX 0 (s11.length:Int) (M1 s11 s22) ()) fun | .inl _=>some true | .inr x=>some x) else some false
abbrev x6(l:List (List Int)):b8:=[.one (vec 1 d5 l)]
def s8(l:List (List Int))(kv54:Int):Int→((List (List Int)) × Int)→Option ((List (List Int)) × Int):=fun k258 (c56,kv57)=>Option.bind (Option.bind (ixV c56 (0+kv54) ((l.length:Int) - kv54) k258) fun a41=>Option.bind (ixV c56 (0+kv54) ((l.length:Int) - kv54) (k258 - 1)) fun a46=>Option.bind (B2 a41 a46) fun a48=>if (!a48)=true then Option.bind (ixV c56 (0+kv54) ((l.length:Int) - kv54) k258) fun a54=>Option.bind (ix c56 kv57) fun a56=>some (c56.set kv57.toNat a54,w64 (kv57+1)) else some (c56,kv57)) fun ⟨c59,kv60⟩=>some (c59,kv60)
def q8(l:List (List Int)):Int→Unit→Option (Unit ⊕ (List (List Int))):=fun kv54 _=>Option.bind (ix l kv54) fun a21=>Option.bind (ix l (kv54 - 1)) fun a26=>Option.bind (B2 a21 a26) fun a28=>if a28=true then Option.bind (cutV (l.length:Int) kv54 (l.length:Int)) fun u31=>(Option.bind (forR 1 ((l.length:Int) - kv54) (s8 l kv54) (l,kv54)) fun ⟨c56,kv57⟩=>Option.bind (cutV (c56.length:Int) kv57 (c56.length:Int)) fun u61=>Option.bind (cutV ((clrL c56 (0+kv57) ((c56.length:Int) - kv57) []).length:Int) 0 kv57) fun u64=>some (.inr (n8 (clrL c56 (0+kv57) ((c56.length:Int) - kv57) []) 0 kv57))) else some (.inl ())
def w4(l:List (List Int)):Option (List (List Int)):=if (l.length:Int)<2 then some l else (Option.bind (rngX 1 (l.length:Int) (q8 l) ()) fun | .inl _=>some l | .inr x=>some x)
abbrev as2(l:List (List Int)):b8:=[.one (vec 1 d5 l)]
noncomputable def I2(l:List (List Int)):Option (List (List Int)):=Option.bind (ad5 u4 l) fun a4=>Option.bind (w4 a4) fun a6=>some a6
def D1(sv:List (List Int))(fv:(List Int)→Option Bool):Int→Unit→Option (Unit ⊕ Int):=fun t3 _=>Option.bind (ix sv t3) fun a14=>Option.bind (fv a14) fun a16=>if a16=true then some (.inr t3) else some (.inl ())
def G4(sv:List (List Int))(fv:(List Int)→Option Bool):Option Int:=(Option.bind (rngX 0 (sv.length:Int) (D1 sv fv) ()) fun | .inl _=>some (-1) | .inr x=>some x)
def x9(sv:List (List Int))(fv:(List Int)→Option Bool):Option Bool:=Option.bind (G4 sv fv) fun a7=>some (decide (0≤a7))
def al9(av:List Int)(bv:List Int):Int→Unit→Option (Unit ⊕ Bool):=fun iv4 _=>Option.bind (ix av iv4) fun a19=>Option.bind (ix bv iv4) fun a23=>if a19=a23 then some (.inl ()) else some (.inr false)
def ah2(av:List Int)(bv:List Int):Option Bool:=if (av.length:Int)=(bv.length:Int) then (Option.bind (rngX 0 (av.length:Int) (al9 av bv) ()) fun | .inl _=>some true | .inr x=>some x) else some false
noncomputable def N6(ov:f9)(facts:Int):Option Int:=Option.bind (Option.bind (A8 ov.pre facts) fun a9=>if (!a9)=true then some true else Option.bind (A8 ov.add facts) fun a15=>if (!a15)=true then some true else Option.bind (A8 ov.del facts) fun a22=>if (!a22)=true then some true else Option.bind (T5 ov.add ov.del) fun a30=>some a30) fun t3=>if t3=true then some 5 else if ((decide (ov.cost<0)) || (decide (100<ov.cost)))=true then some 3 else some 0
noncomputable def G8(t:d7):Int→Unit→Option (Unit ⊕ g8):=fun t6 _=>Option.bind (ix t.operators t6) fun a44=>Option.bind (N6 a44 t.facts) fun a49=>if a49=0 then some (.inl ()) else some (.inr (⟨a49,t6⟩:g8))
noncomputable def s6(t:d7):Option g8:=if ((decide (t.facts<0)) || (decide (24<t.facts)))=true then some (⟨3, -1⟩:g8) else Option.bind (A8 t.init t.facts) fun a21=>if (!a21)=true then some (⟨5, -2⟩:g8) else Option.bind (A8 t.goal t.facts) fun a29=>if (!a29)=true then some (⟨5, -3⟩:g8) else if 40<(t.operators.length:Int) then some (⟨2, -1⟩:g8) else (Option.bind (rngX 0 (t.operators.length:Int) (G8 t) ()) fun | .inl _=>some (⟨0,0⟩:g8) | .inr x=>some x)
def Y6(sv:List Int):Int→Int→Option Int:=fun t3 w2=>Option.bind (ix sv t3) fun a10=>Option.bind (chk0 a10) fun u14=>some (Go.bits .or .u32 w2 (shlW .u32 1 a10))
def J8(sv:List Int):Option Int:=(Option.bind (forR 0 (sv.length:Int) (Y6 sv) 0) fun w2=>some w2)
def V5(w:Int):Int→(List Int)→Option (List Int):=fun t3 c2=>Option.bind (if Go.bits .and .u32 (shrW .u32 w t3) 1=1 then Option.bind (app 8 c2 [t3]) fun a16=>some a16 else some c2) fun c4=>some c4
def S1(w:Int):Option (List Int):=(Option.bind (forR 0 32 (V5 w) []) fun c2=>some c2)
def H9(av:Int)(bv:Int):Option Int:=Option.bind (S1 av) fun a6=>Option.bind (S1 bv) fun a8=>Option.bind (u4 a6 a8) fun a9=>some a9
abbrev aq9(t:d7):b8:=[]
def Y3(t:d7):Int→(List i7)→Option (List i7):=fun t56 c55=>Option.bind (ix t.operators t56) fun a19=>Option.bind (J8 a19.pre) fun a28=>Option.bind (J8 a19.add) fun a31=>Option.bind (J8 a19.del) fun a34=>Option.bind (app 24 c55 [(⟨a28,a31,a34,a19.cost⟩:i7)]) fun a39=>some a39
def ae5(t:d7):Option (Int × Int × (List i7)):=Option.bind (J8 t.init) fun a8=>Option.bind (J8 t.goal) fun a11=>(Option.bind (forR 0 (t.operators.length:Int) (Y3 t) []) fun c55=>some (a8,a11,c55))
abbrev an7(start:Int)(goal:Int)(l:List i7):b8:=[.one (.cells 3 [[.imm (.val (.int .u32 start)),.imm (.val (.int .u32 goal)),.own 1 0 l.length]]),.one (vec 4 d4 l)]
def x8(start:Int)(goal:Int)(l:List i7):Option Unit:=some ()
abbrev ao3(sv:Int)(start:Int)(goal:Int)(l:List i7):b8:=[.one (.cells 3 [[.imm (.val (.int .u32 start)),.imm (.val (.int .u32 goal)),.own 1 0 l.length]]),.one (vec 4 d4 l)]
def C0(sv:Int)(start:Int)(goal:Int)(l:List i7):Option Unit:=some ()
abbrev Q0(start:Int)(goal:Int)(l:List i7):b8:=[.one (.cells 3 [[.imm (.val (.int .u32 start)),.imm (.val (.int .u32 goal)),.own 1 0 l.length]]),.one (vec 4 d4 l)]
def H8(l:List i7)(a26:Int)(u32:Unit):Int→((List (Int × Unit)) × (List Int))→Option ((List (Int × Unit)) × (List Int)):=fun t66 (c64,c65)=>Option.bind (ix l t66) fun ai14=>if Go.bits .and .u32 a26 ai14.pre=ai14.pre then if (!(Option.isSome (mget c64 (Go.bits .or .u32 (Go.bits .andNot .u32 a26 ai14.del) ai14.add))))=true then Option.bind (app 4 c65 [Go.bits .or .u32 (Go.bits .andNot .u32 a26 ai14.del) ai14.add]) fun ab58=>some (mset c64 (Go.bits .or .u32 (Go.bits .andNot .u32 a26 ai14.del) ai14.add) (),ab58) else some (c64,c65) else some (c64,c65)
def I3(l:List i7)(c56:List Int)(c57:List (Int × Unit))(a26:Int)(u32:Unit):Option ((List (Int × Unit)) × (List Int)):=(Option.bind (forR 0 (l.length:Int) (H8 l a26 u32) (c57,n8 c56 0 ((c56.length:Int) - 1))) fun ⟨c64,c65⟩=>some (c64,c65))
def H6(start:Int)(goal:Int)(l:List i7):((List Int) × (List (Int × Unit)) × (List Int))→Option (((List Int) × (List (Int × Unit)) × (List Int)) ⊕ ((List Int) ⊕ ((List Int) × Bool))):=fun (c56,c57,c58)=>if 0<(c56.length:Int) then Option.bind (ix c56 ((c56.length:Int) - 1)) fun a26=>Option.bind (cutV (c56.length:Int) 0 ((c56.length:Int) - 1)) fun u32=>Option.bind (app 4 c58 [a26]) fun a36=>Option.bind (C0 a26 start goal l) fun a39=>Option.bind (I3 l c56 c57 a26 u32) fun ⟨c62,c63⟩=>if 2000<(c62.length:Int) then some (.inr (.inr ([],false))) else some (.inl (c63,c62,a36)) else some (.inr (.inl c58))
noncomputable def H2(start:Int)(goal:Int)(l:List i7):Option ((List Int) × Bool):=Option.bind (x8 start goal l) fun a12=>Option.bind (x8 start goal l) fun a16=>Option.bind (Loop (H6 start goal l) ([start],mset ([]:List (Int × Unit)) start (),[])) fun | .inl c59=>some (c59,true) | .inr x=>some x
abbrev as9(t:d7):b8:=[]
noncomputable def E7(t:d7):Option ((Int × Int) ⊕ (Int × Int × (List i7) × (List Int))):=Option.bind (s6 t) fun a10=>if (!((decide (a10.code=0)) && (decide (a10.index=0))))=true then some (.inl (a10.code,a10.index)) else Option.bind (ae5 t) fun a16=>Option.bind (H2 a16.1 a16.2.1 a16.2.2) fun a20=>if (!a20.2)=true then some (.inl (10, -7)) else Option.bind (sortFU H9 a20.1) fun a27=>some (.inr (a16.1,a16.2.1,a16.2.2,a27))
abbrev al4:b8:=[]
def H5:Option Unit:=some ()
abbrev ao2(sv:Int)(start:Int)(goal:Int)(l:List i7):b8:=[.one (.cells 3 [[.imm (.val (.int .u32 start)),.imm (.val (.int .u32 goal)),.own 1 0 l.length]]),.one (vec 4 d4 l)]
def L9(sv:Int)(start:Int)(goal:Int)(l:List i7):Option Unit:=some ()
abbrev ae7(l:List Int)(l2:List c8):b8:=[.one (prow 1 l),pool 4 b9 l2]
def o4(l:List Int)(l2:List c8):Option Unit:=some ()
abbrev ac9(iv:Int)(kv:Int)(l:List Int)(l4:List c8):b8:=[.one (prow 1 l),pool 4 b9 l4]
def m6(iv:Int)(kv:Int)(l:List Int)(l4:List c8):Option Bool:=Option.bind (ix l iv) fun a9=>Option.bind (ix l4 a9) fun en56=>Option.bind (ix l kv) fun a16=>Option.bind (ix l4 a16) fun en57=>some ((decide (en56.key<en57.key)) || ((decide (en56.key=en57.key)) && (decide (en56.time<en57.time))))
abbrev ac8(iv:Int)(kv:Int)(l:List Int)(l4:List c8):b8:=[.one (prow 1 l),pool 4 b9 l4]
def m4(iv:Int)(kv:Int)(l:List Int)(l4:List c8):Option ((List Int) × (List c8)):=Option.bind (ix l kv) fun a12=>Option.bind (ix l iv) fun a16=>Option.bind (ix ((l.set iv.toNat a12).set kv.toNat a16) iv) fun ha57=>Option.bind (ix ((l.set iv.toNat a12).set kv.toNat a16) kv) fun ha58=>Option.bind (ix l4 ha57) fun en59=>Option.bind (ix (l4.set ha57.toNat (⟨en59.item,en59.key,en59.time,iv⟩:c8)) ha58) fun en60=>some ((l.set iv.toNat a12).set kv.toNat a16,(l4.set ha57.toNat (⟨en59.item,en59.key,en59.time,iv⟩:c8)).set ha58.toNat (⟨en60.item,en60.key,en60.time,kv⟩:c8))
abbrev T4(i01:Int)(nv:Int)(time:Int)(l:List Int)(l5:List (Int × Int))(l6:List c8):b8:=[.one (.cells 3 [[.own 1 0 l.length,.map 2,int time]]),.one (prow 3 l),.one (pmap 3 (Value.int .u32) l5),pool 4 b9 l6]
def v8(nv:Int):((List Int) × (List c8) × Int)→Option (((List Int) × (List c8) × Int) ⊕ ((List Int) × (List c8) × Int)):=fun (c60,c61,iv62)=>if ((decide (nv≤w64 ((w64 (2 * iv62))+1))) || (decide (w64 ((w64 (2 * iv62))+1)<0)))=true then some (.inr (c60,c61,iv62)) else Option.bind (Option.bind (if w64 ((w64 ((w64 (2 * iv62))+1))+1)<nv then Option.bind (m6 (w64 ((w64 ((w64 (2 * iv62))+1))+1)) (w64 ((w64 (2 * iv62))+1)) c60 c61) fun a32=>some a32 else some false) fun t69=>if t69=true then some (w64 ((w64 ((w64 (2 * iv62))+1))+1)) else some (w64 ((w64 (2 * iv62))+1))) fun j67=>Option.bind (m6 j67 iv62 c60 c61) fun a38=>if (!a38)=true then some (.inr (c60,c61,iv62)) else Option.bind (m4 iv62 j67 c60 c61) fun a43=>Option.bind (ad9 c60 a43.1) fun u74=>some (.inl (a43.1,a43.2,j67))
noncomputable def y9(i01:Int)(nv:Int)(time:Int)(l:List Int)(l5:List (Int × Int))(l6:List c8):Option ((List Int) × (List c8) × Bool):=Option.bind (Loop (v8 nv) (l,l6,i01)) fun ⟨c63,c64,iv65⟩=>some (c63,c64,decide (i01<iv65))
abbrev W5(j:Int)(time:Int)(l:List Int)(l4:List (Int × Int))(l5:List c8):b8:=[.one (.cells 3 [[.own 1 0 l.length,.map 2,int time]]),.one (prow 3 l),.one (pmap 3 (Value.int .u32) l4),pool 4 b9 l5]
def G6:((List Int) × (List c8) × Int)→Option (((List Int) × (List c8) × Int) ⊕ ((List Int) × (List c8))):=fun (c58,c59,j60)=>Option.bind (chkN 2) fun u7=>Option.bind (if w64 ((w64 (j60 - 1)).tdiv 2)=j60 then some true else Option.bind (m6 j60 (w64 ((w64 (j60 - 1)).tdiv 2)) c58 c59) fun a15=>some (!a15)) fun t63=>if t63=true then some (.inr (c58,c59)) else Option.bind (m4 (w64 ((w64 (j60 - 1)).tdiv 2)) j60 c58 c59) fun a21=>Option.bind (ad9 c58 a21.1) fun u67=>some (.inl (a21.1,a21.2,w64 ((w64 (j60 - 1)).tdiv 2)))
noncomputable def C1(j:Int)(time:Int)(l:List Int)(l4:List (Int × Int))(l5:List c8):Option ((List Int) × (List c8)):=Option.bind (Loop G6 (l,l5,j)) fun ⟨c61,c62⟩=>some (c61,c62)
abbrev am4(iv:Int)(time:Int)(l:List Int)(l4:List (Int × Int))(l5:List c8):b8:=[.one (.cells 3 [[.own 1 0 l.length,.map 2,int time]]),.one (prow 3 l),.one (pmap 3 (Value.int .u32) l4),pool 4 b9 l5]
noncomputable def B3(iv:Int)(time:Int)(l:List Int)(l4:List (Int × Int))(l5:List c8):Option ((List Int) × (List c8)):=Option.bind (o4 l l5) fun a7=>Option.bind (y9 iv (l.length:Int) time l l4 l5) fun a8=>if (!a8.2.2)=true then Option.bind (C1 iv time a8.1 l4 a8.2.1) fun a12=>some (a12.1,a12.2) else some (a8.1,a8.2.1)
abbrev aa6(xv:Int)(time:Int)(l:List c8)(l4:List Int)(l5:List (Int × Int)):b8:=[.one (.cells 3 [[.own 2 0 l4.length,.map 3,int time]]),pool 4 b9 l,.one (prow 1 l4),.one (pmap 1 (Value.int .u32) l5)]
def z7(xv:Int)(time:Int)(l:List c8)(l4:List Int)(l5:List (Int × Int)):Option ((List c8) × (List Int)):=Option.bind (ix l xv) fun en58=>Option.bind (app 8 l4 [xv]) fun a20=>some (l.set xv.toNat (⟨en58.item,en58.key,en58.time,(l4.length:Int)⟩:c8),a20)
abbrev al0(xv:Int)(time:Int)(l:List c8)(l4:List Int)(l5:List (Int × Int)):b8:=[.one (.cells 3 [[.own 2 0 l4.length,.map 3,int time]]),pool 4 b9 l,.one (prow 1 l4),.one (pmap 1 (Value.int .u32) l5)]
noncomputable def z2(xv:Int)(time:Int)(l:List c8)(l4:List Int)(l5:List (Int × Int)):Option ((List c8) × (List Int)):=Option.bind (z7 xv time l l4 l5) fun a6=>Option.bind (o4 a6.2 a6.1) fun a9=>Option.bind (C1 (w64 ((a6.2.length:Int) - 1)) time a6.2 l5 a6.1) fun a11=>some (a11.2,a11.1)
abbrev ad2(item:Int)(key:Int)(time:Int)(l:List Int)(l5:List (Int × Int))(l6:List c8):b8:=[.one (.cells 3 [[.own 1 0 l.length,.map 2,int time]]),.one (prow 3 l),.one (pmap 3 (Value.int .u32) l5),pool 4 b9 l6]
noncomputable def p8(item:Int)(key:Int)(time:Int)(l:List Int)(l5:List (Int × Int))(l6:List c8):Option ((List (Int × Int)) × (List Int) × (List c8)):=if (Option.isSome (mget l5 item))=true then Option.bind (mget l5 item) fun ap61=>Option.bind (ix l6 ap61) fun en62=>Option.bind (B3 en62.fat (w64 (time+1)) l l5 ((l6.set ap61.toNat (⟨en62.item,key,en62.time,en62.fat⟩:c8)).set ap61.toNat (⟨en62.item,key,w64 (time+1),en62.fat⟩:c8))) fun a45=>some (l5,a45.1,a45.2) else Option.bind (chkH l6.length (List.map (·.2) l5)) fun u63=>Option.bind (chkH l6.length l) fun u64=>Option.bind (z2 (l6.length:Int) (w64 (time+1)) (l6++[(⟨item,key,w64 (time+1),0⟩:c8)]) l (mset l5 item (l6.length:Int))) fun a66=>some (mset l5 item (l6.length:Int),a66.2,a66.1)
abbrev ae3(time:Int)(l:List Int)(l3:List (Int × Int))(l4:List c8):b8:=[.one (.cells 3 [[.own 1 0 l.length,.map 2,int time]]),.one (prow 3 l),.one (pmap 3 (Value.int .u32) l3),pool 4 b9 l4]
def B9(time:Int)(l:List Int)(l3:List (Int × Int))(l4:List c8):Option Unit:=some ()
abbrev Y8(iv:Int)(kv:Int)(l:List Int)(l4:List c8):b8:=[.one (prow 1 l),pool 4 b9 l4]
def u9(iv:Int)(kv:Int)(l:List Int)(l4:List c8):Option ((List Int) × (List c8)):=Option.bind (ix l kv) fun a12=>Option.bind (ix l iv) fun a16=>Option.bind (ix ((l.set iv.toNat a12).set kv.toNat a16) iv) fun ha57=>Option.bind (ix ((l.set iv.toNat a12).set kv.toNat a16) kv) fun ha58=>Option.bind (ix l4 ha57) fun en59=>Option.bind (ix (l4.set ha57.toNat (⟨en59.item,en59.key,en59.time,iv⟩:c8)) ha58) fun en60=>some ((l.set iv.toNat a12).set kv.toNat a16,(l4.set ha57.toNat (⟨en59.item,en59.key,en59.time,iv⟩:c8)).set ha58.toNat (⟨en60.item,en60.key,en60.time,kv⟩:c8))
abbrev ab3(iv:Int)(kv:Int)(l:List Int)(l4:List c8):b8:=[.one (prow 1 l),pool 4 b9 l4]
def F3(iv:Int)(kv:Int)(l:List Int)(l4:List c8):Option Bool:=Option.bind (ix l iv) fun a9=>Option.bind (ix l4 a9) fun en56=>Option.bind (ix l kv) fun a16=>Option.bind (ix l4 a16) fun en57=>some ((decide (en56.key<en57.key)) || ((decide (en56.key=en57.key)) && (decide (en56.time<en57.time))))
abbrev T1(i01:Int)(nv:Int)(time:Int)(l:List Int)(l5:List (Int × Int))(l6:List c8):b8:=[.one (.cells 3 [[.own 1 0 l.length,.map 2,int time]]),.one (prow 3 l),.one (pmap 3 (Value.int .u32) l5),pool 4 b9 l6]
def S7(nv:Int):((List Int) × (List c8) × Int)→Option (((List Int) × (List c8) × Int) ⊕ ((List Int) × (List c8) × Int)):=fun (c60,c61,iv62)=>if ((decide (nv≤w64 ((w64 (2 * iv62))+1))) || (decide (w64 ((w64 (2 * iv62))+1)<0)))=true then some (.inr (c60,c61,iv62)) else Option.bind (Option.bind (if w64 ((w64 ((w64 (2 * iv62))+1))+1)<nv then Option.bind (m6 (w64 ((w64 ((w64 (2 * iv62))+1))+1)) (w64 ((w64 (2 * iv62))+1)) c60 c61) fun a32=>some a32 else some false) fun t69=>if t69=true then some (w64 ((w64 ((w64 (2 * iv62))+1))+1)) else some (w64 ((w64 (2 * iv62))+1))) fun j67=>Option.bind (F3 j67 iv62 c60 c61) fun a38=>if (!a38)=true then some (.inr (c60,c61,iv62)) else Option.bind (u9 iv62 j67 c60 c61) fun a43=>Option.bind (ad9 c60 a43.1) fun u74=>some (.inl (a43.1,a43.2,j67))
noncomputable def G5(i01:Int)(nv:Int)(time:Int)(l:List Int)(l5:List (Int × Int))(l6:List c8):Option ((List Int) × (List c8) × Bool):=Option.bind (Loop (S7 nv) (l,l6,i01)) fun ⟨c63,c64,iv65⟩=>some (c63,c64,decide (i01<iv65))
abbrev ac5(time:Int)(l:List Int)(l3:List (Int × Int))(l4:List c8):b8:=[.one (.cells 3 [[.own 1 0 l.length,.map 2,int time]]),.one (prow 3 l),.one (pmap 3 (Value.int .u32) l3),pool 4 b9 l4]
def B0(time:Int)(l:List Int)(l3:List (Int × Int))(l4:List c8):Option ((List Int) × Int):=Option.bind (ix l ((l.length:Int) - 1)) fun a12=>Option.bind (subL l 0 ((l.length:Int) - 1)) fun a19=>some (a19,a12)
abbrev am5(time:Int)(l:List Int)(l3:List (Int × Int))(l4:List c8):b8:=[.one (.cells 3 [[.own 1 0 l.length,.map 2,int time]]),.one (prow 3 l),.one (pmap 3 (Value.int .u32) l3),pool 4 b9 l4]
noncomputable def E8(time:Int)(l:List Int)(l3:List (Int × Int))(l4:List c8):Option ((List c8) × (List Int) × Int):=Option.bind (o4 l l4) fun a5=>Option.bind (u9 0 (w64 ((l.length:Int) - 1)) l l4) fun a9=>Option.bind (ad9 l a9.1) fun u58=>Option.bind (G5 0 (w64 ((l.length:Int) - 1)) time a9.1 l3 a9.2) fun a12=>Option.bind (B0 time a12.1 l3 a12.2.1) fun a14=>some (a12.2.1,a14.1,a14.2)
abbrev ab1(time:Int)(l:List Int)(l3:List (Int × Int))(l4:List c8):b8:=[.one (.cells 3 [[.own 1 0 l.length,.map 2,int time]]),.one (prow 3 l),.one (pmap 3 (Value.int .u32) l3),pool 4 b9 l4]
noncomputable def v6(time:Int)(l:List Int)(l3:List (Int × Int))(l4:List c8):Option ((List (Int × Int)) × (List c8) × (List Int) × Int × Int × Bool):=if (l.length:Int)=0 then some (l3,l4,l,0,0,false) else Option.bind (E8 time l l3 l4) fun a17=>Option.bind (ix a17.1 a17.2.2) fun en62=>some (mdel l3 en62.item,a17.1,a17.2.1,en62.item,en62.key,true)
abbrev ac6(item:Int)(key:Int)(time:Int)(l:List Int)(l5:List (Int × Int))(l6:List c8):b8:=[.one (.cells 3 [[.own 1 0 l.length,.map 2,int time]]),.one (prow 3 l),.one (pmap 3 (Value.int .u32) l5),pool 4 b9 l6]
noncomputable def B4(item:Int)(key:Int)(time:Int)(l:List Int)(l5:List (Int × Int))(l6:List c8):Option ((List (Int × Int)) × (List Int) × (List c8)):=if (Option.isSome (mget l5 item))=true then Option.bind (mget l5 item) fun ap61=>Option.bind (ix l6 ap61) fun en62=>Option.bind (B3 en62.fat (w64 (time+1)) l l5 ((l6.set ap61.toNat (⟨en62.item,key,en62.time,en62.fat⟩:c8)).set ap61.toNat (⟨en62.item,key,w64 (time+1),en62.fat⟩:c8))) fun a45=>some (l5,a45.1,a45.2) else Option.bind (chkH l6.length (List.map (·.2) l5)) fun u63=>Option.bind (chkH l6.length l) fun u64=>Option.bind (z2 (l6.length:Int) (w64 (time+1)) (l6++[(⟨item,key,w64 (time+1),0⟩:c8)]) l (mset l5 item (l6.length:Int))) fun a66=>some (mset l5 item (l6.length:Int),a66.2,a66.1)
abbrev P4(l:List Int)(start:Int)(goal:Int)(l4:List i7):b8:=[.one (.cells 3 [[.imm (.val (.int .u32 start)),.imm (.val (.int .u32 goal)),.own 1 0 l4.length]]),.one (vec 4 d4 l4)]
def P1(l4:List i7)(a23:Int):Int→(List (Int × List s9))→Option (List (Int × List s9)):=fun t73 c72=>Option.bind (ix l4 t73) fun ai14=>if Go.bits .and .u32 a23 ai14.pre=ai14.pre then Option.bind (app 16 (rowM c72 (Go.bits .or .u32 (Go.bits .andNot .u32 a23 ai14.del) ai14.add)) [(⟨a23,ai14.cost⟩:s9)]) fun ab51=>some (mset c72 (Go.bits .or .u32 (Go.bits .andNot .u32 a23 ai14.del) ai14.add) ab51) else some c72
def P0(l4:List i7)(c56:List (Int × List s9))(a23:Int):Option (List (Int × List s9)):=(Option.bind (forR 0 (l4.length:Int) (P1 l4 a23) c56) fun c72=>some c72)
noncomputable def J0(l:List Int)(start:Int)(goal:Int)(l4:List i7):Int→((List (Int × List s9)) × (List (Int × Int)) × (List (Int × Int)) × (List c8) × Int × (List Int))→Option ((List (Int × List s9)) × (List (Int × Int)) × (List (Int × Int)) × (List c8) × Int × (List Int)):=fun t62 (c56,c57,c58,c59,c60,c61)=>Option.bind (ix l t62) fun a23=>Option.bind (Option.bind (L9 a23 start goal l4) fun a29=>if Go.bits .and .u32 a23 goal=goal then Option.bind (p8 a23 0 c60 c61 c58 c59) fun a34=>some (mset (mset c57 a23 1000000000) a23 0,a34.1,w64 (c60+1),a34.2.1,a34.2.2) else some (mset c57 a23 1000000000,c58,c60,c61,c59)) fun ⟨c63,c64,c65,c66,c67⟩=>Option.bind (C0 a23 start goal l4) fun a37=>Option.bind (P0 l4 c56 a23) fun c71=>some (c71,c63,c64,c67,c65,c66)
noncomputable def J2(c56:List (Int × List s9))(a58:(List (Int × Int)) × (List c8) × (List Int) × Int × Int × Bool):Int→((List (Int × Int)) × (List (Int × Int)) × (List c8) × Int × (List Int))→Option ((List (Int × Int)) × (List (Int × Int)) × (List c8) × Int × (List Int)):=fun t87 (c82,c83,c84,c85,c86)=>Option.bind (Option.bind (ix (rowM c56 a58.2.2.2.1) t87) fun a68=>if w64 (a58.2.2.2.2.1+a68.cost)<Option.getD (mget c82 a68.ffrom) 0 then Option.bind (B4 a68.ffrom (w64 (a58.2.2.2.2.1+a68.cost)) c85 c86 c83 c84) fun a93=>some (mset c82 a68.ffrom (w64 (a58.2.2.2.2.1+a68.cost)),a93.1,w64 (c85+1),a93.2.1,a93.2.2) else some (c82,c83,c85,c86,c84)) fun ⟨c88,c89,c90,c91,c92⟩=>some (c88,c89,c92,c90,c91)
noncomputable def J3(c56:List (Int × List s9)):((List (Int × Int)) × (List (Int × Int)) × (List c8) × Int × (List Int))→Option (((List (Int × Int)) × (List (Int × Int)) × (List c8) × Int × (List Int)) ⊕ (List (Int × Int))):=fun (c75,c76,c77,c78,c79)=>Option.bind (B9 c78 c79 c76 c77) fun a54=>if 0<(c79.length:Int) then Option.bind (v6 c78 c79 c76 c77) fun a58=>(Option.bind (forR 0 ((rowM c56 a58.2.2.2.1).length:Int) (J2 c56 a58) (c75,a58.1,a58.2.1,c78,a58.2.2.1)) fun ⟨c82,c83,c84,c85,c86⟩=>some (.inl (c82,c83,c84,c85,c86))) else some (.inr c75)
noncomputable def P5(l:List Int)(start:Int)(goal:Int)(l4:List i7):Option (List (Int × Int)):=Option.bind (H5) fun a18=>(Option.bind (forR 0 (l.length:Int) (J0 l start goal l4) (([]:List (Int × List s9)),([]:List (Int × Int)),([]:List (Int × Int)),([]:List c8),0,([]:List Int))) fun ⟨c56,c57,c58,c59,c60,c61⟩=>Option.bind (Loop (J3 c56) (c57,c58,c59,c60,c61)) fun c80=>some c80)
noncomputable def R4(t:d7):Option (Int × g8):=Option.bind (E7 t) fun | .inl fk2=>if (!((decide (fk2.1=0)) && (decide (fk2.2=0))))=true then some (0,(⟨fk2.1,fk2.2⟩:g8)) else none | .inr fk2=>if (!((decide (0=0)) && (decide (0=0))))=true then some (0,(⟨0,0⟩:g8)) else Option.bind (P5 fk2.2.2.2 fk2.1 fk2.2.1 fk2.2.2.1) fun a19=>Option.bind (x8 fk2.1 fk2.2.1 fk2.2.2.1) fun a21=>some (Option.getD (mget a19 fk2.1) 0,(⟨0,0⟩:g8))
def X7:Option d7:=some (⟨1,[],[0],[(⟨[],[0],[],2⟩:f9)]⟩:d7)
noncomputable def F9(t:d7)(unknown:List Int):Option g8:=Option.bind (s6 t) fun a7=>if (!((decide (a7.code=0)) && (decide (a7.index=0))))=true then some a7 else if 4<(unknown.length:Int) then some (⟨2, -8⟩:g8) else Option.bind (A8 unknown t.facts) fun a21=>if (!a21)=true then some (⟨5, -8⟩:g8) else some (⟨0,0⟩:g8)
noncomputable def X9(sv:List Int)(c2:List Int):Option Bool:=Option.bind (y7 sv c2) fun a6=>some (!a6)
noncomputable def K0(worlds:List (List Int))(facts:List Int):Option Bool:=Option.bind (x9 worlds (fun y1=>X9 y1 facts)) fun a7=>some (!a7)
noncomputable def O7(t:d7)(sv:List Int)(op:Int):Option (List Int):=Option.bind (ix t.operators op) fun a11=>Option.bind (C3 sv a11.add a11.del) fun a18=>some a18
noncomputable def N8(t:d7)(worlds:List (List Int))(op:Int):Int→(List (List Int))→Option (List (List Int)):=fun t5 c4=>Option.bind (ix worlds t5) fun a14=>Option.bind (O7 t a14 op) fun a20=>Option.bind (app 24 c4 [a20]) fun a22=>some a22
noncomputable def H1(t:d7)(worlds:List (List Int))(op:Int):Option (List (List Int)):=(Option.bind (forR 0 (worlds.length:Int) (N8 t worlds op) []) fun c4=>Option.bind (I2 c4) fun a25=>some a25)
abbrev an8(t:d7)(worlds:List (List Int)):b8:=[]
def G1(t:d7)(worlds:List (List Int)):Option Unit:=some ()
def Y7(unknown:List Int)(t4:Int):Int→(List Int)→Option (List Int):=fun t6 c5=>Option.bind (Option.bind (ix unknown t6) fun a21=>if Go.bits .and .i64 (shrW .i64 t4 t6) 1=1 then Option.bind (app 8 c5 [a21]) fun a31=>some a31 else some c5) fun c7=>some c7
noncomputable def K4(t:d7)(unknown:List Int):Int→(List (List Int))→Option (List (List Int)):=fun t4 c3=>(Option.bind (forR 0 (unknown.length:Int) (Y7 unknown t4) []) fun c5=>Option.bind (C3 t.init c5 unknown) fun a38=>Option.bind (app 24 c3 [a38]) fun a40=>some a40)
noncomputable def M3(t:d7)(unknown:List Int):Option (List (List Int)):=Option.bind (chk0 (unknown.length:Int)) fun u12=>if shlW .i64 1 (unknown.length:Int)≤9223372036854775807 then (Option.bind (forR 0 (shlW .i64 1 (unknown.length:Int)) (K4 t unknown) []) fun c3=>Option.bind (I2 c3) fun a43=>some a43) else none
def M7(v:List (List Int)):Option Bool:=some false
noncomputable def I7(w:List (List Int))(c2:d7):Option Bool:=Option.bind (K0 w c2.goal) fun a7=>some a7
abbrev at9(t:d7):b8:=[]
def Y2(t:d7):Option Unit:=some ()
abbrev ar8(worlds:List (List Int))(Facts:Int)(Init:List Int)(Goal:List Int)(Operators:List f9):b8:=[.one (.cells 4 [[int Facts,row 1 intI Init,row 1 intI Goal,row 4 f8 Operators]])]
def H3(worlds:List (List Int))(Facts:Int)(Init:List Int)(Goal:List Int)(Operators:List f9):Option Unit:=Option.bind (G1 (⟨Facts,Init,Goal,Operators⟩:d7) worlds) fun a6=>some ()
abbrev F7(start:List (List Int))(Facts:Int)(Init:List Int)(Goal:List Int)(Operators:List f9):b8:=[.one (.cells 4 [[int Facts,row 1 intI Init,row 1 intI Goal,row 4 f8 Operators]])]
def W0(c59:List d9):((List Int) × Int)→Option (((List Int) × Int) ⊕ (List Int)):=fun (c64,iv65)=>Option.bind (ix c59 iv65) fun a43=>if 0≤a43.ffrom then Option.bind (ix c59 iv65) fun a55=>Option.bind (app 8 c64 [a55.step]) fun a59=>Option.bind (ix c59 iv65) fun a49=>some (.inl (a59,a49.ffrom)) else some (.inr c64)
noncomputable def F8(Facts:Int)(Init:List Int)(Goal:List Int)(Operators:List f9)(c61:Int)(a66:d9):Int→((List (ByteArray × Int)) × (List d9))→Option (((List (ByteArray × Int)) × (List d9)) ⊕ (((List (ByteArray × Int)) × (List d9)) ⊕ ((List (ByteArray × Int)) × (List d9)))):=fun t75 (c73,c74)=>Option.bind (ix Operators t75) fun ai12=>Option.bind (K0 a66.node ai12.pre) fun ai17=>if ai17=true then Option.bind (H1 (⟨Facts,Init,Goal,Operators⟩:d7) a66.node t75) fun ai24=>Option.bind (y4 ai24) fun ab74=>if 0<Option.getD (mget c73 ab74) 0 then some (.inl (c73,c74)) else if (c74.length:Int)=2000 then some (.inr (.inr (c73,c74))) else Option.bind (app 40 c74 [(⟨ai24,c61,t75⟩:d9)]) fun ab90=>some (.inl (mset c73 ab74 1,ab90)) else some (.inl (c73,c74))
noncomputable def B7(Facts:Int)(Init:List Int)(Goal:List Int)(Operators:List f9)(c59:List d9)(c60:List (ByteArray × Int))(c61:Int)(a66:d9):Option (((List (ByteArray × Int)) × (List d9)) ⊕ ((List (ByteArray × Int)) × (List d9))):=(Option.bind (rngX 0 (Operators.length:Int) (F8 Facts Init Goal Operators c61 a66) (c60,c59)) fun | .inl (c73,c74)=>some (.inl (c73,c74)) | .inr x=>some x)
noncomputable def F5(Facts:Int)(Init:List Int)(Goal:List Int)(Operators:List f9):((List d9) × (List (ByteArray × Int)) × Int)→Option (((List d9) × (List (ByteArray × Int)) × Int) ⊕ (Unit ⊕ ((List Int) × Bool × Bool))):=fun (c59,c60,c61)=>if c61<(c59.length:Int) then Option.bind (ix c59 c61) fun a36=>Option.bind (M7 a36.node) fun a39=>if a39=true then Option.bind (Loop (W0 c59) ([],c61)) fun c66=>some (.inr (.inr (c66.reverse,true,true))) else Option.bind (ix c59 c61) fun a66=>Option.bind (H3 a66.node Facts Init Goal Operators) fun a69=>Option.bind (B7 Facts Init Goal Operators c59 c60 c61 a66) fun | .inl (c69,c70)=>some (.inl (c70,c69,w64 (c61+1))) | .inr (c71,c72)=>some (.inr (.inr ([],false,false))) else some (.inr (.inl ()))
noncomputable def J5(start:List (List Int))(Facts:Int)(Init:List Int)(Goal:List Int)(Operators:List f9):Option ((List Int) × Bool × Bool):=Option.bind (y4 start) fun a25=>Option.bind (Loop (F5 Facts Init Goal Operators) ([(⟨start, -1,0⟩:d9)],mset ([]:List (ByteArray × Int)) a25 1,0)) fun | .inl _=>some ([],false,true) | .inr x=>some x
abbrev ao8(start:List (List Int))(Facts:Int)(Init:List Int)(Goal:List Int)(Operators:List f9):b8:=[.one (.cells 4 [[int Facts,row 1 intI Init,row 1 intI Goal,row 4 f8 Operators]])]
noncomputable def z8(start:List (List Int))(Facts:Int)(Init:List Int)(Goal:List Int)(Operators:List f9):Option Bool:=Option.bind (J5 start Facts Init Goal Operators) fun a14=>some a14.2.2
abbrev E4(start:List (List Int))(Facts:Int)(Init:List Int)(Goal:List Int)(Operators:List f9)(Facts6:Int)(Init7:List Int)(Goal8:List Int)(Operators9:List f9):b8:=[.one (.cells 4 [[int Facts,row 1 intI Init,row 1 intI Goal,row 4 f8 Operators]]),.one (.cells 4 [[int Facts6,row 1 intI Init7,row 1 intI Goal8,row 4 f8 Operators9]])]
def A7(c63:List d9):((List Int) × Int)→Option (((List Int) × Int) ⊕ (List Int)):=fun (c68,iv69)=>Option.bind (ix c63 iv69) fun a43=>if 0≤a43.ffrom then Option.bind (ix c63 iv69) fun a55=>Option.bind (app 8 c68 [a55.step]) fun a59=>Option.bind (ix c63 iv69) fun a49=>some (.inl (a59,a49.ffrom)) else some (.inr c68)
noncomputable def w3(Facts:Int)(Init:List Int)(Goal:List Int)(Operators:List f9)(c65:Int)(a66:d9):Int→((List (ByteArray × Int)) × (List d9))→Option (((List (ByteArray × Int)) × (List d9)) ⊕ (((List (ByteArray × Int)) × (List d9)) ⊕ ((List (ByteArray × Int)) × (List d9)))):=fun t79 (c77,c78)=>Option.bind (ix Operators t79) fun ai12=>Option.bind (K0 a66.node ai12.pre) fun ai17=>if ai17=true then Option.bind (H1 (⟨Facts,Init,Goal,Operators⟩:d7) a66.node t79) fun ai24=>Option.bind (y4 ai24) fun ab74=>if 0<Option.getD (mget c77 ab74) 0 then some (.inl (c77,c78)) else if (c78.length:Int)=2000 then some (.inr (.inr (c77,c78))) else Option.bind (app 40 c78 [(⟨ai24,c65,t79⟩:d9)]) fun ab90=>some (.inl (mset c77 ab74 1,ab90)) else some (.inl (c77,c78))
noncomputable def D8(Facts:Int)(Init:List Int)(Goal:List Int)(Operators:List f9)(c63:List d9)(c64:List (ByteArray × Int))(c65:Int)(a66:d9):Option (((List (ByteArray × Int)) × (List d9)) ⊕ ((List (ByteArray × Int)) × (List d9))):=(Option.bind (rngX 0 (Operators.length:Int) (w3 Facts Init Goal Operators c65 a66) (c64,c63)) fun | .inl (c77,c78)=>some (.inl (c77,c78)) | .inr x=>some x)
noncomputable def v7(Facts:Int)(Init:List Int)(Goal:List Int)(Operators:List f9)(Facts6:Int)(Init7:List Int)(Goal8:List Int)(Operators9:List f9):((List d9) × (List (ByteArray × Int)) × Int)→Option (((List d9) × (List (ByteArray × Int)) × Int) ⊕ (Unit ⊕ ((List Int) × Bool × Bool))):=fun (c63,c64,c65)=>if c65<(c63.length:Int) then Option.bind (ix c63 c65) fun a36=>Option.bind (I7 a36.node (⟨Facts6,Init7,Goal8,Operators9⟩:d7)) fun a39=>if a39=true then Option.bind (Loop (A7 c63) ([],c65)) fun c70=>some (.inr (.inr (c70.reverse,true,true))) else Option.bind (ix c63 c65) fun a66=>Option.bind (H3 a66.node Facts Init Goal Operators) fun a69=>Option.bind (D8 Facts Init Goal Operators c63 c64 c65 a66) fun | .inl (c73,c74)=>some (.inl (c74,c73,w64 (c65+1))) | .inr (c75,c76)=>some (.inr (.inr ([],false,false))) else some (.inr (.inl ()))
noncomputable def C8(start:List (List Int))(Facts:Int)(Init:List Int)(Goal:List Int)(Operators:List f9)(Facts6:Int)(Init7:List Int)(Goal8:List Int)(Operators9:List f9):Option ((List Int) × Bool × Bool):=Option.bind (y4 start) fun a25=>Option.bind (Loop (v7 Facts Init Goal Operators Facts6 Init7 Goal8 Operators9) ([(⟨start, -1,0⟩:d9)],mset ([]:List (ByteArray × Int)) a25 1,0)) fun | .inl _=>some ([],false,true) | .inr x=>some x
noncomputable def X8(t:d7)(unknown:List Int):Option ((List Int) × Bool × g8):=Option.bind (F9 t unknown) fun a14=>if (!((decide (a14.code=0)) && (decide (a14.index=0))))=true then some ([],false,a14) else Option.bind (Y2 t) fun a20=>Option.bind (M3 t unknown) fun a23=>Option.bind (z8 a23 t.facts t.init t.goal t.operators) fun a25=>if (!a25)=true then some ([],false,(⟨10, -7⟩:g8)) else Option.bind (M3 t unknown) fun a31=>Option.bind (C8 a31 t.facts t.init t.goal t.operators t.facts t.init t.goal t.operators) fun a34=>if 60<(a34.1.length:Int) then some ([],false,(⟨10, -5⟩:g8)) else some (a34.1,a34.2.1,(⟨0,0⟩:g8))
noncomputable def G3(t:d7)(op:Int):Option g8:=Option.bind (s6 t) fun a7=>if (!((decide (a7.code=0)) && (decide (a7.index=0))))=true then some a7 else if ((decide (op<0)) || (decide ((t.operators.length:Int)≤op)))=true then some (⟨3, -6⟩:g8) else some (⟨0,0⟩:g8)
noncomputable def E5(t:d7)(op:Int):Option g8:=Option.bind (s6 t) fun a7=>if (!((decide (a7.code=0)) && (decide (a7.index=0))))=true then some a7 else if ((decide (op<0)) || (decide ((t.operators.length:Int)≤op)))=true then some (⟨3, -6⟩:g8) else some (⟨0,0⟩:g8)
abbrev ag6(t:d7):b8:=[]
noncomputable def G9(t:d7):Int→(List f9)→Option (List f9):=fun t56 c55=>Option.bind (ix t.operators t56) fun a20=>Option.bind (m7 a20.pre) fun a26=>Option.bind (m7 a20.add) fun a29=>Option.bind (m7 a20.del) fun a32=>Option.bind (app 80 c55 [(⟨a26,a29,a32,a20.cost⟩:f9)]) fun a37=>some a37
noncomputable def N5(t:d7):Option ((List Int) × (List Int) × (List f9)):=Option.bind (m7 t.init) fun a10=>Option.bind (m7 t.goal) fun a13=>(Option.bind (forR 0 (t.operators.length:Int) (G9 t) ([]:List f9)) fun c55=>some (a10,a13,c55))
noncomputable def H4(t:d7)(op:Int):Option (d7 × g8):=Option.bind (E5 t op) fun a10=>if (!((decide (a10.code=0)) && (decide (a10.index=0))))=true then some ((⟨0,[],[],[]⟩:d7),a10) else if t.facts=24 then some ((⟨0,[],[],[]⟩:d7),(⟨10, -8⟩:g8)) else Option.bind (N5 t) fun a22=>Option.bind (ix a22.2.2 op) fun ao5=>Option.bind (app 8 a22.2.1 [t.facts]) fun a28=>Option.bind (app 8 ao5.add [t.facts]) fun a42=>some ((⟨w64 (t.facts+1),a22.1,a28,a22.2.2.set op.toNat (⟨ao5.pre,a42,ao5.del,ao5.cost⟩:f9)⟩:d7),(⟨0,0⟩:g8))
noncomputable def M5(t:d7)(op:Int):Option (Int × g8):=Option.bind (G3 t op) fun a11=>if (!((decide (a11.code=0)) && (decide (a11.index=0))))=true then some (0,a11) else Option.bind (H4 t op) fun a19=>if (!((decide (a19.2.code=0)) && (decide (a19.2.index=0))))=true then some (0,a19.2) else Option.bind (R4 a19.1) fun a27=>some (a27.1,a27.2)
noncomputable def M6:Option Bool:=Option.bind (X7) fun a7=>Option.bind (X8 a7 []) fun a8=>Option.bind (X7) fun a13=>Option.bind (M5 a13 0) fun a14=>Option.bind (if a8.2.2.code=0 then if a14.2.code=0 then if a8.2.1=true then Option.bind (ah2 a8.1 [0]) fun a31=>if a31=true then some (decide (a14.1=2)) else some false else some false else some false else some false) fun t1=>some t1
def ae6(operators:Int)(plan:List Int):Int→Unit→Option (Unit ⊕ g8):=fun t4 _=>Option.bind (ix plan t4) fun a15=>if ((decide (a15<0)) || (decide (operators≤a15)))=true then some (.inr (⟨3, -6⟩:g8)) else some (.inl ())
def U7(operators:Int)(plan:List Int):Option g8:=if 60<(plan.length:Int) then some (⟨2, -5⟩:g8) else (Option.bind (rngX 0 (plan.length:Int) (ae6 operators plan) ()) fun | .inl _=>some (⟨0,0⟩:g8) | .inr x=>some x)
noncomputable def K6(t:d7)(plan:List Int):Option g8:=Option.bind (s6 t) fun a7=>if (!((decide (a7.code=0)) && (decide (a7.index=0))))=true then some a7 else Option.bind (U7 (t.operators.length:Int) plan) fun a16=>some a16
noncomputable def V9(t:d7)(sv:List Int)(op:Int):Option Bool:=Option.bind (ix t.operators op) fun a11=>Option.bind (y7 sv a11.pre) fun a14=>some a14
noncomputable def Y5(t:d7)(plan:List Int):((List (List Int)) × (List Int) × Int)→Option (((List (List Int)) × (List Int) × Int) ⊕ (List (List Int))):=fun (c4,sv5,t6)=>if t6<(plan.length:Int) then Option.bind (ix plan t6) fun a17=>Option.bind (V9 t sv5 a17) fun a22=>if (!a22)=true then some (.inr c4) else Option.bind (O7 t sv5 a17) fun a27=>Option.bind (app 24 c4 [a27]) fun a31=>some (.inl (a31,a27,w64 (t6+1))) else some (.inr c4)
noncomputable def ae4(t:d7)(sv:List Int)(plan:List Int):Option (List (List Int)):=Option.bind (m7 sv) fun a11=>Option.bind (Loop (Y5 t plan) ([a11],sv,0)) fun c7=>some c7
noncomputable def U0(t:d7)(sv:List Int)(plan:List Int):Option Bool:=Option.bind (ae4 t sv plan) fun a11=>Option.bind (if (a11.length:Int)=w64 ((plan.length:Int)+1) then Option.bind (ix a11 (plan.length:Int)) fun a22=>Option.bind (y7 a22 t.goal) fun a26=>some a26 else some false) fun t4=>some t4
noncomputable def R0(t:d7)(plan:List Int):Option (Bool × g8):=Option.bind (K6 t plan) fun a9=>if (!((decide (a9.code=0)) && (decide (a9.index=0))))=true then some (false,a9) else Option.bind (U0 t t.init plan) fun a18=>some (a18,(⟨0,0⟩:g8))
def L7(t:d7)(goals:List (List Int)):Int→Unit→Option (Unit ⊕ g8):=fun t7 _=>Option.bind (ix goals t7) fun a42=>Option.bind (A8 a42 t.facts) fun a47=>if (!a47)=true then some (.inr (⟨5,w64 ((-10) - t7)⟩:g8)) else some (.inl ())
def Y9(t:d7)(t9:Int)(a58:List Int):Int→Unit→Option (Unit ⊕ g8):=fun t11 _=>Option.bind (ix a58 t11) fun a70=>if ((decide (a70<0)) || (decide ((t.operators.length:Int)≤a70)))=true then some (.inr (⟨3,w64 ((-20) - t9)⟩:g8)) else some (.inl ())
def L5(t:d7)(plans:List (List Int)):Int→Unit→Option (Unit ⊕ g8):=fun t9 _=>Option.bind (ix plans t9) fun a58=>if 6<(a58.length:Int) then some (.inr (⟨2,w64 ((-20) - t9)⟩:g8)) else (Option.bind (rngX 0 (a58.length:Int) (Y9 t t9 a58) ()) fun | .inl _=>some (.inl ()) | .inr x=>some (.inr x))
noncomputable def R3(t:d7)(goals:List (List Int))(plans:List (List Int)):Option g8:=Option.bind (s6 t) fun a15=>if (!((decide (a15.code=0)) && (decide (a15.index=0))))=true then some a15 else if ((decide ((plans.length:Int)=0)) || (decide (4<(plans.length:Int))))=true then some (⟨9, -8⟩:g8) else if (goals.length:Int)=(plans.length:Int) then (Option.bind (rngX 0 (goals.length:Int) (L7 t goals) ()) fun | .inl _=>(Option.bind (rngX 0 (plans.length:Int) (L5 t plans) ()) fun | .inl _=>some (⟨0,0⟩:g8) | .inr x=>some x) | .inr x=>some x) else some (⟨9, -9⟩:g8)
noncomputable def U3(av:List Int)(bv:List Int):Option (List Int):=Option.bind (C3 av bv []) fun a7=>some a7
noncomputable def Q4(l:List (List Int)):Int→(List Int)→Option (List Int):=fun t3 c2=>Option.bind (ix l t3) fun a10=>Option.bind (U3 c2 a10) fun a14=>some a14
noncomputable def R7(l:List (List Int)):Option (List Int):=(Option.bind (forR 0 (l.length:Int) (Q4 l) []) fun c2=>some c2)
abbrev D3(sv:List Int)(atv:List Int)(t:d7)(plans:List (List Int))(l:List Int)(l6:List (ByteArray × Int)):b8:=[.one (.cells 7 [[int t.facts,row 1 intI t.init,row 1 intI t.goal,row 4 f8 t.operators,row 1 d5 plans,.own 1 0 l.length,.map 2]]),.one (vec 1 intI l),.one (mapB Value.string (Value.int .i64) l6)]
def u5:((List Int) × (List (ByteArray × Int)) × Bool)→Option (((List Int) × (List (ByteArray × Int)) × Bool) ⊕ ((List Int) × Bool × (List Int) × (List (ByteArray × Int)))):=fun (c16,c17,done18)=>some (.inl (c16,c17,done18))
noncomputable def s5(sv:List Int)(atv:List Int)(t:d7)(plans:List (List Int))(slf:((List Int) × (List Int) × (List Int) × (List (ByteArray × Int)))→Option ((List Int) × Bool × (List Int) × (List (ByteArray × Int)))):Int→((List Int) × (List (ByteArray × Int)) × Bool)→Option (((List Int) × (List (ByteArray × Int)) × Bool) ⊕ ((List Int) × Bool × (List Int) × (List (ByteArray × Int)))):=fun t15 (c12,c13,done14)=>Option.bind (ix plans t15) fun a34=>Option.bind (ix atv t15) fun a38=>if a38=(a34.length:Int) then u5 (c12,c13,done14) else Option.bind (ix atv t15) fun a51=>Option.bind (ix a34 a51) fun a53=>Option.bind (V9 t sv a53) fun a55=>if (!a55)=true then u5 (c12,c13,false) else Option.bind (m7 atv) fun a58=>Option.bind (ix a58 t15) fun a61=>Option.bind (ix a58 t15) fun a64=>Option.bind (ix atv t15) fun a75=>Option.bind (ix a34 a75) fun a77=>Option.bind (O7 t sv a77) fun a79=>Option.bind (slf (a79,a58.set t15.toNat (w64 (a61+1)),c12,c13)) fun a81=>if a81.2.1=true then Option.bind (app 8 [t15] a81.1) fun a88=>some (.inr (a88,true,a81.2.2.1,a81.2.2.2)) else u5 (a81.2.2.1,a81.2.2.2,false)
noncomputable def n2(t:d7)(plans:List (List Int))(slf:((List Int) × (List Int) × (List Int) × (List (ByteArray × Int)))→Option ((List Int) × Bool × (List Int) × (List (ByteArray × Int)))):((List Int) × (List Int) × (List Int) × (List (ByteArray × Int)))→Option ((List Int) × Bool × (List Int) × (List (ByteArray × Int))):=fun (sv,atv,l,l6)=>Option.bind (y4 [sv,atv]) fun a18=>if 0<Option.getD (mget l6 a18) 0 then some ([],false,l,l6) else (Option.bind (rngX 0 (plans.length:Int) (s5 sv atv t plans slf) (l,l6,true)) fun | .inl (c12,c13,done14)=>Option.bind (if done14=true then Option.bind (y7 sv c12) fun a97=>some a97 else some false) fun t22=>if t22=true then some ([],true,c12,c13) else some ([],false,c12,mset c13 a18 1) | .inr x=>some x)
noncomputable def O9(sv:List Int)(atv:List Int)(t:d7)(plans:List (List Int))(l:List Int)(l6:List (ByteArray × Int)):Option ((List Int) × Bool × (List Int) × (List (ByteArray × Int))):=Rec (n2 t plans) (sv,atv,l,l6)
noncomputable def R6(t:d7)(goals:List (List Int))(plans:List (List Int)):Option ((List Int) × Bool × g8):=Option.bind (R3 t goals plans) fun a16=>if (!((decide (a16.code=0)) && (decide (a16.index=0))))=true then some ([],false,a16) else Option.bind (R7 goals) fun a24=>Option.bind (mkL 8 (plans.length:Int) 0) fun a34=>Option.bind (O9 t.init a34 t plans a24 ([]:List (ByteArray × Int))) fun a35=>some (a35.1,a35.2.1,(⟨0,0⟩:g8))
def R8(nv:Int)(low:Int)(high:Int):Option Bool:=some ((decide (low≤nv)) && (decide (nv≤high)))
def an5(l:List Int)(nv:Int):Int→Unit→Option (Unit ⊕ Bool):=fun iv3 _=>Option.bind (ix l iv3) fun a14=>if a14=nv then some (.inr true) else some (.inl ())
def af6(l:List Int)(nv:Int):Option Bool:=(Option.bind (rngX 0 (l.length:Int) (an5 l nv) ()) fun | .inl _=>some false | .inr x=>some x)
def C2(plans:List (List Int))(a24:(List Int) × Bool × g8):Int→((List Int) × (List Int))→Option (((List Int) × (List Int)) ⊕ Bool):=fun iv7 (c5,c6)=>Option.bind (ix a24.1 iv7) fun a47=>Option.bind (Option.bind (R8 a47 0 (w64 ((plans.length:Int) - 1))) fun a53=>if (!a53)=true then some true else Option.bind (ix c5 a47) fun a58=>Option.bind (ix plans a47) fun a62=>some (decide ((a62.length:Int)≤a58))) fun t8=>if t8=true then some (.inr false) else Option.bind (ix plans a47) fun a70=>Option.bind (ix c5 a47) fun a74=>Option.bind (ix a70 a74) fun a76=>Option.bind (app 8 c6 [a76]) fun a79=>Option.bind (ix c5 a47) fun a82=>Option.bind (ix c5 a47) fun a85=>some (.inl (c5.set a47.toNat (w64 (a82+1)),a79))
def x4(goals:List (List Int))(p13:Int):Int→Bool→Option Bool:=fun q17 wanted16=>Option.bind (if wanted16=true then some true else Option.bind (ix goals q17) fun a104=>Option.bind (af6 a104 p13) fun a107=>some a107) fun wanted18=>some wanted18
def C5(goals:List (List Int)):Int→(List Int)→Option (List Int):=fun p13 c12=>Option.bind ((Option.bind (forR 0 (goals.length:Int) (x4 goals p13) false) fun wanted16=>if wanted16=true then Option.bind (app 8 c12 [p13]) fun a114=>some a114 else some c12)) fun c14=>some c14
noncomputable def F6(t:d7)(goals:List (List Int))(plans:List (List Int)):Option Bool:=Option.bind (R6 t goals plans) fun a24=>if ((!(decide (a24.2.2.code=0))) || (!a24.2.1))=true then Option.bind (M6) fun a35=>some a35 else Option.bind (mkL 8 (plans.length:Int) 0) fun a38=>(Option.bind (rngX 0 (a24.1.length:Int) (C2 plans a24) (a38,[])) fun | .inl (c5,c6)=>if t.facts≤9223372036854775807 then (Option.bind (forR 0 t.facts (C5 goals) ([]:List Int)) fun c12=>Option.bind (R0 (⟨t.facts,t.init,c12,t.operators⟩:d7) c6) fun a119=>Option.bind (if a119.2.code=0 then if a119.1=true then Option.bind (M6) fun a129=>some a129 else some false else some false) fun t22=>some t22) else none | .inr x=>some x)
def I4(code:Int)(index:Int):Option g8:=some (⟨code,index⟩:g8)
def ai1(l:List Int)(nv:Int):Int→Unit→Option (Unit ⊕ Bool):=fun iv3 _=>Option.bind (Option.bind (ix l iv3) fun a14=>Option.bind (R8 a14 0 (w64 (nv - 1))) fun a18=>if (!a18)=true then some true else if 0<iv3 then Option.bind (ix l iv3) fun a26=>Option.bind (ix l (iv3 - 1)) fun a31=>some (decide (a26≤a31)) else some false) fun t4=>if t4=true then some (.inr false) else some (.inl ())
def N9(l:List Int)(nv:Int):Option Bool:=(Option.bind (rngX 0 (l.length:Int) (ai1 l nv) ()) fun | .inl _=>some true | .inr x=>some x)
def ak3(av:List Int)(bv:List Int):Int→Unit→Option (Unit ⊕ Bool):=fun iv3 _=>Option.bind (ix av iv3) fun a15=>Option.bind (af6 bv a15) fun a17=>if a17=true then some (.inr false) else some (.inl ())
def ah7(av:List Int)(bv:List Int):Option Bool:=(Option.bind (rngX 0 (av.length:Int) (ak3 av bv) ()) fun | .inl _=>some true | .inr x=>some x)
def I9(t:d7):Int→Unit→Option (Unit ⊕ g8):=fun iv6 _=>Option.bind (ix t.operators iv6) fun a39=>Option.bind (Option.bind (N9 a39.pre t.facts) fun a45=>if (!a45)=true then some true else Option.bind (N9 a39.add t.facts) fun a52=>if (!a52)=true then some true else Option.bind (N9 a39.del t.facts) fun a60=>if (!a60)=true then some true else Option.bind (ah7 a39.add a39.del) fun a68=>some (!a68)) fun t7=>if t7=true then Option.bind (I4 5 iv6) fun a72=>some (.inr a72) else Option.bind (R8 a39.cost 0 100) fun a75=>if (!a75)=true then Option.bind (I4 3 iv6) fun a78=>some (.inr a78) else some (.inl ())
def V7(t:d7):Option g8:=Option.bind (R8 t.facts 0 24) fun a7=>if (!a7)=true then Option.bind (I4 3 (-1)) fun a9=>some a9 else Option.bind (N9 t.init t.facts) fun a14=>if (!a14)=true then Option.bind (I4 5 (-2)) fun a16=>some a16 else Option.bind (N9 t.goal t.facts) fun a21=>if (!a21)=true then Option.bind (I4 5 (-3)) fun a23=>some a23 else if 40<(t.operators.length:Int) then Option.bind (I4 2 (-1)) fun a28=>some a28 else (Option.bind (rngX 0 (t.operators.length:Int) (I9 t) ()) fun | .inl _=>some (⟨0,0⟩:g8) | .inr x=>some x)
def T6(operators:Int)(plan:List Int):Int→Unit→Option (Unit ⊕ g8):=fun iv4 _=>Option.bind (ix plan iv4) fun a18=>Option.bind (R8 a18 0 (w64 (operators - 1))) fun a22=>if (!a22)=true then Option.bind (I4 3 (-6)) fun a24=>some (.inr a24) else some (.inl ())
def I0(operators:Int)(plan:List Int):Option g8:=if 60<(plan.length:Int) then Option.bind (I4 2 (-5)) fun a9=>some a9 else (Option.bind (rngX 0 (plan.length:Int) (T6 operators plan) ()) fun | .inl _=>some (⟨0,0⟩:g8) | .inr x=>some x)
def ap3(t:d7)(plan:List Int):Option g8:=Option.bind (V7 t) fun a7=>Option.bind (if a7.code=0 then Option.bind (I0 (t.operators.length:Int) plan) fun a15=>some (a15.code,a15.index) else some (a7.code,a7.index)) fun ⟨c3,c4⟩=>some (⟨c3,c4⟩:g8)
def D4(t:d7)(goals:List (List Int)):Int→Unit→Option (Unit ⊕ g8):=fun p7 _=>Option.bind (ix goals p7) fun a35=>Option.bind (N9 a35 t.facts) fun a39=>if (!a39)=true then Option.bind (I4 5 (w64 ((-10) - p7))) fun a43=>some (.inr a43) else some (.inl ())
def E0(t:d7)(plans:List (List Int)):Int→Unit→Option (Unit ⊕ g8):=fun p9 _=>Option.bind (ix plans p9) fun a52=>if 6<(a52.length:Int) then Option.bind (I4 2 (w64 ((-20) - p9))) fun a58=>some (.inr a58) else Option.bind (ix plans p9) fun a64=>Option.bind (I0 (t.operators.length:Int) a64) fun a66=>if a66.code=0 then some (.inl ()) else Option.bind (I4 3 (w64 ((-20) - p9))) fun a71=>some (.inr a71)
def W3(t:d7)(goals:List (List Int))(plans:List (List Int)):Option g8:=Option.bind (V7 t) fun a11=>if a11.code=0 then Option.bind (R8 (plans.length:Int) 1 4) fun a18=>if (!a18)=true then Option.bind (I4 9 (-8)) fun a20=>some a20 else if (goals.length:Int)=(plans.length:Int) then (Option.bind (rngX 0 (goals.length:Int) (D4 t goals) ()) fun | .inl _=>(Option.bind (rngX 0 (plans.length:Int) (E0 t plans) ()) fun | .inl _=>some (⟨0,0⟩:g8) | .inr x=>some x) | .inr x=>some x) else Option.bind (I4 9 (-9)) fun a26=>some a26 else some a11
end Ab
end
section
namespace Ab
open Go
theorem eOk1{n t:Nat}{v:T}{r:Env}(h:v.ok n=true)(hr:envOk n r=true):envOk n ((t,v)::r)=true:=by
 simp only [envOk,h,hr,Bool.and_self]
section
open Go.Proofs
variable {P:Program} {σ0:b8} {sz:Nat} {Q:Post} {env:Env} {σv:b8} {ops:Array Oper} {rest:List Oper}
end
end Ab
end
section
namespace Go.Proofs
open Go.Shelf
open Tryz
def Tryz.lays215_ren:Go.Shelf.Ren:=⟨fun | 215=>124 | n=>n,fun | 3=>3 | 4=>4 | n=>n,fun | n=>n⟩
theorem Tryz.lays215:Go.Proofs.Lays.n215 prog Tryz.lays215_ren:={
 mixed:=by kernel_rfl
 f215:=func124.trans (congrArg some (by kernel_rfl))
 t3:=underlying3
 a3:=isAgg3
 z3:=sizeOf3
 v3:=zeroValue3
 t4:=underlying4
 a4:=isAgg4
 z4:=sizeOf4
 v4:=zeroValue4}
open Go.RowKit in
theorem Tryz.cmp_isNaN_int(x:Int)(w:World):
  Calls prog 124 #[.int .i64 x] w fun e w'=>e=.returned (.bool false)∧w'=w:=Any.cmp_isNaN_int Tryz.lays215 x w
def Tryz.lays122_ren:Go.Shelf.Ren:=⟨fun | 122=>95 | 215=>124 | n=>n,fun | 3=>3 | 4=>4 | n=>n,fun | n=>n⟩
theorem Tryz.lays122:Go.Proofs.Lays.n122 prog Tryz.lays122_ren:={
 mixed:=by kernel_rfl
 f122:=func95.trans (congrArg some (by kernel_rfl))
 f215:=func124.trans (congrArg some (by kernel_rfl))
 t3:=underlying3
 a3:=isAgg3
 z3:=sizeOf3
 v3:=zeroValue3
 t4:=underlying4
 a4:=isAgg4
 z4:=sizeOf4
 v4:=zeroValue4}
open Go.RowKit in
theorem Tryz.cmp_Compare_int(x y:Int)(w:World):
  Calls prog 95 #[.int .i64 x,.int .i64 y] w fun e w'=>e=.returned (.int .i64 (Lib.compareInt x y))∧w'=w:=Any.cmp_Compare_int Tryz.lays122 x y w
def Tryz.lays283_ren:Go.Shelf.Ren:=⟨fun | 283=>172 | n=>n,fun | 3=>3 | 9=>9 | 4=>4 | n=>n,fun | n=>n⟩
theorem Tryz.lays283:Go.Proofs.Lays.n283 prog Tryz.lays283_ren:={
 mixed:=by kernel_rfl
 f283:=func172.trans (congrArg some (by kernel_rfl))
 t3:=underlying3
 a3:=isAgg3
 z3:=sizeOf3
 v3:=zeroValue3
 t4:=underlying4
 a4:=isAgg4
 z4:=sizeOf4
 v4:=zeroValue4
 t9:=underlying9
 a9:=isAgg9
 z9:=sizeOf9
 v9:=zeroValue9}
open Go.Lib in
theorem Tryz.internal_strconv_small(i:Nat)(h:i<100)(w:World):
  Calls prog 172 #[.int .i64 i] w fun e w'=>e=.returned (.string ⟨(Lib.decDigits i).toArray⟩)∧w'=w:=Any.internal_strconv_small Tryz.lays283 i h w
def Tryz.lays189_ren:Go.Shelf.Ren:=⟨fun | 189=>87 | 125=>103 | 257=>121 | 128=>136 | 129=>137 | 294=>144 | 295=>145 | 296=>146 | 297=>147 | 298=>148 | 299=>149 | 216=>119 | 300=>150 | 301=>151 | 328=>168 | 329=>155 | 330=>156 | 331=>169 | 332=>170 | 215=>124 | 343=>179 | n=>n,fun | 28=>22 | 3=>3 | 46=>163 | 0=>0 | 51=>81 | 53=>210 | 4=>4 | 183=>216 | 182=>215 | 131=>104 | 5=>5 | 9=>9 | 218=>239 | 222=>243 | 228=>253 | 229=>254 | n=>n,fun | n=>n⟩
theorem Tryz.lays189:Go.Proofs.Lays.n189 prog Tryz.lays189_ren:={
 mixed:=by kernel_rfl
 f125:=func103.trans (congrArg some (by kernel_rfl))
 f128:=func136.trans (congrArg some (by kernel_rfl))
 f129:=func137.trans (congrArg some (by kernel_rfl))
 f189:=func87.trans (congrArg some (by kernel_rfl))
 f215:=func124.trans (congrArg some (by kernel_rfl))
 f216:=func119.trans (congrArg some (by kernel_rfl))
 f257:=func121.trans (congrArg some (by kernel_rfl))
 f294:=func144.trans (congrArg some (by kernel_rfl))
 f295:=func145.trans (congrArg some (by kernel_rfl))
 f296:=func146.trans (congrArg some (by kernel_rfl))
 f297:=func147.trans (congrArg some (by kernel_rfl))
 f298:=func148.trans (congrArg some (by kernel_rfl))
 f299:=func149.trans (congrArg some (by kernel_rfl))
 f300:=func150.trans (congrArg some (by kernel_rfl))
 f301:=func151.trans (congrArg some (by kernel_rfl))
 f328:=func168.trans (congrArg some (by kernel_rfl))
 f329:=func155.trans (congrArg some (by kernel_rfl))
 f330:=func156.trans (congrArg some (by kernel_rfl))
 f331:=func169.trans (congrArg some (by kernel_rfl))
 f332:=func170.trans (congrArg some (by kernel_rfl))
 f343:=func179.trans (congrArg some (by kernel_rfl))
 t0:=underlying0
 a0:=isAgg0
 z0:=sizeOf0
 v0:=zeroValue0
 t3:=underlying3
 a3:=isAgg3
 z3:=sizeOf3
 v3:=zeroValue3
 t4:=underlying4
 a4:=isAgg4
 z4:=sizeOf4
 v4:=zeroValue4
 t5:=underlying5
 a5:=isAgg5
 z5:=sizeOf5
 v5:=zeroValue5
 t9:=underlying9
 a9:=isAgg9
 z9:=sizeOf9
 v9:=zeroValue9
 t28:=underlying22
 a28:=isAgg22
 z28:=sizeOf22
 v28:=zeroValue22
 t46:=underlying163
 a46:=isAgg163
 z46:=sizeOf163
 v46:=zeroValue163
 t51:=underlying81
 a51:=isAgg81
 z51:=sizeOf81
 v51:=zeroValue81
 t53:=underlying210
 a53:=isAgg210
 z53:=sizeOf210
 v53:=zeroValue210
 t131:=underlying104
 a131:=isAgg104
 z131:=sizeOf104
 v131:=zeroValue104
 t182:=underlying215
 a182:=isAgg215
 z182:=sizeOf215
 v182:=zeroValue215
 t183:=underlying216
 a183:=isAgg216
 z183:=sizeOf216
 v183:=zeroValue216
 t218:=underlying239
 a218:=isAgg239
 z218:=sizeOf239
 v218:=zeroValue239
 t222:=underlying243
 a222:=isAgg243
 z222:=sizeOf243
 v222:=zeroValue243
 t228:=underlying253
 a228:=isAgg253
 z228:=sizeOf253
 v228:=zeroValue253
 t229:=underlying254
 a229:=isAgg254
 z229:=sizeOf254
 v229:=zeroValue254}
open Go.Sort Go.RowKit in
theorem Tryz.slices_Sort_int(blk off cap:Nat)(zs:List Int)(w:World)(hH:Holds (Value.int .i64) w blk off zs.toArray)(hblk:blk<w.heap.size)(hsz:zs.length<4611686018427387904):
  Calls prog 87 #[.slice (some ⟨blk,off,none⟩) zs.length cap] w fun e w'=>
   e=.returned (.tuple #[])∧∃ n os,w'=grow (putRow (Value.int .i64) (Sort.ahead w n) blk off (zs.mergeSort fun x y=>decide (x≤y)).toArray) os:=Any.slices_Sort_int Tryz.lays189 blk off cap zs w hH hblk hsz
def Tryz.lays112_ren:Go.Shelf.Ren:=⟨fun | 112=>112 | n=>n,fun | 28=>22 | 3=>3 | 4=>4 | 0=>0 | n=>n,fun | n=>n⟩
theorem Tryz.lays112:Go.Proofs.Lays.n112 prog Tryz.lays112_ren:={
 mixed:=by kernel_rfl
 f112:=func112.trans (congrArg some (by kernel_rfl))
 t0:=underlying0
 a0:=isAgg0
 z0:=sizeOf0
 v0:=zeroValue0
 t3:=underlying3
 a3:=isAgg3
 z3:=sizeOf3
 v3:=zeroValue3
 t4:=underlying4
 a4:=isAgg4
 z4:=sizeOf4
 v4:=zeroValue4
 t28:=underlying22
 a28:=isAgg22
 z28:=sizeOf22
 v28:=zeroValue22}
open Go.RowKit Go.Lib Go.Sort in
theorem Tryz.slices_Reverse_int(blk off cap:Nat)(zs:List Int)(w:World)(hH:Holds (Value.int .i64) w blk off zs.toArray)(hsz:zs.length≤9223372036854775807):
  Calls prog 112 #[.slice (some ⟨blk,off,none⟩) zs.length cap] w fun e w'=>e=.returned (.tuple #[])∧∃ n,w'=putRow (Value.int .i64) (Sort.ahead w n) blk off zs.reverse.toArray:=Any.slices_Reverse_int Tryz.lays112 blk off cap zs w hH hsz
open Go.RowKit Go.Lib Go.Sort in
theorem Tryz.slices_Reverse_int_empty(a:Option Addr)(cap:Nat)(w:World):
  Calls prog 112 #[.slice a 0 cap] w fun e w'=>e=.returned (.tuple #[])∧w'=w:=Any.slices_Reverse_int_empty Tryz.lays112 a cap w
def Tryz.laysNm220_ren:Go.Shelf.Ren:=⟨fun | 20=>88 | n=>n,fun | 22=>22 | 3=>3 | 4=>4 | 0=>0 | n=>n,fun | n=>n⟩
theorem Tryz.laysNm220:Go.Proofs.Lays2.n20 prog Tryz.laysNm220_ren:={
 mixed:=by kernel_rfl
 f20:=func88.trans (congrArg some (by kernel_rfl))
 t0:=underlying0
 a0:=isAgg0
 z0:=sizeOf0
 v0:=zeroValue0
 t3:=underlying3
 a3:=isAgg3
 z3:=sizeOf3
 v3:=zeroValue3
 t4:=underlying4
 a4:=isAgg4
 z4:=sizeOf4
 v4:=zeroValue4
 t22:=underlying22
 a22:=isAgg22
 z22:=sizeOf22
 v22:=zeroValue22
 i3:=by kernel_rfl}
open Go.RowKit Go.Lib Go.Sort in
theorem Tryz.slices_Compact_int(blk off cap:Nat)(zs:List Int)(w:World)(hH:Holds (Value.int .i64) w blk off zs.toArray)(hsz:zs.length≤9223372036854775807)(hcap:zs.length≤cap):
  Calls prog 88 #[.slice (some ⟨blk,off,none⟩) zs.length cap] w fun e w'=>e=.returned (.slice (some ⟨blk,off,none⟩) (Lib.compact zs).length cap)∧∃ q,w'=putRow (Value.int .i64) (Sort.ahead w q) blk off (Lib.compact zs++List.replicate (zs.length - (Lib.compact zs).length) 0).toArray:=Any.slices_Compact_int Tryz.laysNm220 blk off cap zs w hH hsz hcap
open Go.RowKit Go.Lib Go.Sort in
theorem Tryz.slices_Compact_int_empty(a:Option Addr)(cap:Nat)(w:World):
  Calls prog 88 #[.slice a 0 cap] w fun e w'=>e=.returned (.slice a 0 cap)∧w'=w:=Any.slices_Compact_int_empty Tryz.laysNm220 a cap w
open Go.RowKit Go.Sort in
theorem Tryz.slices_Sort_int_none(p:Option Addr)(cap:Nat)(w:World):
  Calls prog 87 #[.slice p 0 cap] w fun e w'=>e=.returned (.tuple #[])∧w'=w:=Any.slices_Sort_int_none Tryz.lays189 p cap w
def Tryz.laysSlF6_f61_ren:Go.Shelf.Ren:=⟨fun | 6=>61 | 15=>103 | 14=>102 | 28=>136 | 29=>137 | 20=>128 | 21=>129 | 22=>130 | 23=>131 | 24=>132 | 25=>133 | 26=>134 | 27=>135 | 46=>154 | 47=>155 | 48=>156 | 49=>157 | 50=>158 | 57=>171 | n=>n,fun | 22=>76 | 24=>81 | 25=>120 | 3=>3 | 39=>163 | 0=>0 | 53=>81 | 55=>210 | 4=>4 | 46=>216 | 45=>215 | 50=>104 | 5=>5 | 9=>9 | 66=>239 | 70=>243 | 76=>253 | 77=>254 | n=>n,fun | n=>n⟩
theorem Tryz.laysSlF6_f61:Go.Proofs.SlLaysF.n6 prog Tryz.laysSlF6_f61_ren:={
 mixed:=by kernel_rfl
 f6:=⟨Tryz.f61.name,by decide,func61.trans (congrArg some (by kernel_rfl))⟩
 f14:=⟨Tryz.f102.name,by decide,func102.trans (congrArg some (by kernel_rfl))⟩
 f15:=func103.trans (congrArg some (by kernel_rfl))
 f20:=⟨Tryz.f128.name,by decide,func128.trans (congrArg some (by kernel_rfl))⟩
 f21:=⟨Tryz.f129.name,by decide,func129.trans (congrArg some (by kernel_rfl))⟩
 f22:=⟨Tryz.f130.name,by decide,func130.trans (congrArg some (by kernel_rfl))⟩
 f23:=⟨Tryz.f131.name,by decide,func131.trans (congrArg some (by kernel_rfl))⟩
 f24:=⟨Tryz.f132.name,by decide,func132.trans (congrArg some (by kernel_rfl))⟩
 f25:=⟨Tryz.f133.name,by decide,func133.trans (congrArg some (by kernel_rfl))⟩
 f26:=⟨Tryz.f134.name,by decide,func134.trans (congrArg some (by kernel_rfl))⟩
 f27:=⟨Tryz.f135.name,by decide,func135.trans (congrArg some (by kernel_rfl))⟩
 f28:=func136.trans (congrArg some (by kernel_rfl))
 f29:=func137.trans (congrArg some (by kernel_rfl))
 f46:=⟨Tryz.f154.name,by decide,func154.trans (congrArg some (by kernel_rfl))⟩
 f47:=func155.trans (congrArg some (by kernel_rfl))
 f48:=func156.trans (congrArg some (by kernel_rfl))
 f49:=⟨Tryz.f157.name,by decide,func157.trans (congrArg some (by kernel_rfl))⟩
 f50:=⟨Tryz.f158.name,by decide,func158.trans (congrArg some (by kernel_rfl))⟩
 f57:=⟨Tryz.f171.name,by decide,func171.trans (congrArg some (by kernel_rfl))⟩
 t0:=underlying0
 a0:=isAgg0
 z0:=sizeOf0
 v0:=zeroValue0
 t3:=underlying3
 a3:=isAgg3
 z3:=sizeOf3
 v3:=zeroValue3
 t4:=underlying4
 a4:=isAgg4
 z4:=sizeOf4
 v4:=zeroValue4
 t5:=underlying5
 a5:=isAgg5
 z5:=sizeOf5
 v5:=zeroValue5
 t9:=underlying9
 a9:=isAgg9
 z9:=sizeOf9
 v9:=zeroValue9
 t22:=underlying76
 a22:=isAgg76
 z22:=sizeOf76
 v22:=zeroValue76
 a24:=isAgg81
 z24:=sizeOf81
 t25:=underlying120
 a25:=isAgg120
 z25:=sizeOf120
 v25:=zeroValue120
 t39:=underlying163
 a39:=isAgg163
 z39:=sizeOf163
 v39:=zeroValue163
 t45:=underlying215
 a45:=isAgg215
 z45:=sizeOf215
 v45:=zeroValue215
 t46:=underlying216
 a46:=isAgg216
 z46:=sizeOf216
 v46:=zeroValue216
 t50:=underlying104
 a50:=isAgg104
 z50:=sizeOf104
 v50:=zeroValue104
 t53:=underlying81
 a53:=isAgg81
 z53:=sizeOf81
 v53:=zeroValue81
 t55:=underlying210
 a55:=isAgg210
 z55:=sizeOf210
 v55:=zeroValue210
 t66:=underlying239
 a66:=isAgg239
 z66:=sizeOf239
 v66:=zeroValue239
 t70:=underlying243
 a70:=isAgg243
 z70:=sizeOf243
 v70:=zeroValue243
 t76:=underlying253
 a76:=isAgg253
 z76:=sizeOf253
 v76:=zeroValue253
 t77:=underlying254
 a77:=isAgg254
 z77:=sizeOf254
 v77:=zeroValue254}
def Tryz.laysSlF6_f117_ren:Go.Shelf.Ren:=⟨fun | 6=>117 | 15=>103 | 14=>143 | 28=>136 | 29=>137 | 20=>160 | 21=>161 | 22=>162 | 23=>163 | 24=>164 | 25=>165 | 26=>166 | 27=>167 | 46=>176 | 47=>155 | 48=>156 | 49=>177 | 50=>178 | 57=>184 | n=>n,fun | 22=>46 | 24=>22 | 25=>106 | 3=>3 | 39=>163 | 0=>0 | 53=>81 | 55=>210 | 4=>4 | 46=>216 | 45=>215 | 50=>104 | 5=>5 | 9=>9 | 66=>239 | 70=>243 | 76=>253 | 77=>254 | n=>n,fun | n=>n⟩
theorem Tryz.laysSlF6_f117:Go.Proofs.SlLaysF.n6 prog Tryz.laysSlF6_f117_ren:={
 mixed:=by kernel_rfl
 f6:=⟨Tryz.f117.name,by decide,func117.trans (congrArg some (by kernel_rfl))⟩
 f14:=⟨Tryz.f143.name,by decide,func143.trans (congrArg some (by kernel_rfl))⟩
 f15:=func103.trans (congrArg some (by kernel_rfl))
 f20:=⟨Tryz.f160.name,by decide,func160.trans (congrArg some (by kernel_rfl))⟩
 f21:=⟨Tryz.f161.name,by decide,func161.trans (congrArg some (by kernel_rfl))⟩
 f22:=⟨Tryz.f162.name,by decide,func162.trans (congrArg some (by kernel_rfl))⟩
 f23:=⟨Tryz.f163.name,by decide,func163.trans (congrArg some (by kernel_rfl))⟩
 f24:=⟨Tryz.f164.name,by decide,func164.trans (congrArg some (by kernel_rfl))⟩
 f25:=⟨Tryz.f165.name,by decide,func165.trans (congrArg some (by kernel_rfl))⟩
 f26:=⟨Tryz.f166.name,by decide,func166.trans (congrArg some (by kernel_rfl))⟩
 f27:=⟨Tryz.f167.name,by decide,func167.trans (congrArg some (by kernel_rfl))⟩
 f28:=func136.trans (congrArg some (by kernel_rfl))
 f29:=func137.trans (congrArg some (by kernel_rfl))
 f46:=⟨Tryz.f176.name,by decide,func176.trans (congrArg some (by kernel_rfl))⟩
 f47:=func155.trans (congrArg some (by kernel_rfl))
 f48:=func156.trans (congrArg some (by kernel_rfl))
 f49:=⟨Tryz.f177.name,by decide,func177.trans (congrArg some (by kernel_rfl))⟩
 f50:=⟨Tryz.f178.name,by decide,func178.trans (congrArg some (by kernel_rfl))⟩
 f57:=⟨Tryz.f184.name,by decide,func184.trans (congrArg some (by kernel_rfl))⟩
 t0:=underlying0
 a0:=isAgg0
 z0:=sizeOf0
 v0:=zeroValue0
 t3:=underlying3
 a3:=isAgg3
 z3:=sizeOf3
 v3:=zeroValue3
 t4:=underlying4
 a4:=isAgg4
 z4:=sizeOf4
 v4:=zeroValue4
 t5:=underlying5
 a5:=isAgg5
 z5:=sizeOf5
 v5:=zeroValue5
 t9:=underlying9
 a9:=isAgg9
 z9:=sizeOf9
 v9:=zeroValue9
 t22:=underlying46
 a22:=isAgg46
 z22:=sizeOf46
 v22:=zeroValue46
 a24:=isAgg22
 z24:=sizeOf22
 t25:=underlying106
 a25:=isAgg106
 z25:=sizeOf106
 v25:=zeroValue106
 t39:=underlying163
 a39:=isAgg163
 z39:=sizeOf163
 v39:=zeroValue163
 t45:=underlying215
 a45:=isAgg215
 z45:=sizeOf215
 v45:=zeroValue215
 t46:=underlying216
 a46:=isAgg216
 z46:=sizeOf216
 v46:=zeroValue216
 t50:=underlying104
 a50:=isAgg104
 z50:=sizeOf104
 v50:=zeroValue104
 t53:=underlying81
 a53:=isAgg81
 z53:=sizeOf81
 v53:=zeroValue81
 t55:=underlying210
 a55:=isAgg210
 z55:=sizeOf210
 v55:=zeroValue210
 t66:=underlying239
 a66:=isAgg239
 z66:=sizeOf239
 v66:=zeroValue239
 t70:=underlying243
 a70:=isAgg243
 z70:=sizeOf243
 v70:=zeroValue243
 t76:=underlying253
 a76:=isAgg253
 z76:=sizeOf253
 v76:=zeroValue253
 t77:=underlying254
 a77:=isAgg254
 z77:=sizeOf254
 v77:=zeroValue254}
open Go.RowKit Go.Lib Go.Sort in
theorem Tryz.slices_SortFunc_f61{α:Type}[Inhabited α](enc:α→Value)(h1:OneCell enc)(cf:α→α→Int)(hO:SWO (ltOf cf))(g:Nat)(cb:Array Value)(blk off cap:Nat)(d:Array α)(w:World)(eg:∀ args w,(callFunc g args).run prog w=.ok (.enter g args) w)(hcmp:CmpLays1 prog g cb enc cf blk off d.size w)(hH:Holds enc w blk off d)(hblk:blk<w.heap.size)(hsz:d.size<4611686018427387904):
  Calls prog 61 #[.slice (some ⟨blk,off,none⟩) d.size cap,.func (.func g) #[] cb] w fun e w'=>
   e=.returned (.tuple #[])∧∃ d' n os,PermIn 0 d.size d d'∧SortedIn (ltOf cf) 0 d.size d'∧w'=sortWorld enc w blk off n d' os:=Any.slices_SortFunc Tryz.laysSlF6_f61 enc h1 cf hO g cb blk off cap d w eg hcmp hH hblk hsz
open Go.RowKit Go.Lib Go.Sort in
theorem Tryz.slices_SortFunc_f117{α:Type}[Inhabited α](enc:α→Value)(h1:OneCell enc)(cf:α→α→Int)(hO:SWO (ltOf cf))(g:Nat)(cb:Array Value)(blk off cap:Nat)(d:Array α)(w:World)(eg:∀ args w,(callFunc g args).run prog w=.ok (.enter g args) w)(hcmp:CmpLays1 prog g cb enc cf blk off d.size w)(hH:Holds enc w blk off d)(hblk:blk<w.heap.size)(hsz:d.size<4611686018427387904):
  Calls prog 117 #[.slice (some ⟨blk,off,none⟩) d.size cap,.func (.func g) #[] cb] w fun e w'=>
   e=.returned (.tuple #[])∧∃ d' n os,PermIn 0 d.size d d'∧SortedIn (ltOf cf) 0 d.size d'∧w'=sortWorld enc w blk off n d' os:=Any.slices_SortFunc Tryz.laysSlF6_f117 enc h1 cf hO g cb blk off cap d w eg hcmp hH hblk hsz
def Tryz.laysSlF06_f61_ren:Go.Shelf.Ren:=⟨fun | 6=>61 | 15=>103 | 14=>102 | 28=>136 | 29=>137 | 20=>128 | 21=>129 | 22=>130 | 23=>131 | 24=>132 | 25=>133 | 26=>134 | 27=>135 | 46=>154 | 47=>155 | 48=>156 | 49=>157 | 50=>158 | 57=>171 | n=>n,fun | 22=>76 | 24=>81 | 25=>120 | 3=>3 | 39=>163 | 0=>0 | 53=>81 | 55=>210 | 4=>4 | 46=>216 | 45=>215 | 50=>104 | 5=>5 | 9=>9 | 66=>239 | 70=>243 | 76=>253 | 77=>254 | n=>n,fun | n=>n⟩
theorem Tryz.laysSlF06_f61:Go.Proofs.SlLaysF0.n6 prog Tryz.laysSlF06_f61_ren:={
 mixed:=by kernel_rfl
 f6:=⟨Tryz.f61.name,by decide,func61.trans (congrArg some (by kernel_rfl))⟩
 f14:=⟨Tryz.f102.name,by decide,func102.trans (congrArg some (by kernel_rfl))⟩
 f15:=func103.trans (congrArg some (by kernel_rfl))
 f20:=⟨Tryz.f128.name,by decide,func128.trans (congrArg some (by kernel_rfl))⟩
 f21:=⟨Tryz.f129.name,by decide,func129.trans (congrArg some (by kernel_rfl))⟩
 f22:=⟨Tryz.f130.name,by decide,func130.trans (congrArg some (by kernel_rfl))⟩
 f23:=⟨Tryz.f131.name,by decide,func131.trans (congrArg some (by kernel_rfl))⟩
 f24:=⟨Tryz.f132.name,by decide,func132.trans (congrArg some (by kernel_rfl))⟩
 f25:=⟨Tryz.f133.name,by decide,func133.trans (congrArg some (by kernel_rfl))⟩
 f26:=⟨Tryz.f134.name,by decide,func134.trans (congrArg some (by kernel_rfl))⟩
 f27:=⟨Tryz.f135.name,by decide,func135.trans (congrArg some (by kernel_rfl))⟩
 f28:=func136.trans (congrArg some (by kernel_rfl))
 f29:=func137.trans (congrArg some (by kernel_rfl))
 f46:=⟨Tryz.f154.name,by decide,func154.trans (congrArg some (by kernel_rfl))⟩
 f47:=func155.trans (congrArg some (by kernel_rfl))
 f48:=func156.trans (congrArg some (by kernel_rfl))
 f49:=⟨Tryz.f157.name,by decide,func157.trans (congrArg some (by kernel_rfl))⟩
 f50:=⟨Tryz.f158.name,by decide,func158.trans (congrArg some (by kernel_rfl))⟩
 f57:=⟨Tryz.f171.name,by decide,func171.trans (congrArg some (by kernel_rfl))⟩
 t0:=underlying0
 a0:=isAgg0
 z0:=sizeOf0
 v0:=zeroValue0
 t3:=underlying3
 a3:=isAgg3
 z3:=sizeOf3
 v3:=zeroValue3
 t4:=underlying4
 a4:=isAgg4
 z4:=sizeOf4
 v4:=zeroValue4
 t5:=underlying5
 a5:=isAgg5
 z5:=sizeOf5
 v5:=zeroValue5
 t9:=underlying9
 a9:=isAgg9
 z9:=sizeOf9
 v9:=zeroValue9
 t22:=underlying76
 a22:=isAgg76
 z22:=sizeOf76
 v22:=zeroValue76
 t25:=underlying120
 a25:=isAgg120
 z25:=sizeOf120
 v25:=zeroValue120
 t39:=underlying163
 a39:=isAgg163
 z39:=sizeOf163
 v39:=zeroValue163
 t45:=underlying215
 a45:=isAgg215
 z45:=sizeOf215
 v45:=zeroValue215
 t46:=underlying216
 a46:=isAgg216
 z46:=sizeOf216
 v46:=zeroValue216
 t50:=underlying104
 a50:=isAgg104
 z50:=sizeOf104
 v50:=zeroValue104
 t53:=underlying81
 a53:=isAgg81
 z53:=sizeOf81
 v53:=zeroValue81
 t55:=underlying210
 a55:=isAgg210
 z55:=sizeOf210
 v55:=zeroValue210
 t66:=underlying239
 a66:=isAgg239
 z66:=sizeOf239
 v66:=zeroValue239
 t70:=underlying243
 a70:=isAgg243
 z70:=sizeOf243
 v70:=zeroValue243
 t76:=underlying253
 a76:=isAgg253
 z76:=sizeOf253
 v76:=zeroValue253
 t77:=underlying254
 a77:=isAgg254
 z77:=sizeOf254
 v77:=zeroValue254}
open Go.RowKit Go.Lib Go.Sort in
theorem Tryz.slices_SortFunc_none_f61{α:Type}[Inhabited α](p:Option Addr)(cap:Nat)(fv:Value)(w:World):
  Calls prog 61 #[.slice p 0 cap,fv] w fun e w'=>e=.returned (.tuple #[])∧w'=w:=AnyF.slices_SortFunc_none Tryz.laysSlF06_f61 p cap fv w
def Tryz.laysSlF06_f117_ren:Go.Shelf.Ren:=⟨fun | 6=>117 | 15=>103 | 14=>143 | 28=>136 | 29=>137 | 20=>160 | 21=>161 | 22=>162 | 23=>163 | 24=>164 | 25=>165 | 26=>166 | 27=>167 | 46=>176 | 47=>155 | 48=>156 | 49=>177 | 50=>178 | 57=>184 | n=>n,fun | 22=>46 | 24=>22 | 25=>106 | 3=>3 | 39=>163 | 0=>0 | 53=>81 | 55=>210 | 4=>4 | 46=>216 | 45=>215 | 50=>104 | 5=>5 | 9=>9 | 66=>239 | 70=>243 | 76=>253 | 77=>254 | n=>n,fun | n=>n⟩
theorem Tryz.laysSlF06_f117:Go.Proofs.SlLaysF0.n6 prog Tryz.laysSlF06_f117_ren:={
 mixed:=by kernel_rfl
 f6:=⟨Tryz.f117.name,by decide,func117.trans (congrArg some (by kernel_rfl))⟩
 f14:=⟨Tryz.f143.name,by decide,func143.trans (congrArg some (by kernel_rfl))⟩
 f15:=func103.trans (congrArg some (by kernel_rfl))
 f20:=⟨Tryz.f160.name,by decide,func160.trans (congrArg some (by kernel_rfl))⟩
 f21:=⟨Tryz.f161.name,by decide,func161.trans (congrArg some (by kernel_rfl))⟩
 f22:=⟨Tryz.f162.name,by decide,func162.trans (congrArg some (by kernel_rfl))⟩
 f23:=⟨Tryz.f163.name,by decide,func163.trans (congrArg some (by kernel_rfl))⟩
 f24:=⟨Tryz.f164.name,by decide,func164.trans (congrArg some (by kernel_rfl))⟩
 f25:=⟨Tryz.f165.name,by decide,func165.trans (congrArg some (by kernel_rfl))⟩
 f26:=⟨Tryz.f166.name,by decide,func166.trans (congrArg some (by kernel_rfl))⟩
 f27:=⟨Tryz.f167.name,by decide,func167.trans (congrArg some (by kernel_rfl))⟩
 f28:=func136.trans (congrArg some (by kernel_rfl))
 f29:=func137.trans (congrArg some (by kernel_rfl))
 f46:=⟨Tryz.f176.name,by decide,func176.trans (congrArg some (by kernel_rfl))⟩
 f47:=func155.trans (congrArg some (by kernel_rfl))
 f48:=func156.trans (congrArg some (by kernel_rfl))
 f49:=⟨Tryz.f177.name,by decide,func177.trans (congrArg some (by kernel_rfl))⟩
 f50:=⟨Tryz.f178.name,by decide,func178.trans (congrArg some (by kernel_rfl))⟩
 f57:=⟨Tryz.f184.name,by decide,func184.trans (congrArg some (by kernel_rfl))⟩
 t0:=underlying0
 a0:=isAgg0
 z0:=sizeOf0
 v0:=zeroValue0
 t3:=underlying3
 a3:=isAgg3
 z3:=sizeOf3
 v3:=zeroValue3
 t4:=underlying4
 a4:=isAgg4
 z4:=sizeOf4
 v4:=zeroValue4
 t5:=underlying5
 a5:=isAgg5
 z5:=sizeOf5
 v5:=zeroValue5
 t9:=underlying9
 a9:=isAgg9
 z9:=sizeOf9
 v9:=zeroValue9
 t22:=underlying46
 a22:=isAgg46
 z22:=sizeOf46
 v22:=zeroValue46
 t25:=underlying106
 a25:=isAgg106
 z25:=sizeOf106
 v25:=zeroValue106
 t39:=underlying163
 a39:=isAgg163
 z39:=sizeOf163
 v39:=zeroValue163
 t45:=underlying215
 a45:=isAgg215
 z45:=sizeOf215
 v45:=zeroValue215
 t46:=underlying216
 a46:=isAgg216
 z46:=sizeOf216
 v46:=zeroValue216
 t50:=underlying104
 a50:=isAgg104
 z50:=sizeOf104
 v50:=zeroValue104
 t53:=underlying81
 a53:=isAgg81
 z53:=sizeOf81
 v53:=zeroValue81
 t55:=underlying210
 a55:=isAgg210
 z55:=sizeOf210
 v55:=zeroValue210
 t66:=underlying239
 a66:=isAgg239
 z66:=sizeOf239
 v66:=zeroValue239
 t70:=underlying243
 a70:=isAgg243
 z70:=sizeOf243
 v70:=zeroValue243
 t76:=underlying253
 a76:=isAgg253
 z76:=sizeOf253
 v76:=zeroValue253
 t77:=underlying254
 a77:=isAgg254
 z77:=sizeOf254
 v77:=zeroValue254}
open Go.RowKit Go.Lib Go.Sort in
theorem Tryz.slices_SortFunc_none_f117{α:Type}[Inhabited α](p:Option Addr)(cap:Nat)(fv:Value)(w:World):
  Calls prog 117 #[.slice p 0 cap,fv] w fun e w'=>e=.returned (.tuple #[])∧w'=w:=AnyF.slices_SortFunc_none Tryz.laysSlF06_f117 p cap fv w
end Go.Proofs
end
section
namespace Ab
open Go Go.Proofs
open Tryz
theorem sort_facts:K2 prog 87:=⟨_,func87,rfl,rfl⟩
theorem compact_facts:K2 prog 88:=⟨_,func88,rfl,rfl⟩
theorem sortL_ok:SortOk prog 87:=fun hσ hl=>sort_fn sort_facts (fun blk off cap zs w hH hb hs=>Tryz.slices_Sort_int blk off cap zs w hH hb hs) (fun p cap w=>Tryz.slices_Sort_int_none p cap w) hσ hl
theorem compactL_ok:CompactOk prog 88:=fun hσ=>compact_fn compact_facts (fun blk off cap zs w hH hs hc=>Tryz.slices_Compact_int blk off cap zs w hH hs hc) (fun a cap w=>Tryz.slices_Compact_int_empty a cap w) hσ
end Ab
end
section
namespace Ab
open Go Go.Proofs
open Tryz
theorem sortF_facts:K2 prog 117:=⟨_,func117,rfl,rfl⟩
theorem sortF_LLi64_ok:SortFOk prog 117:=fun hgn hO hT hg _ _ _ hσ hl=>sortF_fn sortF_facts hgn hO hT hg (fun β _ enc h1 cf hO g cb blk off cap d w eg hcmp hH hblk hsz=>Tryz.slices_SortFunc_f117 enc h1 cf hO g cb blk off cap d w eg hcmp hH hblk hsz) (fun p cap fv w=>Tryz.slices_SortFunc_none_f117 (α:=Unit) p cap fv w) hσ hl
end Ab
end
section
namespace Ab
open Go Go.Proofs
open Tryz
theorem sortU_facts:K2 prog 61:=⟨_,func61,rfl,rfl⟩
theorem sortF_Lu32_ok:SortFOk prog 61:=fun hgn hO hT hg _ _ _ hσ hl=>sortF_fn sortU_facts hgn hO hT hg (fun β _ enc h1 cf hO g cb blk off cap d w eg hcmp hH hblk hsz=>Tryz.slices_SortFunc_f61 enc h1 cf hO g cb blk off cap d w eg hcmp hH hblk hsz) (fun p cap fv w=>Tryz.slices_SortFunc_none_f61 (α:=Unit) p cap fv w) hσ hl
end Ab
end
section
namespace Ab
open Go Go.Proofs
open Tryz
theorem reverse_facts:K2 prog 112:=⟨_,func112,rfl,rfl⟩
theorem revL_ok:RevOk prog 112:=fun hσ=>rev_fn reverse_facts (fun blk off cap zs w hH hs=>Tryz.slices_Reverse_int blk off cap zs w hH hs) (fun p cap w=>Tryz.slices_Reverse_int_empty p cap w) hσ
end Ab
end
