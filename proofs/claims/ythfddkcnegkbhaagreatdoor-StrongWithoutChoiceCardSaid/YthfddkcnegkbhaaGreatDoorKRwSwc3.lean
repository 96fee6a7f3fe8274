/-
  Texts that the proof stands on.
-/
import Derived.Test.YthfddkcnegkbhaaGreatDoorKRwSwc2
import Derived.Laws.Cover3
import Derived.WalkSmall
import Derived.Shelf.RegionOpenPlain
import Derived.Lib.Walk
import Derived.Lib.SliceRun
import Derived.Lib.JoinLaws
import Derived.Lib.AppendZerosOnto
import Derived.Lib.Overlaps
import Derived.Laws.Externs
import Derived.Laws.IdiomCopy
import Derived.Laws.NewBlocks
import Derived.Shelf.Small.Bits
import Derived.Shelf.Small.Wraps
import Derived.Shelf.Strconv.Itoa0
import Derived.Shelf.Strconv.Itoa1
import Derived.Shelf.LaysM
import Derived.Shelf.Strconv.Itoa2
import Derived.Shelf.Sort.Plain
import Derived.Shelf.Strconv.AppendUint10
import Derived.Shelf.Strconv.AppendInt10
import Derived.Shelf.Bits.Mul64
import Derived.Shelf.Slices.Turned
import Derived.Shelf.Slices.Reverse
import Derived.Shelf.Slices.Equal
import Derived.Ground.Names2Prog
import Derived.Shelf.Slices.Clone
import Derived.Shelf.Slices.SearchI
import Derived.Shelf.Slices.Cells
import Derived.Shelf.Slices.In.SortNone
import Derived.Shelf.Slices.Empties
import Derived.Shelf.Slices.Empties2
import Derived.Ground.SlgnProg
import Derived.Shelf.SlicesE.Reverse
import Derived.Shelf.SlicesE.Clone
import Derived.Ground.SlsfProg
import Derived.Shelf.SlSortCmp.Insertion
import Derived.Shelf.SlSortCmp.SiftDown1
import Derived.Shelf.SlSortCmp.HeapSort1
import Derived.Shelf.SlSortCmp.Insertion1
import Derived.Shelf.SlSortCmp.Median1
import Derived.Shelf.SlSortCmp.Pivot1
import Derived.Shelf.SlSortCmp.ReverseRange1
import Derived.Shelf.SlSortCmp.PartialInsertion1
import Derived.Shelf.SlSortCmp.PartitionEqual1
import Derived.Shelf.SlSortCmp.Partition1
import Derived.Shelf.SlSortCmp.Pdq1
import Derived.Shelf.SlSortCmp.NoneTotal
import Derived.Test.YthfddkcnegkbhaaGreatDoorProg
set_option linter.all false
section
namespace Ab
open Go
theorem Rs.allocB{Γ:Cx}{σ:b6}{φ:Phi}{w:World}(h:Rs Γ σ φ w){p0:Obj→List Value→Prop}{cs0:List C}{us0:List Value}{obj:Obj}(hob:p0 obj us0)(hcs:∀(i:Nat) (x:C),cs0[i]? =some x→∃u,us0[i]? =some u∧RelC w φ σ (Al Γ.N φ σ) x u):
  Kept w (w.alloc obj) φ (o9 σ.length φ w.heap.size) σ (σ++[.one (.obj p0 cs0)]) (Al Γ.N φ σ) (Al Γ.N (o9 σ.length φ w.heap.size) (σ++[.one (.obj p0 cs0)]))∧
  Rs Γ (σ++[.one (.obj p0 cs0)]) (o9 σ.length φ w.heap.size) (w.alloc obj):=by
 have old:∀b,b<w.heap.size→(w.alloc obj).heap[b]? =w.heap[b]? :=fun b hb=>by first|exact heap_alloc_old w _ hb|exact heap_alloc_old w _ _ hb
 have new:(w.alloc obj).heap[w.heap.size]? =some obj:=heap_alloc_new w _
 have plo:∀i:Id,i.1<σ.length→o9 σ.length φ w.heap.size i=φ i:=fun i hi=>by
  have:i ≠ (σ.length,[]):=fun e=>by rw[e] at hi;exact Nat.lt_irrefl _ hi
  simp[o9,this]
 have pnew:o9 σ.length φ w.heap.size (σ.length,[])=some (w.heap.size,0):=by simp[o9]
 have cases2:∀(i:Id) blk,(σ++[.one (.obj p0 cs0)])[i]? =some (some blk)→(i.1<σ.length∧σ[i]? =some (some blk))∨(i=(σ.length,[])∧blk=.obj p0 cs0):=fun i blk hi=>b6.get_new hi
 have A1:∀b,Al Γ.N φ σ b→b<w.heap.size→Al Γ.N (o9 σ.length φ w.heap.size) (σ++[.one (.obj p0 cs0)]) b:=fun b hb hl=>⟨hb.1,fun i blk base hi hp=>by
  rcases cases2 i blk hi with⟨h1,h2⟩|⟨rfl,rfl⟩
  ·rw[plo i h1] at hp;exact hb.2 i blk base h2 hp
  ·rw[pnew] at hp;cases hp;omega⟩
 have hK:Kept w (w.alloc obj) φ (o9 σ.length φ w.heap.size) σ (σ++[.one (.obj p0 cs0)]) (Al Γ.N φ σ) (Al Γ.N (o9 σ.length φ w.heap.size) (σ++[.one (.obj p0 cs0)])):=
  {imm:=fun b _ hl=>old b hl,all:=A1,len:=by simp,
   cells:=fun i kk es' hi he=>by
    rw[b6.get_left hi] at he
    exact⟨es',he,rfl,plo i hi,fun b base arr ety hp hb=>⟨arr,(old b (Al.own_lt h.st he hp)).trans hb,rfl⟩⟩,
   obj:=fun i p' cs' hi he=>by
    rw[b6.get_left hi] at he
    exact⟨plo i hi,p',cs',he⟩}
 refine⟨hK,?_⟩
 exact {
  good:=h.good
  st:=⟨fun i b hi=>by
    rcases cases2 i b hi with⟨h1,h2⟩|⟨rfl,rfl⟩
    ·rw[plo i h1]
     exact(h.st.blk i b h2).mono hK fun g base hp=>old g (Al.own_lt h.st h2 hp)
    ·rw[pnew]
     exact⟨w.heap.size,obj,us0,rfl,new,hob,fun i x hx=>let ⟨u,g1,g2⟩:=hcs i x hx; ⟨u,g1,g2.mono hK⟩⟩,
   fun i j bi bj p q hi hj hp hq he=>by
    obtain⟨pb,po⟩:=p
    obtain⟨qb,qo⟩:=q
    dsimp only at he
    subst he
    rcases cases2 i bi hi with⟨h1,h2⟩|⟨rfl,rfl⟩<;>rcases cases2 j bj hj with⟨g1,g2⟩|⟨rfl,rfl⟩
    ·rw[plo i h1] at hp;rw[plo j g1] at hq
     exact h.st.inj i j bi bj _ _ h2 g2 hp hq rfl
    ·rw[plo i h1] at hp;rw[pnew] at hq;cases hq
     have:=Al.own_lt h.st h2 hp;omega
    ·rw[plo j g1] at hq;rw[pnew] at hp;cases hp
     have:=Al.own_lt h.st g2 hq;omega
    ·rfl⟩
  keep:=fun i blk b base hi hp hKb=>by
   rcases cases2 i blk hi with⟨h1,h2⟩|⟨rfl,rfl⟩
   ·rw[plo i h1] at hp;exact h.keep i blk b base h2 hp hKb
   ·rw[pnew] at hp;cases hp
    have:=hKb.1;have:=h.size;omega
  os:=h.os
  tape:=h.tape
  drawn:=h.drawn
  output:=h.output
  size:=Nat.le_trans h.size (by simp)
  block:=fun b hKb=>(old b (Nat.lt_of_lt_of_le hKb.1 h.size)).trans (h.block b hKb)
  kept:=Kept.trans h.size h.kept hK}
theorem Rs.writeB{Γ:Cx}{σ:b6}{φ:Phi}{w:World}(h:Rs Γ σ φ w){id:Id}{b:Nat}{q0 q1:Obj→List Value→Prop}{cs0 cs1:List C}{us1:List Value}{o0 o1:Obj}(hid:σ[id]? =some (some (.obj q0 cs0)))(hp:φ id=some (b,0))(hb:w.heap[b]? =some o0)(hq:q1 o1 us1)(hcs:∀(i:Nat) (x:C),cs1[i]? =some x→∃u,us1[i]? =some u∧RelC w φ σ (Al Γ.N φ σ) x u):
  Kept w ({w with heap:=w.heap.setIfInBounds b o1}:World) φ φ σ (σ.put id (some (.obj q1 cs1))) (Al Γ.N φ σ) (Al Γ.N φ (σ.put id (some (.obj q1 cs1))))∧Rs Γ (σ.put id (some (.obj q1 cs1))) φ ({w with heap:=w.heap.setIfInBounds b o1}:World):=by
 have new:({w with heap:=w.heap.setIfInBounds b o1}:World).heap[b]? =some o1:=(Go.MapKept.heap_set hb).1
 have old:∀g,g ≠ b→({w with heap:=w.heap.setIfInBounds b o1}:World).heap[g]? =w.heap[g]? :=fun g hg=>(Go.MapKept.heap_set hb).2 g hg
 have hsize:({w with heap:=w.heap.setIfInBounds b o1}:World).heap.size=w.heap.size:=by simp
 have at_:∀(i:Id) x,(σ.put id (some (.obj q1 cs1)))[i]? =some (some x)→(i=id∧x=.obj q1 cs1)∨(i ≠ id∧σ[i]? =some (some x)):=fun i x hi=>by
  rcases b6.get_put hid hi with⟨h1,h2⟩|h
  ·cases h2;exact .inl ⟨h1,rfl⟩
  ·exact .inr h
 have other:∀(i:Id) blk g bs,i ≠ id→σ[i]? =some (some blk)→φ i=some (g,bs)→g ≠ b:=fun i blk g bs hne hi hpi e=>by
  subst e
  exact hne (h.st.inj i id _ _ _ _ hi hid hpi hp rfl)
 have A1:∀g,Al Γ.N φ σ g→Al Γ.N φ (σ.put id (some (.obj q1 cs1))) g:=fun g hg=>⟨hg.1,fun i blk bs hi hpi=>by
  rcases at_ i blk hi with⟨rfl,_⟩|⟨_,hi⟩
  ·exact hg.2 i _ bs hid hpi
  ·exact hg.2 i blk bs hi hpi⟩
 have hK:Kept w ({w with heap:=w.heap.setIfInBounds b o1}:World) φ φ σ (σ.put id (some (.obj q1 cs1))) (Al Γ.N φ σ) (Al Γ.N φ (σ.put id (some (.obj q1 cs1)))):=
  {imm:=fun g hg _=>old g (fun e=>by subst e;exact hg.2 id _ 0 hid hp),all:=fun g hg _=>A1 g hg,len:=by simp,
   cells:=fun i kk es2 hi he=>by
    rcases at_ i _ he with⟨rfl,e⟩|⟨hne,he⟩
    ·cases e
    ·refine⟨es2,he,rfl,rfl,fun b2 base2 arr2 ety2 hp2 hb2=>⟨arr2,?_,rfl⟩⟩
     exact(old b2 (other i _ b2 base2 hne he hp2)).trans hb2,
   obj:=fun i p' cs' hi he=>by
    rcases at_ i _ he with⟨rfl,e⟩|⟨_,he⟩
    ·exact⟨rfl,_,_,hid⟩
    ·exact⟨rfl,p',cs',he⟩}
 refine⟨hK,?_⟩
 exact {
  good:=h.good
  st:=⟨fun i bk hi=>by
    rcases at_ i _ hi with⟨rfl,e⟩|⟨hne,hi⟩
    ·cases e
     rw[hp]
     exact⟨b,o1,us1,rfl,new,hq,fun i x hx=>let ⟨u,g1,g2⟩:=hcs i x hx; ⟨u,g1,g2.mono hK⟩⟩
    ·exact(h.st.blk i bk hi).mono hK fun g bs hpi=>old g (other i bk g bs hne hi hpi),
   fun i j bi bj p q hi hj hpi hqj he=>by
    have alive:∀(i:Id) bi,(σ.put id (some (.obj q1 cs1)))[i]? =some (some bi)→∃b0,σ[i]? =some (some b0):=fun i bi hi=>by
     rcases at_ i _ hi with⟨rfl,_⟩|⟨_,hi⟩
     ·exact⟨_,hid⟩
     ·exact⟨_,hi⟩
    obtain⟨b1,h1⟩:=alive i bi hi
    obtain⟨b2,h2⟩:=alive j bj hj
    exact h.st.inj i j b1 b2 p q h1 h2 hpi hqj he⟩
  keep:=fun i blk g bs hi hpi hKb=>by
   rcases at_ i _ hi with⟨rfl,_⟩|⟨_,hi⟩
   ·exact h.keep i _ g bs hid hpi hKb
   ·exact h.keep i blk g bs hi hpi hKb
  os:=h.os
  tape:=h.tape
  drawn:=h.drawn
  output:=h.output
  size:=by rw[hsize];exact h.size
  block:=fun g hKb=>(old g (fun e=>by subst e;exact h.keep id _ g 0 hid hp hKb)).trans (h.block g hKb)
  kept:=Kept.trans h.size h.kept hK}
/-! ### What the slots hold that rounds read -/
def slotsP:List (Nat×Option Nat)→List Value→Array Value→Prop
 |[],_,_=>True
 |(t,none)::r,us,a=>(∃u,us.head? =some u∧a[t]? =some u)∧slotsP r us.tail a
 |(t,some n)::r,us,a=>((us.take n).length=n∧a[t]? =some (.agg (us.take n).toArray))∧slotsP r (us.drop n) a
def slotE:List (Nat×Option Nat)→List C→Env
 |[],_=>[]
 |(_,none)::_,[]=>[]
 |(t,none)::r,c::cs=>(t,.c c)::slotE r cs
 |(t,some n)::r,cs=>match Nat.beq (cs.take n).length n with
  |true=>(t,.agg (cs.take n))::slotE r (cs.drop n)
  |false=>[]
def slotC:List (Nat×Option Nat)→Env→Option (List C)
 |[],_=>some []
 |(t,none)::r,env=>match lookup t env,slotC r env with
  |some (.c c),some cs=>some (c::cs)
  |_,_=>none
 |(t,some n)::r,env=>match lookup t env,slotC r env with
  |some (.agg l),some cs=>match Nat.beq l.length n with
   |true=>some (l++cs)
   |false=>none
  |_,_=>none
section
variable {w:World} {φ:Phi} {σ:b6} {A:Nat→Prop}
theorem slot_env:∀(sh:List (Nat×Option Nat)) {us:List Value} {a:Array Value} {cs:List C},slotsP sh us a→(∀(i:Nat) (x:C),cs[i]? =some x→∃u,us[i]? =some u∧RelC w φ σ A x u)→
  ∀(t:Nat) (v:T),lookup t (slotE sh cs)=some v→∃u,a[t]? =some u∧RelT w φ σ A v u
 |[],us,a,cs,_,_,t,v,h=>by simp[slotE,lookup] at h
 |(s,none)::r,us,a,[],_,_,t,v,h=>by simp[slotE,lookup] at h
 |(s,none)::r,us,a,c::cs,hs,hr,t,v,h=>by
  simp only[slotE,lookup] at h
  obtain⟨⟨u,hu,ha⟩,hs⟩:=hs
  obtain⟨u0,hu0,hr0⟩:=hr 0 c rfl
  rw[List.head?_eq_getElem?] at hu
  rw[hu] at hu0;cases hu0
  split at h
  ·rename_i e
   cases h
   have:=Nat.eq_of_beq_eq_true e
   subst this
   exact⟨u,ha,.c hr0⟩
  ·exact slot_env r hs (fun i x hx=>by
    obtain⟨u,g1,g2⟩:=hr (i+1) x hx
    exact⟨u,by rw[← g1];cases us<;>simp,g2⟩) t v h
 |(s,some n)::r,us,a,cs,hs,hr,t,v,h=>by
  simp only[slotE] at h
  obtain⟨⟨hl,ha⟩,hs⟩:=hs
  cases hb:Nat.beq (cs.take n).length n with
  |false=>rw[hb] at h;simp[lookup] at h
  |true=>
   rw[hb] at h
   have hlen:=Nat.eq_of_beq_eq_true hb
   simp only[lookup] at h
   split at h
   ·rename_i e
    cases h
    have:=Nat.eq_of_beq_eq_true e
    subst this
    refine⟨_,ha,RelT.agg' (by rw[hl,hlen]) fun i c v hc hv=> ?_⟩
    rw[List.getElem?_take] at hc hv
    split at hc
    ·rename_i hi
     rw[if_pos hi] at hv
     obtain⟨u,g1,g2⟩:=hr i c hc
     rw[hv] at g1;cases g1;exact g2
    ·cases hc
   ·exact slot_env r hs (fun i x hx=>by
     rw[List.getElem?_drop] at hx
     obtain⟨u,g1,g2⟩:=hr _ x hx
     exact⟨u,by rw[List.getElem?_drop];exact g1,g2⟩) t v h
theorem slot_mk:∀(sh:List (Nat×Option Nat)) {env:Env} {a:Array Value} {cs:List C},(∀t v,lookup t env=some v→∃u,a[t]? =some u∧RelT w φ σ A v u)→slotC sh env=some cs→
  ∃us,slotsP sh us a∧us.length=cs.length∧∀(i:Nat) (x:C),cs[i]? =some x→∃u,us[i]? =some u∧RelC w φ σ A x u
 |[],env,a,cs,_,h=>by cases h;exact⟨[],trivial,rfl,fun i x hx=>by simp at hx⟩
 |(s,none)::r,env,a,cs,he,h=>by
  simp only[slotC] at h
  split at h<;>cases h
  rename_i c cs' h1 h2
  obtain⟨us,g1,g0,g2⟩:=slot_mk r he h2
  obtain⟨u,k1,k2⟩:=he s _ h1
  cases k2 with|c k2=>
  refine⟨u::us,⟨⟨u,rfl,k1⟩,g1⟩,by simp[g0],fun i x hx=> ?_⟩
  match i with
  |0=>cases hx;exact⟨u,rfl,k2⟩
  |i+1=>exact g2 i x hx
 |(s,some n)::r,env,a,cs,he,h=>by
  simp only[slotC] at h
  split at h
  ·rename_i l cs' h1 h2
   split at h<;>cases h
   rename_i hb
   have hn:=Nat.eq_of_beq_eq_true hb
   obtain⟨us,g1,g0,g2⟩:=slot_mk r he h2
   obtain⟨u,k1,k2⟩:=he s _ h1
   obtain⟨vs,rfl,k3,k4⟩:=RelT.agg_inv k2
   have hvn:vs.length=n:=by omega
   refine⟨vs++us,⟨⟨by rw[List.take_left' hvn];exact hvn,by rw[List.take_left' hvn];exact k1⟩,by rw[List.drop_left' hvn];exact g1⟩,by simp[g0,k3],fun i x hx=> ?_⟩
   rw[List.getElem?_append] at hx ⊢
   rw[k3]
   split at hx
   ·rename_i hi;rw[if_pos hi];exact k4 i x hx
   ·rename_i hi;rw[if_neg hi];exact g2 _ x hx
  ·cases h
end
def loopP(szc:Nat)(ps:List Nat)(asg body:Code)(st:LoopState)(pend:Option Code)(sh:List (Nat×Option Nat)):Obj→List Value→Prop:=fun o us=>
 ∃r:Go.Loop,o=.loop r∧r.state=st∧r.pending=pend∧r.params=ps.toArray∧r.assign=asg∧r.body=body∧r.tmps.size=szc∧slotsP sh us r.tmps
abbrev y4(szc:Nat)(ps:List Nat)(asg body:Code)(st:LoopState)(pend:Option Code)(sh:List (Nat×Option Nat))(cs:List C):Blk:=.obj (loopP szc ps asg body st pend sh) cs
def zipE:List Nat→List T→Env→Env
 |p::ps,t::ts,E=>zipE ps ts ((p,t)::E)
 |_,_,E=>E
theorem zip_env{w:World}{φ:Phi}{σ:b6}{A:Nat→Prop}{szc:Nat}:∀(ps:List Nat) (ts:List T) (us:List Value) (E:Env) (a:Array Value),a.size=szc→ts.length=us.length→(∀p ∈ ps,p<szc)→
  (∀(i:Nat) (t:T) (u:Value),ts[i]? =some t→us[i]? =some u→RelT w φ σ A t u)→(∀t v,lookup t E=some v→∃u,a[t]? =some u∧RelT w φ σ A v u)→
  ((ps.zip us).foldl (fun tmps (t,a)=>tmps.setIfInBounds t a) a).size=szc∧
  ∀t v,lookup t (zipE ps ts E)=some v→∃u,((ps.zip us).foldl (fun tmps (t,a)=>tmps.setIfInBounds t a) a)[t]? =some u∧RelT w φ σ A v u
 |[],ts,us,E,a,hz,_,_,_,he=>⟨by simpa using hz,fun t v h=>by simpa using he t v (by cases ts<;>exact h)⟩
 |p::ps,[],us,E,a,hz,hl,_,_,he=>by
  cases us with
  |nil=>exact⟨by simpa using hz,fun t v h=>by simpa using he t v h⟩
  |cons u us=>simp at hl
 |p::ps,t::ts,us,E,a,hz,hl,hp,hr,he=>by
  cases us with
  |nil=>simp at hl
  |cons u us=>
   simp only[List.zip_cons_cons,List.foldl_cons,zipE]
   refine zip_env ps ts us _ _ (by simpa using hz) (by simpa using hl) (fun q hq=>hp q (List.mem_cons_of_mem _ hq)) (fun i t u h1 h2=>hr (i+1) t u h1 h2) (fun s v h=> ?_)
   simp only[lookup] at h
   split at h
   ·rename_i e
    cases h
    have:=Nat.eq_of_beq_eq_true e
    subst this
    have hlt:p<a.size:=by rw[hz];exact hp p (by simp)
    exact⟨u,by simp[hlt],hr 0 _ u rfl rfl⟩
   ·rename_i e
    obtain⟨y,hy,hr'⟩:=he s v h
    have hne:p ≠ s:=fun e'=>by subst e';simp at e
    exact⟨y,by simp[hne,hy],hr'⟩
theorem b6.put2(σ:b6)(n:Nat)(b b':Option Blk):(σ.put (n,[]) b).put (n,[]) b'=σ.put (n,[]) b':=by
 have:∀e:Ent,(e.put [] b).put [] b'=e.put [] b':=fun e=>by cases e<;>cases b<;>rfl
 apply List.ext_getElem?
 intro i
 simp only[b6.put,List.getElem?_modify]
 cases hs:σ[i]? with
 |none=>simp
 |some e=>by_cases hi:n=i<;>simp[hi,this]
theorem Rs.allocU {Γ : Cx} {σ : b6} {φ : Phi} {w : World} (h : Rs Γ σ φ w) (obj : Obj) : Kept w (w.alloc obj) φ φ σ σ (Al Γ.N φ σ) (Al Γ.N φ σ) ∧ Rs Γ σ φ (w.alloc obj) := by
  have old : ∀ b, b < w.heap.size → (w.alloc obj).heap[b]? = w.heap[b]? := fun b hb => by first | exact heap_alloc_old w _ hb | exact heap_alloc_old w _ _ hb
  have hK : Kept w (w.alloc obj) φ φ σ σ (Al Γ.N φ σ) (Al Γ.N φ σ) :=
    { imm := fun b _ hl => old b hl, all := fun b hb _ => hb, len := Nat.le_refl _,
      cells := fun i kk es' hi he => ⟨es', he, rfl, rfl, fun b base arr ety hp hb => ⟨arr, (old b (Al.own_lt h.st he hp)).trans hb, rfl⟩⟩,
      obj := fun i p' cs' hi he => ⟨rfl, p', cs', he⟩ }
  refine ⟨hK, ?_⟩
  exact { good := h.good, st := ⟨fun i b hi => (h.st.blk i b hi).mono hK fun g base hp => old g (Al.own_lt h.st hi hp), h.st.inj⟩,
          keep := h.keep, os := h.os, tape := h.tape, drawn := h.drawn, output := h.output, size := Nat.le_trans h.size (by simp),
          block := fun b hKb => (old b (Nat.lt_of_lt_of_le hKb.1 h.size)).trans (h.block b hKb), kept := Kept.trans h.size h.kept hK }
section
variable {P:Program} {σ0:b6} {sz:Nat} {Q:Post} {env env':Env} {σv σ' σb:b6} {ops:Array Oper} {rest:List Oper} {dst:Option Nat} {ty:TypeId} {pos:String} {after:Array Edge}
variable {szc:Nat} {ps:List Nat} {asg body:Code} {sh:List (Nat×Option Nat)} {cs:List C}
theorem yld_inv{w:World}{φ:Phi}{σ:b6}{A:Nat→Prop}{id:Id}{p:Obj→List Value→Prop}{u:Value}(h:RelT w φ σ A (.c (.yld id)) u)(hσ:σ[id]? =some (some (.obj p cs))):∃b base,φ id=some (b,base)∧u=.func (.yield b) #[] #[]:=by
 cases h with|c h=>cases h with|yld hid h1 h=>exact h _ _ hσ
def yPost(P:Program)(σ0:b6)(sz:Nat)(Q:Post)(ops:Array Oper)(rest:List Oper)(env:Env)(dst:Option Nat)(id:Id)(szc:Nat)(ps:List Nat)(asg body:Code)(sh:List (Nat×Option Nat)):Post:=fun e s'=>
 ∃cs',s'.σ[id]? =some (some (y4 szc ps asg body .busy none sh cs'))∧match e with
 | .normal=>AOps P σ0 sz ops Q rest ⟨putE env dst (.c (bool true)),s'.σ.put id (some (y4 szc ps asg body .ready none sh cs'))⟩
 | .ret=>AOps P σ0 sz ops Q rest ⟨putE env dst (.c (bool false)),s'.σ.put id (some (y4 szc ps asg body .done (some .ret) sh cs'))⟩
 | .exit i=>AOps P σ0 sz ops Q rest ⟨putE env dst (.c (bool false)),s'.σ.put id (some (y4 szc ps asg body .done (some (.exit i)) sh cs'))⟩
 |_=>False
theorem AOps.yield{x:Operand}{as':List Operand}{ats:Array TypeId}{id:Id}{ts:List T}{E1:Env}{σ1:b6}(hx:ev env x=some (.c (.yld id)))(ha:evs env as'=some ts)(hσ:σv[id]? =some (some (y4 szc ps asg body .ready none sh cs)))
  (hl:Nat.beq ts.length ps.length=true) (hps:ps.all (fun p=>Nat.blt p szc)=true) (hna:M5 asg=false) (hnr:M5 body=false) (hd:f5 sz dst=true) (hσ1:σ1[id]? =some (some (y4 szc ps asg body .ready none sh cs))) (hσb:σ1.put id (some (y4 szc ps asg body .busy none sh cs))=σb)
  (hass:AWP P σv szc asg (fun e s'=>e=.normal∧s'=St.mk E1 σ1) ⟨zipE ps ts (slotE sh cs),σv⟩)
  (h:AWP P σv szc body (yPost P σ0 sz Q ops rest env dst id szc ps asg body sh) ⟨E1,σb⟩):
  AOps P σ0 sz ops Q (⟨dst,.call ⟨.value x,as'.toArray,ats⟩,ty,pos,after,none⟩::rest) (St.mk env σv):=fun Γ φ a w hΓ hR ro=>by
 subst hσb
 obtain⟨b,base,hp,hv⟩:=yld_inv (h9 hR hx) hσ
 obtain⟨b',o,us,g1,g2,⟨r,rfl,r1,r2,r3,r4,r5,r6,r7⟩,g3⟩:=hR.st.blk _ _ hσ
 rw[hp] at g1;cases g1
 obtain⟨k1,k2⟩:=evs_rel hR ha
 have hlen:ts.length=ps.length:=Nat.eq_of_beq_eq_true hl
 have hrun:(execOp a.eval ⟨dst,.call ⟨.value x,as'.toArray,ats⟩,ty,pos,after,none⟩).run P w=.ok (.round b r.fn ((ps.zip (as'.map a.eval)).foldl (fun tmps (t,a)=>tmps.setIfInBounds t a) r.tmps) asg body) w:=by
  have:=run_yield (P:=P) (args:=(as'.map a.eval).toArray) g2 (by rw[r3];simp;omega)
  rw[r3,r4,r5] at this
  simp only[List.zip_toArray,List.foldl_toArray] at this
  simp[execOp,resolve,hv,Deferred.ofValue,invoke,this]
 refine U7 rfl ⟨fun _ _=>trivial,?_⟩
 rw[sem_ro hrun (fun d=>nofun),Oper.uponIn_round]
 have hz:=zip_env (w:=w) (φ:=φ) (σ:=σv) (A:=Al Γ.N φ σv) (szc:=szc) ps ts (as'.map a.eval) (slotE sh cs) r.tmps r6 (by simp[k1]) (fun p hp=>by
   have:=List.all_eq_true.1 hps p hp
   simpa using this) k2 (slot_env sh r7 g3)
 have hR1:R ⟨w,Γ.N,φ,σv⟩ szc ⟨zipE ps ts (slotE sh cs),σv⟩ φ {tmps:=(ps.zip (as'.map a.eval)).foldl (fun tmps (t,a)=>tmps.setIfInBounds t a) r.tmps,defers:=[]} w:=
  {toRs:=hR.toRs.down.rs,defers:=.nil,asize:=hz.1,env:=hz.2}
 have hid:id.1<σv.length:=b6.lt_of hσ
 refine⟨fun h=>by simp at h,roundIn_of_wpIn (F:=fw ro) trivial (wpIn_mono (hass _ φ _ _ rfl hR1 (some b) (fun e=>by rw[hna] at e;cases e)) ?_)⟩
 rintro e a1 w1 ⟨s1,φ1,⟨rfl,rfl⟩,hR1⟩
 have hφ1:φ1 id=some (b,0):=((hR1.toRs.kept.obj id _ _ hid hσ1).1).trans hp
 obtain⟨b',o,us,q1,q2,⟨r',rfl,r1,r2,r3,r4,r5,r6,r7⟩,q3⟩:=hR1.st.blk _ _ hσ1
 rw[hφ1] at q1;cases q1
 have hW:=Rs.writeB (q1:=loopP szc ps asg body .busy none sh) (cs1:=cs) (o1:=.loop {r' with state:=.busy}) hR1.toRs hσ1 hφ1 q2 ⟨{r' with state:=.busy},rfl,rfl,r2,r3,r4,r5,r6,r7⟩ q3
 refine⟨_,run_beginRound (P:=P) q2 r1,?_⟩
 refine wpIn_mono (h _ φ1 _ _ rfl (hR1.of hW.1 hW.2) (some b) (fun e=>by rw[hnr] at e;cases e)) ?_
 rintro e a' w' ⟨s',φ',⟨cs',hσ',hm⟩,hR'⟩
 have hφ:φ' id=some (b,0):=((hR'.toRs.kept.obj id _ _ hid hσ').1).trans hp
 obtain⟨b',o,us',q1,q2,⟨r'',rfl,p1,p2,p3,p4,p5,p6,p7⟩,q3⟩:=hR'.st.blk _ _ hσ'
 rw[hφ] at q1;cases q1
 have fin:∀(jump:Option Code) (st:LoopState),st=(if jump.isNone then .ready else .done)→AOps P σ0 sz ops Q rest ⟨putE env dst (.c (bool jump.isNone)),s'.σ.put id (some (y4 szc ps asg body st jump sh cs'))⟩→
   ∃v w'',(Instr.endRound b jump).run P w'=.ok v w''∧wpListIn (fw ro) 0 P ops (lift Γ sz Q) rest (a.put dst v) w'':=fun jump st hst hA=>by
  subst hst
  have hE:=Rs.writeB (q1:=loopP szc ps asg body (if jump.isNone then .ready else .done) jump sh) (cs1:=cs') (o1:=.loop {r'' with state:=if jump.isNone then .ready else .done,pending:=jump}) hR'.toRs hσ' hφ q2 ⟨_,rfl,rfl,rfl,p3,p4,p5,p6,p7⟩ q3
  refine⟨_,_,run_endRound jump q2,?_⟩
  exact hA Γ φ' _ _ hΓ ((hR.of hE.2.kept (hR.toRs.up hE.2)).put hd (.bool _)) ro
 cases e with
 |normal=>exact fin none .ready rfl hm
 |ret=>exact fin (some .ret) .done rfl hm
 |exit i=>exact fin (some (.exit i)) .done rfl hm
 |goto t=>exact hm.elim
 |panic c=>exact hm.elim
 |outgrown=>exact hm.elim
theorem ap1{id:Id}{env2:Env}{σ2 σ3:b6}(hσ:σ2[id]? =some (some (y4 szc ps asg body .busy none sh cs)))(h3:σ2.put id (some (y4 szc ps asg body .ready none sh cs))=σ3)
  (h:AOps P σ0 sz ops Q rest (St.mk (putE env dst (.c (bool true))) σ3)):yPost P σ0 sz Q ops rest env dst id szc ps asg body sh .normal (St.mk env2 σ2):=⟨cs,hσ,by subst h3;exact h⟩
def rPost(P:Program)(σ0:b6)(sz:Nat)(Q:Post)(env:Env)(n:Nat)(ps:List Nat)(asg body:Code)(sh:List (Nat×Option Nat))(σ':b6):Prop:=
 ∃st pend cs',st ≠ .busy∧σ'[((n,[]):Id)]? =some (some (y4 sz ps asg body st pend sh cs'))∧match pend with
 |none=>Q .normal ⟨env,σ'.put (n,[]) none⟩
 |some c=>AWP P σ0 sz c Q ⟨env,σ'.put (n,[]) none⟩
theorem ax4{n:Nat}{σ2 σ3:b6}(hσ:σ2[((n,[]):Id)]? =some (some (y4 sz ps asg body .ready none sh cs)))(h3:σ2.put (n,[]) none=σ3)(h:Q .normal (St.mk env σ3)):rPost P σ0 sz Q env n ps asg body sh σ2:=
 ⟨.ready,none,cs,nofun,hσ,by subst h3;exact h⟩
theorem AWP.rangeFunc{g:Operand}{f:FuncId}{caps:List C}{n:Nat}{Qit:T→b6→Prop}(sh:List (Nat×Option Nat))(hg:ev env g=some (.c (.fn f caps)))(hs:slotC sh env=some cs)(hn:newF σv=some (n,[]))(hσ:x4 σv (.one (y4 sz ps asg body .ready none sh cs))=some σ')
  (hf:FnOk P f (.c (.yld (n,[]))::caps.map T.c) σ' Qit) (hq:∀r σ'',Qit r σ''→rPost P σ0 sz Q env n ps asg body sh σ''):AWP P σ0 sz (.rangeFunc g ps.toArray asg body) Q (St.mk env σv):=fun Γ φ a w hΓ hR ro hro=>by
 have hro:=hro rfl
 subst hro
 have h2:=B3 hn;have h3:=u5 hσ
 cases h2
 subst h3
 obtain⟨fn,f1,f2,f3⟩:=hf.fn
 obtain⟨cv,g1,g2,g3⟩:=fn_inv (h9 hR hg)
 obtain⟨us,s1,_,s2⟩:=slot_mk sh hR.env hs
 refine wpIn_rangeFunc fun fid _=> ?_
 have hU:=Rs.allocU hR.toRs (.deferred (some []))
 have hA:=Rs.allocB (p0:=loopP sz ps asg body .ready none sh) (cs0:=cs) (us0:=us) (obj:=.loop {state:=.ready,pending:=none,fn:=fid,tmps:=a.tmps,params:=ps.toArray,assign:=asg,body,defers:=w.heap.size}) hU.2
  ⟨_,rfl,rfl,rfl,rfl,rfl,rfl,hR.asize,s1⟩ (fun i x hx=>let ⟨u,q1,q2⟩:=s2 i x hx; ⟨u,q1,q2.mono hU.1⟩)
 have hw:(w.alloc (.deferred (some []))).heap.size=w.heap.size+1:=by simp
 have hK:=Kept.trans (by simp) hU.1 hA.1
 generalize hW:(w.alloc (.deferred (some []))).alloc (.loop {state:=.ready,pending:=none,fn:=fid,tmps:=a.tmps,params:=ps.toArray,assign:=asg,body,defers:=w.heap.size})=W at hA hK
 refine⟨w.heap.size+1,[{target:=.collected w.heap.size,args:=#[]}],W,{target:=.fn (.func f) cv.toArray,args:=#[.func (.yield (w.heap.size+1)) #[] #[]]},W,f,(Value.func (.yield (w.heap.size+1)) #[] #[]::cv).toArray,W,?_,?_,fun _ _=>trivial,?_,fun h=>by simp at h,?_⟩
 ·rw[← hW];exact run_enterLoop_outer fid a.tmps ps.toArray asg body
 ·have e2:a.eval (.const (.func (.yield (w.heap.size+1)) #[] #[]))=.func (.yield (w.heap.size+1)) #[] #[]:=rfl
  simp[resolve,rangeCall,g1,e2,Deferred.ofValue]
 ·have f2':¬ fn.name= "runtime.NumGoroutine" :=by simpa using f2
  have f3':¬ fn.body=none:=fun e=>by rw[e] at f3;cases f3
  simp[invoke,callFunc,f1,f2',f3']
 refine(callsIn_wide (n:=0 - 1)).2 ?_
 refine(hf.run ⟨_,Γ.N,_,_⟩ (Value.func (.yield (w.heap.size+1)) #[] #[]::cv) rfl hA.2.down (by simp[g2]) (fun i t u hi hu=> ?_)).mono ?_
 ·match i with
  |0=>
   cases hi;cases hu
   exact .c (.yld (by simp) rfl fun p cs hp=>⟨_,0,by simp[o9,hw],rfl⟩)
  |i+1=>
   simp only[List.getElem?_cons_succ,lM,oM] at hi hu
   obtain⟨c,hc,rfl⟩:=hi
   exact .c ((g3 i c u hc hu).mono hK)
 ·rintro e w' ⟨v,r,σ2,φ',rfl,hQ,hr,hs'⟩
  obtain⟨st,pend,cs',hb,hσ2,hm⟩:=hq r σ2 hQ
  have hφ:φ' (σv.length,[])=some (w.heap.size+1,0):=by
   rw[(hs'.kept.obj (σv.length,[]) _ _ (by simp) hσ2).1];simp[o9,hw]
  obtain⟨b',o,us',q1,q2,⟨r',rfl,p1,p2,p3,p4,p5,p6,p7⟩,q3⟩:=hs'.st.blk _ _ hσ2
  rw[hφ] at q1;cases q1
  have hE:=Rs.writeB (q1:=fun _ _=>True) (cs1:=[]) (us1:=[]) (o1:=.loop {r' with state:=.exhausted}) hs' hσ2 hφ q2 trivial (fun i x hx=>by simp at hx)
  have hX:=Rs.kill hE.2 (σv.length,[])
  rw[b6.put2] at hX
  have hDK:=hK.trans (by rw[← hW];simp;omega) (hX.2.kept)
  have hmark:Marks Γ φ' (σ2.put (σv.length,[]) none) (w'.putObj (w.heap.size+1) (.loop {r' with state:=.exhausted})) ([{target:=.collected w.heap.size,args:=#[]}]++a.defers):=by
   have m0:Marks Γ φ σv (w.alloc (.deferred (some []))) ([{target:=.collected w.heap.size,args:=#[]}]++a.defers):=by
    have m1:=hR.defers.kept hU.1
    refine⟨List.nodup_cons.2 ⟨fun hin=> ?_,m1.1⟩,fun d hd=> ?_⟩
    ·obtain⟨D,e,q,_⟩:=hR.defers.2 _ hin
     have:D=w.heap.size:=by cases e;rfl
     rw[this] at q
     have:=(Array.getElem?_eq_some_iff.1 q).1
     omega
    ·rcases List.mem_cons.1 hd with rfl|hd
     ·refine⟨w.heap.size,rfl,heap_alloc_new w _,hR.size,fun hN=> ?_,fun i blk base hi hp=> ?_⟩
      ·have:=hR.good.lt _ hN
       have:=hR.size
       omega
      ·have:=Al.own_lt hR.st hi hp
       omega
     ·exact m1.2 d hd
   exact(m0.kept hA.1).kept hX.2.kept
  have hRf:R Γ sz ⟨env,σ2.put (σv.length,[]) none⟩ φ' {a with defers:=[{target:=.collected w.heap.size,args:=#[]}]++a.defers} (w'.putObj (w.heap.size+1) (.loop {r' with state:=.exhausted})):=
   {toRs:=hA.2.up hX.2,defers:=hmark,asize:=hR.asize,env:=fun t v ht=>let ⟨u,hu,hr⟩:=hR.env t v ht; ⟨u,hu,hr.mono hDK⟩}
  refine⟨r'.pending,_,run_endLoop q2 (by rw[p1];exact hb),?_⟩
  subst p2
  revert hm
  generalize r'.pending=pend at *
  intro hm
  cases pend with
  |none=>exact⟨_,φ',hm,hRf⟩
  |some c=>exact hm Γ φ' _ _ hΓ hRf none (fun _=>rfl)
theorem AWP.rangeB{g:Operand}{f:FuncId}{caps:List C}{n:Nat}(sh:List (Nat×Option Nat))(hg:ev env g=some (.c (.fn f caps)))(hs:slotC sh env=some cs)(hn:newF σv=some (n,[]))
  (h:∀A B:Code,A=asg→B=body→∃(σ':b6) (Qit:T→b6→Prop),x4 σv (.one (y4 sz ps A B .ready none sh cs))=some σ'∧FnOk P f (.c (.yld (n,[]))::caps.map T.c) σ' Qit∧∀r σ'',Qit r σ''→rPost P σ0 sz Q env n ps A B sh σ''):
  AWP P σ0 sz (.rangeFunc g ps.toArray asg body) Q (St.mk env σv):=by
 obtain⟨σ',Qit,h1,h2,h3⟩:=h asg body rfl rfl
 exact AWP.rangeFunc sh hg hs hn h1 h2 h3
theorem AOps.yieldB{A B:Code}{x:Operand}{as':List Operand}{ats:Array TypeId}{id:Id}{ts:List T}{E1:Env}{σ1:b6}(hA:A=asg)(hB:B=body)(hx:ev env x=some (.c (.yld id)))(ha:evs env as'=some ts)(hσ:σv[id]? =some (some (y4 szc ps A B .ready none sh cs)))
  (hl:Nat.beq ts.length ps.length=true) (hps:ps.all (fun p=>Nat.blt p szc)=true) (hna:M5 asg=false) (hnr:M5 body=false) (hd:f5 sz dst=true) (hσ1:σ1[id]? =some (some (y4 szc ps A B .ready none sh cs))) (hσb:σ1.put id (some (y4 szc ps A B .busy none sh cs))=σb)
  (hass:AWP P σv szc asg (fun e s'=>e=.normal∧s'=St.mk E1 σ1) ⟨zipE ps ts (slotE sh cs),σv⟩)
  (h:AWP P σv szc body (yPost P σ0 sz Q ops rest env dst id szc ps A B sh) ⟨E1,σb⟩):
  AOps P σ0 sz ops Q (⟨dst,.call ⟨.value x,as'.toArray,ats⟩,ty,pos,after,none⟩::rest) (St.mk env σv):=by
 subst hA hB
 exact AOps.yield hx ha hσ hl hps hna hnr hd hσ1 hσb hass h
end
end Ab
end
section
namespace Ab
open Go
def DatL:List C→List I→Prop
 |[],[]=>True
 |c::r,x::s=>(c=.imm x∨c=.imm (.val (.slice none 0 0))∧∃k,x=.sl k [])∧DatL r s
 |_,_=>False
def DatLL:List (List C)→List (List I)→Prop
 |[],[]=>True
 |c::r,x::s=>DatL c x∧DatLL r s
 |_,_=>False
theorem DatL.get:∀{l:List C} {m:List I},DatL l m→l.length=m.length∧∀(i:Nat) (x:I),m[i]? =some x→∃c,l[i]? =some c∧∀{w:World} {φ:Phi} {σ:b6} {A:Nat→Prop} {u:Value},RelC w φ σ A c u→RelI w A x u
 |[],[],_=>⟨rfl,fun i x h=>by simp at h⟩
 |[],_::_,h=>h.elim
 |_::_,[],h=>h.elim
 |c::r,x::s,⟨h1,h2⟩=>by
  obtain⟨g1,g2⟩:=DatL.get h2
  refine⟨by simp[g1],fun i y hy=> ?_⟩
  cases i with
  |zero=>
   simp only[List.getElem?_cons_zero,Option.some.injEq] at hy
   subst hy
   refine⟨c,rfl,fun {w φ σ A u} hr=> ?_⟩
   rcases h1 with rfl|⟨rfl,k,rfl⟩
   ·cases hr with|imm h=>exact h
   ·cases hr with|imm h=>cases h with|val=>exact .slNil
  |succ i=>simpa using g2 i y (by simpa using hy)
theorem DatLL.get:∀{l:List (List C)} {m:List (List I)},DatLL l m→l.length=m.length∧∀(i:Nat) (x:List I),m[i]? =some x→∃c,l[i]? =some c∧DatL c x
 |[],[],_=>⟨rfl,fun i x h=>by simp at h⟩
 |[],_::_,h=>h.elim
 |_::_,[],h=>h.elim
 |c::r,x::s,⟨h1,h2⟩=>by
  obtain⟨g1,g2⟩:=DatLL.get h2
  refine⟨by simp[g1],fun i y hy=> ?_⟩
  cases i with
  |zero=>simp only[List.getElem?_cons_zero,Option.some.injEq] at hy;subst hy;exact⟨c,rfl,h1⟩
  |succ i=>simpa using g2 i y (by simpa using hy)
section
variable {P:Program} {σ0:b6} {sz:Nat} {Q:Post} {env env':Env} {σv σ':b6} {ops:Array Oper} {rest:List Oper} {dst:Option Nat} {ty:TypeId} {pos:String} {after:Array Edge}
end
end Ab
end
section
namespace Ab
open Go
section
variable {P:Program} {σ0:b6} {sz:Nat} {Q:Post} {env:Env} {σv:b6} {ops:Array Oper} {rest:List Oper} {dst:Option Nat} {ty:TypeId} {pos:String} {after:Array Edge}
end
end Ab
end
section
namespace Ab
open Go
theorem Rs.adopt{Γ:Cx}{σ:b6}{φ:Phi}{w w':World}(h:Rs Γ σ φ w)(hos:w'.os=w.os)(ht:w'.tape=w.tape)(hdr:w.drawn≤w'.drawn)(ho:w'.output=w.output)(hs:w.heap.size≤w'.heap.size)(hold:∀b,b<w.heap.size→w'.heap[b]? =w.heap[b]?)
  {k:Nat} {es:List (List C)} {q:Option (Nat×Nat)} (hq:∀b base,q=some (b,base)→w.heap.size≤b) (hblk:∀φ σ A,BlkR w' φ σ A q (.cells k es)):
  Kept w w' φ (fun i=>if i=(σ.length,[]) then q else φ i) σ (σ++[.one (.cells k es)]) (Al Γ.N φ σ) (Al Γ.N (fun i=>if i=(σ.length,[]) then q else φ i) (σ++[.one (.cells k es)]))∧
  Rs Γ (σ++[.one (.cells k es)]) (fun i=>if i=(σ.length,[]) then q else φ i) w':=by
 generalize hφ:(fun i=>if i=(σ.length,[]) then q else φ i)=φ'
 have plo:∀i:Id,i.1<σ.length→φ' i=φ i:=fun i hi=>by
  have:i ≠ (σ.length,[]):=fun e=>by rw[e] at hi;exact Nat.lt_irrefl _ hi
  rw[← hφ];simp[this]
 have pnew:φ' (σ.length,[])=q:=by rw[← hφ];simp
 have cases2:∀(i:Id) blk,(σ++[.one (.cells k es)])[i]? =some (some blk)→(i.1<σ.length∧σ[i]? =some (some blk))∨(i=(σ.length,[])∧blk=.cells k es):=fun i blk hi=>b6.get_new hi
 have A1:∀b,Al Γ.N φ σ b→b<w.heap.size→Al Γ.N φ' (σ++[.one (.cells k es)]) b:=fun b hb hl=>⟨hb.1,fun i blk base hi hp=>by
  rcases cases2 i blk hi with⟨h1,h2⟩|⟨rfl,rfl⟩
  ·rw[plo i h1] at hp;exact hb.2 i blk base h2 hp
  ·rw[pnew] at hp;have:=hq b base hp;omega⟩
 have hK:Kept w w' φ φ' σ (σ++[.one (.cells k es)]) (Al Γ.N φ σ) (Al Γ.N φ' (σ++[.one (.cells k es)])):=
  {imm:=fun b _ hl=>hold b hl,all:=A1,len:=by simp,
   cells:=fun i kk es' hi he=>by
    rw[b6.get_left hi] at he
    exact⟨es',he,rfl,plo i hi,fun b base arr ety hp hb=>⟨arr,(hold b (Al.own_lt h.st he hp)).trans hb,rfl⟩⟩,
   obj:=fun i p' cs' hi he=>by
    rw[b6.get_left hi] at he
    exact⟨plo i hi,p',cs',he⟩}
 refine⟨hK,?_⟩
 exact {
  good:=h.good
  st:=⟨fun i b hi=>by
    rcases cases2 i b hi with⟨h1,h2⟩|⟨rfl,rfl⟩
    ·rw[plo i h1]
     exact(h.st.blk i b h2).mono hK fun g base hp=>hold g (Al.own_lt h.st h2 hp)
    ·rw[pnew]
     exact hblk _ _ _,
   fun i j bi bj p1 q1 hi hj hp hq1 he=>by
    obtain⟨pb,po⟩:=p1
    obtain⟨qb,qo⟩:=q1
    dsimp only at he
    subst he
    rcases cases2 i bi hi with⟨h1,h2⟩|⟨rfl,rfl⟩<;>rcases cases2 j bj hj with⟨g1,g2⟩|⟨rfl,rfl⟩
    ·rw[plo i h1] at hp;rw[plo j g1] at hq1
     exact h.st.inj i j bi bj _ _ h2 g2 hp hq1 rfl
    ·rw[plo i h1] at hp;rw[pnew] at hq1
     have:=Al.own_lt h.st h2 hp;have:=hq _ _ hq1;omega
    ·rw[plo j g1] at hq1;rw[pnew] at hp
     have:=Al.own_lt h.st g2 hq1;have:=hq _ _ hp;omega
    ·rfl⟩
  keep:=fun i blk b base hi hp hKb=>by
   rcases cases2 i blk hi with⟨h1,h2⟩|⟨rfl,rfl⟩
   ·rw[plo i h1] at hp;exact h.keep i blk b base h2 hp hKb
   ·rw[pnew] at hp
    have:=hq _ _ hp
    have:=hKb.1;have:=h.size;omega
  os:=hos.trans h.os
  tape:=ht.trans h.tape
  drawn:=Nat.le_trans h.drawn hdr
  output:=ho.trans h.output
  size:=Nat.le_trans h.size hs
  block:=fun b hKb=>(hold b (Nat.lt_of_lt_of_le hKb.1 h.size)).trans (h.block b hKb)
  kept:=Kept.trans h.size h.kept hK}
section
variable {P:Program} {σ0:b6} {sz:Nat} {Q:Post} {env:Env} {σv σ':b6} {ops:Array Oper} {rest:List Oper} {dst:Option Nat} {ty:TypeId} {pos:String} {after:Array Edge}
theorem S.freshL{α:Type}{g:α→List I}{l:List α}{x:Operand}{as':List Operand}{ats:Array TypeId}{f:FuncId}{caps:List C}{ts ts':List T}{k:Nat}{n:Id}(hg:∀a,((g a).map C.imm).all C.scal=true)(hx:ev env x=some (.c (.fn f caps)))(ha:evs env as'=some ts)(hl:ah9 σv (ts++caps.map T.c) ts')(hd:f5 sz dst=true)
  (hf:r8 P f ts' k (l.map g)) (hn:newF σv=some n) (hσ:x4 σv (.one (vec k g l))=some σ') (h:AOps P σ0 sz ops Q rest (St.mk (putE env dst (.c (.own n 0 l.length))) σ')):
  AOps P σ0 sz ops Q (⟨dst,.call ⟨.value x,as'.toArray,ats⟩,ty,pos,after,none⟩::rest) (St.mk env σv):=by
 have h1:=B3 hn;have h2:=u5 hσ
 subst h1 h2
 intro Γ φ a w hΓ hR ro
 obtain⟨vs,h1,h2,h3⟩:=am8 (P:=P) (dst:=dst) (ty:=ty) (pos:=pos) (after:=after) (ats:=ats) hR hx ha hf.fn
 obtain⟨l1,l2⟩:=hl.get
 refine U7 rfl (an9 h1 ?_)
 refine(hf.run (Cx.open w) vs rfl (good_open w) (by rw[l1];exact h2) (fun i t u hi hu=> ?_)).mono ?_
 ·obtain⟨t0,ht0,hlend⟩:=l2 i t hi
  exact hlend.rel hR (al_open w) (h3 i t0 u ht0 hu)
 ·rintro e w' ⟨v,r',σ2,φ',rfl,⟨id',rfl,hid⟩,hrel,hs⟩
  have hview:=D8 hrel hid
  have hb:=hs.st.blk _ _ hid
  have hnew:∀b base,φ' id'=some (b,base)→w.heap.size≤b:=fun b base hp=>by
   have:=hs.keep id' _ b base hid hp
   rcases Nat.lt_or_ge b w.heap.size with c|c
   ·exact absurd ⟨c,fun i blk base hi=>by simp[Cx.open] at hi⟩ this
   ·exact c
  have scal:∀(j:Nat) (e:List C) (o:Nat) (y:C),((l.map g).map (·.map C.imm))[j]? =some e→e[o]? =some y→y.scal=true:=fun j e o y he hy=>by
   simp only[List.map_map,lM,oM,Function.comp_apply] at he
   obtain⟨z,_,rfl⟩:=he
   have:=List.all_eq_true.1 (hg z)
   exact this y (List.mem_of_getElem? hy)
  obtain⟨hK1,hR1⟩:=hR.toRs.adopt (w':=w') hs.os hs.tape hs.drawn hs.output hs.size (fun b hb=>hs.block b ⟨hb,fun i blk base hi=>by simp[Cx.open] at hi⟩) (k:=k) (es:=(l.map g).map (·.map C.imm)) (q:=φ' id') hnew (fun φ σ A=>by
   rcases hb with h|⟨b,base,arr,ety,p1,p2,p3,p4,p5⟩
   ·exact .inl h
   ·refine .inr ⟨b,base,arr,ety,p1,p2,p3,p4,fun j e o y he hy=> ?_⟩
    obtain⟨u,hu,hr⟩:=p5 j e o y he hy
    exact⟨u,hu,C.scal_rel (scal j e o y he hy) hr⟩)
  have hlen:(l.map g).length=l.length:=List.length_map ..
  refine h Γ _ _ w' hΓ ((hR.of hK1 hR1).put hd ?_) ro
  refine I1 (k:=k) (es:=(l.map g).map (·.map C.imm)) (b6.get_last _ _) (by cases hrel with|c hr=>exact hr.one) ?_
  rw[hlen] at hview
  simpa using hview
end
end Ab
end
section
namespace Ab
open Go
def mvr(r n:Nat)(i:Id):Id:=((match Nat.beq i.1 r with|true=>n|false=>i.1),i.2)
theorem au6{r n:Nat}{i:Id}(h:i.1=r):mvr r n i=(n,i.2):=by
 have:Nat.beq i.1 r=true:=by rw[h];exact Nat.beq_refl r
 simp only[mvr,this]
theorem mvr_ne{r n:Nat}{i:Id}(h:i.1 ≠ r):mvr r n i=i:=by
 have:Nat.beq i.1 r=false:=T4 h
 simp only[mvr,this]
section
variable {P:Program} {σ0:b6} {sz:Nat} {Q:Post} {env env':Env} {σv σ':b6} {ops:Array Oper} {rest:List Oper} {dst:Option Nat} {ty:TypeId} {pos:String} {after:Array Edge}
inductive EntR(r n:Nat)(σ:b6)(m i:Nat):Ent→Prop
 |dead:EntR r n σ m i .dead
 |one {b:Blk} (h1:b.ok m=true) (h2:σ[mvr r n (i,[])]? =some (some (b.ren (mvr r n)))):EntR r n σ m i (.one b)
 |vec {α:Type} {k:Nat} {f:α→List I} {l:List α} (h2:σ[mvr r n (i,[])]? =some (some (vec k f l))):EntR r n σ m i (.one (vec k f l))
 |mat {α:Type} {k j:Nat} {f:α→List I} {M:List (List α)} (hj:(mvr r n (i,[])).1=j) (hi:Nat.blt i m=true) (h:σ[j]? =some (mat (j,[]) k f M)):EntR r n σ m i (mat (i,[]) k f M)
 |any {e:Ent} (h:∀p b,e.sub p=some b→b.ok m=true∧σ[mvr r n (i,p)]? =some (some (b.ren (mvr r n)))):EntR r n σ m i e
def StR_(r n:Nat)(σ:b6)(m:Nat):Nat→b6→Prop
 |_,[]=>True
 |i,e::l=>EntR r n σ m i e∧StR_ r n σ m (i+1) l
theorem EntR.get{r n:Nat}{σ:b6}{m i:Nat}{e:Ent}(h:EntR r n σ m i e){p:List Nat}{b:Blk}(hb:e.sub p=some b):b.ok m=true∧σ[mvr r n (i,p)]? =some (some (b.ren (mvr r n))):=by
 cases h with
 |dead=>cases p<;>cases hb
 |one h1 h2=>cases p with
  |nil=>cases hb;exact⟨h1,h2⟩
  |cons=>cases hb
 |vec h2=>cases p with
  |nil=>cases hb;exact⟨N6,by rw[Blk.im_ren];exact h2⟩
  |cons=>cases hb
 |@mat α k j f M hj hi h=>
  have hi':i<m:=by simpa using hi
  have e:∀q,mvr r n (i,q)=(j,q):=fun q=>by rw[← hj];rfl
  rw[e,x6 h]
  cases p with
  |nil=>
   cases hb
   refine⟨hdr_ok hi' _,?_⟩
   rw[mat_main]
   congr 2
   simp only[Blk.ren]
   congr 1
   apply List.ext_getElem?
   intro q
   rw[lM]
   simp only[hdr,List.getElem?_mapIdx,Option.map_map]
   cases M[q]? with
   |none=>rfl
   |some row=>simp[C.renL,C.ren,e]
  |cons a q=>
   rw[mat_row] at hb ⊢
   split at hb
   ·rename_i row hrow
    cases q with
    |cons b q=>cases hb
    |nil=>cases hb;exact⟨N6,by rw[Blk.im_ren]⟩
   ·cases hb
 |any h=>exact h p b hb
theorem StR_.get{r n m:Nat}{σ:b6}:∀{i:Nat} {σ':b6},StR_ r n σ m i σ'→∀(j:Nat) (p:List Nat) (b:Blk),σ'[((j,p):Id)]? =some (some b)→b.ok m=true∧σ[mvr r n (i+j,p)]? =some (some (b.ren (mvr r n)))
 |_,[],_,j,p,b,h=>by simp at h
 |i,e::l,h,0,p,b,hb=>by
  rw[b6.at_eq] at hb
  simp only[b6.at,List.getElem?_cons_zero,Option.some.injEq] at hb
  exact h.1.get hb
 |i,e::l,h,j+1,p,b,hb=>by
  have:=StR_.get (i:=i+1) h.2 j p b (by
   rw[b6.at_eq] at hb ⊢
   simpa[b6.at] using hb)
  rwa [show i+1+j=i+(j+1) by omega] at this
def EnvR(r n:Nat)(env:Env):Env→Prop
 |[]=>True
 |(t,v)::l=>lookup t env=some (v.ren (mvr r n))∧EnvR r n env l
theorem EnvR.get{r n:Nat}:∀{env':Env},EnvR r n env env'→∀t v,lookup t env'=some v→lookup t env=some (v.ren (mvr r n))
 |[],_,t,v,h=>by simp[lookup] at h
 |(k,x)::l,⟨h1,h2⟩,t,v,h=>by
  simp only[lookup] at h
  split at h
  ·rename_i he;cases h;rw[← Nat.eq_of_beq_eq_true he];exact h1
  ·exact EnvR.get h2 t v h
def deadR(σ:b6)(n:Nat):Bool:=match σ[n]? with
 |some .dead=>true
 |some _=>false
 |none=>true
theorem Sub.moveM(r n:Nat)(h0:Nat.ble σ0.length r=true)(hl:Nat.ble σ0.length σ'.length=true)(hn:deadR σ' n=true)(henv:EnvR r n env env')(he:envOk σ'.length env'=true)(hst:StR_ r n σv σ'.length 0 σ'):Sub σ0 ⟨env,σv⟩ ⟨env',σ'⟩:=by
 have h0':=Nat.le_of_ble_eq_true h0
 have hd:∀(p:List Nat) b,σ'[((n,p):Id)]? ≠ some (some b):=fun p b hb=>by
  rw[b6.at_eq] at hb
  simp only[b6.at] at hb
  simp only[deadR] at hn
  split at hb
  ·rename_i e hx
   rw[hx] at hn
   cases e with
   |dead=>cases p<;>cases hb
   |one=>cases hn
   |node=>cases hn
  ·cases hb
 refine Sub.mk (mvr r n) (fun i hi=>mvr_ne (fun e=>by omega)) (Nat.le_of_ble_eq_true hl) (fun i j b b' hi hj h=> ?_) (fun i b hi=> ?_) (fun t v ht=>⟨ar4 he t v ht,henv.get t v ht⟩)
 ·by_cases h1:i.1=r<;>by_cases h2:j.1=r
  ·rw[au6 h1,au6 h2] at h
   exact Prod.ext (h1.trans h2.symm) (Prod.mk.inj h).2
  ·rw[au6 h1,mvr_ne h2] at h
   subst h;exact absurd hj (hd _ _)
  ·rw[au6 h2,mvr_ne h1] at h
   subst h;exact absurd hi (hd _ _)
  ·rwa [mvr_ne h1,mvr_ne h2] at h
 ·have:=hst.get i.1 i.2 b hi
  rwa [Nat.zero_add] at this
theorem AWP.moveM{c:Code}(r n:Nat)(h0:Nat.ble σ0.length r=true)(hl:Nat.ble σ0.length σ'.length=true)(hn:deadR σ' n=true)(henv:EnvR r n env env')(he:envOk σ'.length env'=true)(hst:StR_ r n σv σ'.length 0 σ')(h:AWP P σ0 sz c Q (St.mk env' σ')):AWP P σ0 sz c Q (St.mk env σv):=
 AWP.sub (Sub.moveM r n h0 hl hn henv he hst) h
/-! ### A row of nothing appended to rows -/
end
end Ab
end
section
namespace Ab
open Go
section
variable {P:Program} {σ0:b6} {sz:Nat} {Q:Post} {env env':Env} {σv σ':b6}
end
end Ab
end
section
namespace Ab
open Go
section
variable {P:Program} {σ0:b6} {sz:Nat} {Q:Post} {env env':Env} {σv σ':b6} {ops:Array Oper} {rest:List Oper} {dst:Option Nat} {ty:TypeId} {pos:String} {after:Array Edge}
def isIfaceD:TypeDesc→Bool
 | .interface _=>true
 |_=>false
theorem ifc1_inv{w:World}{φ:Phi}{σ:b6}{A:Nat→Prop}{t:TypeId}{c:C}{u:Value}(h:RelT w φ σ A (.c (.ifc t [c] false)) u):∃v,u=.iface t v∧RelC w φ σ A c v:=by
 cases h with|c h=>cases h with|ifc1 h=>exact⟨_,rfl,h⟩
theorem S.mkIfc{x:Operand}{t:TypeId}{d:TypeDesc}{c:C}[ht:TyD P t d](hi:isIfaceD d=false)(hx:ev env x=some (.c c))(hd:f5 sz dst=true)
  (h:AOps P σ0 sz ops Q rest (St.mk (putE env dst (.c (.ifc t [c] false))) σv)):AOps P σ0 sz ops Q (⟨dst,.makeInterface t x,ty,pos,after,none⟩::rest) (St.mk env σv):=
 .value rfl hd _ (fun Γ φ a w hR=>by
  have hr:=h9 hR hx
  generalize hu:a.eval x=u at hr
  cases hr with|c hr=>
   refine⟨.iface t u,?_,.c (.ifc1 hr)⟩
   cases d<;>first|(cases hi;done)|simp[execOp,Instr.makeInterface,run_underlying ht.h,hu]) h
theorem S.assert{x:Operand}{xt t:TypeId}{d:TypeDesc}{c:C}[ht:TyD P t d](hi:isIfaceD d=false)(hx:ev env x=some (.c (.ifc t [c] false)))(hd:f5 sz dst=true)
  (h:AOps P σ0 sz ops Q rest (St.mk (putE env dst (.c c)) σv)):AOps P σ0 sz ops Q (⟨dst,.typeAssert x xt t false,ty,pos,after,none⟩::rest) (St.mk env σv):=
 .value rfl hd _ (fun Γ φ a w hR=>by
  obtain⟨v,hv,hr⟩:=ifc1_inv (h9 hR hx)
  refine⟨v,?_,.c hr⟩
  cases d<;>first|(cases hi;done)|simp[execOp,Instr.typeAssert,run_underlying ht.h,hv]) h
/-! ### Calls through an interface -/
theorem AOps.enterS{o:Oper}{f:FuncId}{ts:List T}{Qc:T→b6→Prop}(hg:o.guard=none)(hd:f5 sz o.dst=true)(hf:FnOk P f ts σv Qc)
  (he:∀Γ φ a w,R Γ sz (St.mk env σv) φ a w→∃vs:List Value,(execOp a.eval o).run P w=.ok (.enter f vs.toArray) w∧ts.length=vs.length∧∀(i:Nat) (t:T) (u:Value),ts[i]? =some t→vs[i]? =some u→RelT w φ σv (Al Γ.N φ σv) t u)
  (h:∀r σ',Qc r σ'→AOps P σ0 sz ops Q rest ((St.mk env σ').put o.dst r)):AOps P σ0 sz ops Q (o::rest) (St.mk env σv):=fun Γ φ a w hΓ hR ro=>by
 obtain⟨vs,h1,h2,h3⟩:=he Γ φ a w hR
 refine U7 hg (an9 h1 ?_)
 refine(hf.run ⟨w,Γ.N,φ,σv⟩ vs rfl hR.toRs.down h2 h3).mono ?_
 rintro e w' ⟨v,r,σ',φ',rfl,hq,hr,hs⟩
 exact h r σ' hq Γ φ' _ w' hΓ ((hR.of hs.kept (hR.toRs.up hs)).put hd hr) ro
class MethF (P:Program) (t:TypeId) (name:String) (f:outParam FuncId) (b:outParam Bool):Prop where
 h:((P.info? t).bind fun i=>(i.methods.find? (·.name==name)).map fun m=>(m.path.toList,m.func))=some ([],some (f,b))
theorem MethF.get{t:TypeId}{name:String}{f:FuncId}{b:Bool}[h:MethF P t name f b]:∃i m,P.info? t=some i∧i.methods.find? (·.name==name)=some m∧m.path=#[]∧m.func=some (f,b):=by
 obtain⟨i,h1,h2⟩:=Option.bind_eq_some_iff.1 h.h
 obtain⟨m,h3,h4⟩:=oM.1 h2
 simp only[Prod.mk.injEq] at h4
 exact⟨i,m,h1,h3,by simpa using h4.1,h4.2⟩
theorem run_recvP{t e:TypeId}{v:Value}{wr:Option String}{w:World}[hd:TyD P t (.pointer e)]:(receiverAt t (.val v) true wr).run P w=.ok v w:=by
 unfold receiverAt
 rw[Sem.run_bind,run_underlying hd.h]
 rfl
theorem run_recvV{t e:TypeId}{de:TypeDesc}{a:Addr}{u:Value}{wr:String}{w:World}[hd:TyD P t (.pointer e)][he:TyD P e de](ha:F6 de=false)(hu:w.cell? a=some u):(receiverAt t (.val (.pointer (some a))) false (some wr)).run P w=.ok u w:=by
 unfold receiverAt
 rw[Sem.run_bind,run_underlying hd.h]
 show(loadVar e a).run P w=_
 exact ah7 ha hu
theorem run_method{t:TypeId}{name:String}{f:FuncId}{b:Bool}{v u:Value}{w:World}[hm:MethF P t name f b](hr:∀wr:String,(receiverAt t (.val v) b (some wr)).run P w=.ok u w):(method (P.types.size+Made.depth) t v name).run P w=.ok (f,u) w:=by
 obtain⟨i,m,h1,h2,h3,h4⟩:=hm.get
 rw[show P.types.size+Made.depth=(P.types.size+99)+1 from rfl]
 have hi:(typeInfo t).run P w=.ok i w:=by simp[typeInfo,h1]
 unfold method
 rw[Sem.run_bind,hi]
 simp only[Result.andThen_ok,h2,h3,h4,follow]
 simp only[Sem.run_bind,Sem.run_pure,Result.andThen_ok,Array.isEmpty_empty,if_true]
 rw[hr]
 rfl
theorem fn_body{f : FuncId}(hfn : ∃ fn, P.funcs[f]? = some fn ∧ (fn.name == "runtime.NumGoroutine")=false∧fn.body.isNone=false)(vs:Array Value)(w:World):(callFunc f vs).run P w=.ok (.enter f vs) w:=by
 obtain⟨fn,h1,h2,h3⟩:=hfn
 have h2':¬ fn.name= "runtime.NumGoroutine" :=by simpa using h2
 have h3':¬ fn.body=none:=fun e=>by rw[e] at h3;cases h3
 simp[callFunc,h1,h2',h3']
theorem invoke_args{Γ:Cx}{φ:Phi}{a:Act}{w:World}(hR:R Γ sz (St.mk env σv) φ a w){as':List Operand}{ts:List T}(ha:evs env as'=some ts){c:C}{v:Value}(hc:RelC w φ σv (Al Γ.N φ σv) c v):
  (T.c c::ts).length=(v::as'.map a.eval).length∧∀(i:Nat) (t:T) (u:Value),(T.c c::ts)[i]? =some t→(v::as'.map a.eval)[i]? =some u→RelT w φ σv (Al Γ.N φ σv) t u:=by
 obtain⟨k1,k2⟩:=evs_rel hR ha
 refine⟨by simp[k1],fun i t u hi hu=> ?_⟩
 cases i with
 |zero=>simp only[List.getElem?_cons_zero,Option.some.injEq] at hi hu;subst hi hu;exact .c hc
 |succ i=>exact k2 i t u (by simpa using hi) (by simpa using hu)
theorem S.invokeP{x:Operand}{as':List Operand}{ats:Array TypeId}{name:String}{t e:TypeId}{c:C}{f:FuncId}{ts:List T}{r2:T}{σ'':b6}[hd:TyD P t (.pointer e)][hm:MethF P t name f true](hx:ev env x=some (.c (.ifc t [c] false)))(ha:evs env as'=some ts)(hdst:f5 sz dst=true)
  (hf:FnOk P f (.c c::ts) σv fun r s=>r=r2∧s=σ'') (h:AOps P σ0 sz ops Q rest (St.mk (putE env dst r2) σ'')):
  AOps P σ0 sz ops Q (⟨dst,.call ⟨.invoke x name,as'.toArray,ats⟩,ty,pos,after,none⟩::rest) (St.mk env σv):=by
 refine AOps.enterS rfl hdst hf (fun Γ φ a w hR=> ?_) (fun r s ⟨h1,h2⟩=>by subst h1 h2;exact h)
 obtain⟨v,hv,hr⟩:=ifc1_inv (h9 hR hx)
 refine⟨v::as'.map a.eval,?_,invoke_args hR ha hr⟩
 have:=fn_body hf.fn (v::as'.map a.eval).toArray w
 simp[execOp,resolve,invoke,callMethod,hv,run_method (P:=P) (t:=t) (name:=name) (fun wr=>run_recvP (e:=e))]
 simpa[List.take_of_length_le] using this
theorem S.invokeV{x:Operand}{as':List Operand}{ats:Array TypeId}{name:String}{t e:TypeId}{de:TypeDesc}{id:Id}{j o k:Nat}{es:List (List C)}{el:List C}{c:C}{f:FuncId}{ts:List T}{r2:T}{σ'':b6}[hd:TyD P t (.pointer e)][he:TyD P e de][hm:MethF P t name f false](hagg:F6 de=false)
  (hx:ev env x=some (.c (.ifc t [.ptr id j o] false))) (hσ:σv[id]? =some (some (.cells k es))) (hel:es[j]? =some el) (hc:el[o]? =some c) (ha:evs env as'=some ts) (hdst:f5 sz dst=true)
  (hf:FnOk P f (.c c::ts) σv fun r s=>r=r2∧s=σ'') (h:AOps P σ0 sz ops Q rest (St.mk (putE env dst r2) σ'')):
  AOps P σ0 sz ops Q (⟨dst,.call ⟨.invoke x name,as'.toArray,ats⟩,ty,pos,after,none⟩::rest) (St.mk env σv):=by
 refine AOps.enterS rfl hdst hf (fun Γ φ a w hR=> ?_) (fun r s ⟨h1,h2⟩=>by subst h1 h2;exact h)
 obtain⟨v,hv,hr⟩:=ifc1_inv (h9 hR hx)
 obtain⟨hid,b,base,hp,hv2⟩:=af8 (.c hr) hσ
 obtain⟨arr,ety,hb,_,_,hcs⟩:=G1 hR hσ hp
 obtain⟨u,hu,hru⟩:=hcs j el o c hel hc
 refine⟨u::as'.map a.eval,?_,invoke_args hR ha hru⟩
 have:=fn_body hf.fn (u::as'.map a.eval).toArray w
 simp[execOp,resolve,invoke,callMethod,hv,hv2,run_method (P:=P) (t:=t) (name:=name) (fun wr=>run_recvV (e:=e) hagg ((P1 hb).trans hu))]
 simpa[List.take_of_length_le] using this
/-! ### Maps: how many keys -/
theorem S.lenMap{K V:Type}{fk:K→Value}{fv:V→Value}{x:Operand}{t kt vt:TypeId}{id:Id}{m:List (K×V)}[ht:TyD P t (.map kt vt)](hx:ev env x=some (.c (.map id)))(hσ:σv[id]? =some (some (mapB fk fv m)))(hd:f5 sz dst=true)
  (h:AOps P σ0 sz ops Q rest (St.mk (putE env dst (.c (int (m.length:Int)))) σv)):AOps P σ0 sz ops Q (⟨dst,.call ⟨.builtin .len,#[x],#[t]⟩,ty,pos,after,none⟩::rest) (St.mk env σv):=
 .value rfl hd _ (fun Γ φ a w hR=>by
  obtain⟨b,base,hp,hv⟩:=aj4 (h9 hR hx) hσ
  obtain⟨b',o,_,g1,g2,⟨es,c,rfl,g3⟩,_⟩:=hR.st.blk _ _ hσ
  rw[hp] at g1;cases g1
  have hl:es.size=m.length:=by
   have:=congrArg List.length g3
   simpa using this
  exact⟨.int .i64 m.length,by simp[execOp,hv,resolve,invoke,builtin,Builtin.len_,run_underlying ht.h,Go.MapKept.run_getObj_map g2,goInt,hl,Result.andThen],.int _⟩) h
/-! ### Maps whose values are nothing (sets) -/
def noV:Unit→Value:=fun _=>.agg #[]
theorem W.lookupOkU{K:Type}[DecidableEq K]{fk:K→Value}{d:TypeDesc}{x y:Operand}{t kt vt:TypeId}{id:Id}{m:List (K×Unit)}{k:K}{size bytes:Nat}{zv:Value}[ht:TyD P t (.map kt vt)][hkt:TyD P kt d][hs:TyS P vt size bytes zv](hk:KeyT d fk)(hz:zv=.agg #[])
  (hx:ev env x=some (.c (.map id))) (hy:ev env y=some (.c (.imm (.val (fk k))))) (hσ:σv[id]? =some (some (mapB fk noV m))) (hd:f5 sz dst=true)
  (h:AOps P σ0 sz ops Q rest (St.mk (putE env dst (.tup [.agg [],.c (bool (mget m k).isSome)])) σv)):AOps P σ0 sz ops Q (⟨dst,.lookup t x y true,ty,pos,after,none⟩::rest) (St.mk env σv):=by
 refine .valueW rfl hd _ _ (fun Γ φ a w hR=> ?_) h
 obtain⟨b,base,hp,hv⟩:=aj4 (h9 hR hx) hσ
 obtain⟨hv2,_⟩:=H4 (h9 hR hy)
 obtain⟨b',o,_,g1,g2,⟨es,c,rfl,g3⟩,_⟩:=hR.st.blk _ _ hσ
 rw[hp] at g1;cases g1
 refine⟨.tuple #[.agg #[],.bool (mget m k).isSome],w,φ,?_,RelT.tup' (vs:=[.agg #[],.bool (mget m k).isSome]) rfl (fun i t u hi hu=> ?_),hR⟩
 ·rcases ae4 hk k m es.toList 0 g3 with⟨q1,q2,_⟩|⟨v,j,e,q1,q2,_⟩
  ·simp[execOp,hv,hv2,Instr.lookup,run_underlying ht.h,Go.MapKept.run_getObj_map g2,Go.MapKept.run_checkKey hkt.h (hk.key k),Go.MapKept.run_findKey hkt.h q2,M4 (t:=vt),q1,hz,Result.andThen]
  ·simp[execOp,hv,hv2,Instr.lookup,run_underlying ht.h,Go.MapKept.run_getObj_map g2,Go.MapKept.run_checkKey hkt.h (hk.key k),Go.MapKept.run_findKey hkt.h q2,q1,noV,Result.andThen]
 ·match i with
  |0=>cases hi;cases hu;exact RelT.agg' (vs:=[]) rfl (fun i c v hc=>by simp at hc)
  |1=>cases hi;cases hu;exact .bool _
  |i+2=>simp at hi
theorem agg0_inv{w:World}{φ:Phi}{σ:b6}{A:Nat→Prop}{u:Value}(h:RelT w φ σ A (.agg []) u):u=.agg #[]:=by
 cases h with|agg us hr=>simp
theorem W.mapUpdateU{K:Type}[DecidableEq K]{fk:K→Value}{d:TypeDesc}{x y v:Operand}{t kt vt:TypeId}{id:Id}{m:List (K×Unit)}{k:K}[ht:TyD P t (.map kt vt)][hkt:TyD P kt d](hk:KeyT d fk)
  (hx:ev env x=some (.c (.map id))) (hy:ev env y=some (.c (.imm (.val (fk k))))) (hv:ev env v=some (.agg [])) (hσ:σv[id]? =some (some (mapB fk noV m))) (hσ':σv.put id (some (mapB fk noV (mset m k ())))=σ')
  (h:AOps P σ0 sz ops Q rest (St.mk env σ')):AOps P σ0 sz ops Q (⟨none,.mapUpdate t x y v,ty,pos,after,none⟩::rest) (St.mk env σv):=by
 subst hσ'
 refine .skipW rfl rfl _ (fun Γ φ ac w hR=> ?_) h
 obtain⟨b,base,hp,e1⟩:=aj4 (h9 hR hx) hσ
 obtain⟨e2,_⟩:=H4 (h9 hR hy)
 have e3:=agg0_inv (h9 hR hv)
 obtain⟨b',o,_,g1,g2,⟨es,c,rfl,g3⟩,_⟩:=hR.st.blk _ _ hσ
 rw[hp] at g1;cases g1
 rcases ae4 hk k m es.toList 0 g3 with⟨q1,q2,q3⟩|⟨v0,j,e,q1,q2,q3,q4,q5⟩
 ·have hW:=Rs.writeO (q1:=mapP fk noV (mset m k ())) (o1:=.map (es.push {key:=fk k,val:=.agg #[],born:=c}) (c+1)) hR.toRs hσ hp g2 ⟨_,_,rfl,by rw[Array.toList_push];exact q3 () c⟩
  refine⟨_,φ,?_,hR.of hW.1 hW.2⟩
  simp[execOp,e1,e2,e3,Instr.mapUpdate,run_underlying ht.h,Go.MapKept.run_getObj_map g2,Go.MapKept.run_checkKey hkt.h (hk.key k),Go.MapKept.run_findKey hkt.h q2,Go.MapKept.run_setObj_map _ g2,Result.andThen]
 ·have hj:es[j]? =some e:=by simpa using q3
  have hW:=Rs.writeO (q1:=mapP fk noV (mset m k ())) (o1:=.map (es.modify j fun e=>{e with key:=fk k,val:=.agg #[]}) c) hR.toRs hσ hp g2 ⟨_,_,rfl,by rw[Array.toList_modify];exact q5 ()⟩
  refine⟨_,φ,?_,hR.of hW.1 hW.2⟩
  simp[execOp,e1,e2,e3,Instr.mapUpdate,run_underlying ht.h,Go.MapKept.run_getObj_map g2,Go.MapKept.run_checkKey hkt.h (hk.key k),Go.MapKept.run_findKey hkt.h q2,hj,q4,Go.MapKept.run_keyThatStays (hk.key k),Go.MapKept.run_setObj_map _ g2,Result.andThen]
theorem W.insertU{K:Type}[DecidableEq K]{fk:K→Value}{d:TypeDesc}{x y v:Operand}{t kt vt:TypeId}{id:Id}{m:List (K×Unit)}{k:K}[ht:TyD P t (.map kt vt)][hkt:TyD P kt d](hk:KeyT d fk)
  (hx:ev env x=some (.c (.map id))) (hy:ev env y=some (.c (.imm (.val (fk k))))) (hv:ev env v=some (.agg [])) (hσ:σv[id]? =some (some (mapB fk noV m))) (hσ':σv.put id (some (mapB fk noV (mset m k ())))=σ')
  (h:AOps P σ0 sz ops Q rest (St.mk env σ')):AOps P σ0 sz ops Q (⟨none,.insert t x y v,ty,pos,after,none⟩::rest) (St.mk env σv):=by
 subst hσ'
 refine .skipW rfl rfl _ (fun Γ φ ac w hR=> ?_) h
 obtain⟨b,base,hp,e1⟩:=aj4 (h9 hR hx) hσ
 obtain⟨e2,_⟩:=H4 (h9 hR hy)
 have e3:=agg0_inv (h9 hR hv)
 obtain⟨b',o,_,g1,g2,⟨es,c,rfl,g3⟩,_⟩:=hR.st.blk _ _ hσ
 rw[hp] at g1;cases g1
 rcases ae4 hk k m es.toList 0 g3 with⟨q1,q2,q3⟩|⟨v0,j,e,q1,q2,q3,q4,q5⟩
 ·have hW:=Rs.writeO (q1:=mapP fk noV (mset m k ())) (o1:=.map (es.push {key:=fk k,val:=.agg #[],born:=c}) (c+1)) hR.toRs hσ hp g2 ⟨_,_,rfl,by rw[Array.toList_push];exact q3 () c⟩
  refine⟨_,φ,?_,hR.of hW.1 hW.2⟩
  simp[execOp,e1,e2,e3,Instr.mapUpdate,run_underlying ht.h,Go.MapKept.run_getObj_map g2,Go.MapKept.run_checkKey hkt.h (hk.key k),Go.MapKept.run_findKey hkt.h q2,Go.MapKept.run_setObj_map _ g2,Result.andThen]
 ·have hj:es[j]? =some e:=by simpa using q3
  have hW:=Rs.writeO (q1:=mapP fk noV (mset m k ())) (o1:=.map (es.modify j fun e=>{e with key:=fk k,val:=.agg #[]}) c) hR.toRs hσ hp g2 ⟨_,_,rfl,by rw[Array.toList_modify];exact q5 ()⟩
  refine⟨_,φ,?_,hR.of hW.1 hW.2⟩
  simp[execOp,e1,e2,e3,Instr.mapUpdate,run_underlying ht.h,Go.MapKept.run_getObj_map g2,Go.MapKept.run_checkKey hkt.h (hk.key k),Go.MapKept.run_findKey hkt.h q2,hj,q4,Go.MapKept.run_keyThatStays (hk.key k),Go.MapKept.run_setObj_map _ g2,Result.andThen]
end
/-! ### A struct without fields -/
theorem S.build0{P:Program}{σ0:b6}{sz:Nat}{Q:Post}{env:Env}{σv:b6}{ops:Array Oper}{rest:List Oper}{dst:Option Nat}{ty:TypeId}{pos:String}{after:Array Edge}{t:TypeId}{fs:Array Field}{size bytes:Nat}{z:Value}[ht:TyD P t (.struct fs)][hs:TyS P t size bytes z](hf:fs=#[])(hz:z=.agg #[])(hd:f5 sz dst=true)
  (h:AOps P σ0 sz ops Q rest (St.mk (putE env dst (.agg [])) σv)):AOps P σ0 sz ops Q (⟨dst,.build t #[],ty,pos,after,none⟩::rest) (St.mk env σv):=
 .value rfl hd _ (fun Γ φ a w hR=>by
  subst hf hz
  refine⟨.agg #[],?_,RelT.agg' (vs:=[]) rfl (fun i c v hc=>by simp at hc)⟩
  simp[execOp,Instr.build,M4 (t:=t),run_underlying ht.h,Value.cells,Instr.fill]) h
theorem S.store0{P:Program}{σ0:b6}{sz:Nat}{Q:Post}{env:Env}{σv:b6}{ops:Array Oper}{rest:List Oper}{ty:TypeId}{pos:String}{after:Array Edge}{x y:Operand}{t:TypeId}{fs:Array Field}{bytes k j o:Nat}{id:Id}{es:List (List C)}{z:Value}[ht:TyD P t (.struct fs)][hs:TyS P t 0 bytes z](hx:ev env x=some (.c (.ptr id j o)))(hy:ev env y=some (.agg []))(hσ:σv[id]? =some (some (.cells k es)))
  (h:AOps P σ0 sz ops Q rest (St.mk env σv)):AOps P σ0 sz ops Q (⟨none,.store t x y,ty,pos,after,none⟩::rest) (St.mk env σv):=
 .skipW rfl rfl σv (fun Γ φ a w hR=>by
  obtain⟨hid,b,base,hp,hv⟩:=af8 (h9 hR hx) hσ
  have hv2:=agg0_inv (h9 hR hy)
  refine⟨w,φ,?_,hR⟩
  simp[execOp,hv,hv2,Instr.storeAt,Instr.sureAddr,storeVar,Value.cells,storeCells,p9 (t:=t)]) h
/-! ### Contracts with two kinds of ends -/
theorem FnOk.alt1{A B:Type}{P:Program}{f:FuncId}{args:List T}{σ:b6}{Q1:A→T→b6→Prop}{Q2:B→T→b6→Prop}{v:A}(h:FnOk P f args σ fun tt ss=>(∃w,(Sum.inl v:A⊕B)=.inl w∧Q1 w tt ss)∨∃w,(Sum.inl v:A⊕B)=.inr w∧Q2 w tt ss):FnOk P f args σ (Q1 v):=
 h.mono fun r s hq=>by
  rcases hq with⟨w,e,hq⟩|⟨w,e,_⟩
  ·cases e;exact hq
  ·cases e
theorem FnOk.alt2{A B:Type}{P:Program}{f:FuncId}{args:List T}{σ:b6}{Q1:A→T→b6→Prop}{Q2:B→T→b6→Prop}{v:B}(h:FnOk P f args σ fun tt ss=>(∃w,(Sum.inr v:A⊕B)=.inl w∧Q1 w tt ss)∨∃w,(Sum.inr v:A⊕B)=.inr w∧Q2 w tt ss):FnOk P f args σ (Q2 v):=
 h.mono fun r s hq=>by
  rcases hq with⟨w,e,_⟩|⟨w,e,hq⟩
  ·cases e
  ·cases e;exact hq
end Ab
end
section
namespace Ab
open Go
section
variable {α:Type}
def pool(size:Nat)(f:α→List I)(E:List α):Ent:=.node none (E.map fun e=>.one (vec size f [e]))
def prow(r:Nat)(l:Li):Blk:=.cells 1 (l.map fun i=>[.ptr (r,[i.toNat]) 0 0])
def R0{K:Type}(fk:K→Value)(ks:List K):Obj→List Value→Prop:=fun o us=>∃es c,o=.map es c∧es.toList.map (·.key)=ks.map fk∧es.toList.map (·.val)=us
def mapCB{K V:Type}(fk:K→Value)(fc:V→C)(m:List (K×V)):Blk:=.obj (R0 fk (m.map (·.1))) (m.map fun p=>fc p.2)
def S8(r:Nat)(i:Int):C:=.ptr (r,[i.toNat]) 0 0
def pmap{K:Type}(r:Nat)(fk:K→Value)(m:List (K×Int)):Blk:=mapCB fk (S8 r) m
def ptrO(r:Nat):Option Int→C
 |some i=>S8 r i
 |none=>.imm (.val (.pointer none))
theorem ar9{r:Nat}{o:Option Int}{i:Int}(h:o=some i):some (T.c (ptrO r o))=some (T.c (.ptr (r,[i.toNat]) 0 0)):=by rw[h];rfl
theorem aa8{size:Nat}{f:α→List I}{E:List α}{p:List Nat}{b:Blk}(h:(pool size f E).sub p=some b):∃i e,p=[i]∧E[i]? =some e∧b=vec size f [e]:=by
 cases p with
 |nil=>cases h
 |cons i q=>
  simp only[pool,Ent.sub,lM] at h
  cases hi:E[i]? with
  |none=>simp[hi] at h
  |some e=>
   rw[hi] at h
   cases q with
   |nil=>simp only[Option.map_some,Ent.sub,Option.some.injEq] at h;exact⟨i,e,rfl,hi,h.symm⟩
   |cons=>simp[Ent.sub] at h
theorem au8{size:Nat}{f:α→List I}{E:List α}{i:Nat}{e:α}(h:E[i]? =some e):(pool size f E).sub [i]=some (vec size f [e]):=by
 simp[pool,Ent.sub,h]
theorem s8{σ:b6}{r size:Nat}{f:α→List I}{E:List α}{i:Int}{e:α}(h:σ[r]? =some (pool size f E))(he:ix E i=some e):σ[((r,[i.toNat]):Id)]? =some (some (.cells size [(f e).map .imm])):=by
 rw[x6 h,au8 (W6 he).2];rfl
theorem n9{size n:Nat}{f:α→List I}{E:List α}:∀q b,(pool size f E).sub q=some b→b.ok n=true:=fun q b h=>by
 obtain⟨i,e,_,_,rfl⟩:=aa8 h;exact N6
theorem pool_no{size:Nat}{f:α→List I}{E:List α}{id:Id}:∀q b,(pool size f E).sub q=some b→b.no id=true:=fun q b h=>by
 obtain⟨i,e,_,_,rfl⟩:=aa8 h;exact Blk.im_no _ _ _
theorem pool_fwd{size:Nat}{f:α→List I}{E:List α}{π:Id→Id}:∀p b,(pool size f E).sub p=some b→(pool size f E).sub p=some (b.ren π):=fun p b h=>by
 obtain⟨i,e,rfl,_,rfl⟩:=aa8 h;rw[h,K9]
theorem pool_bwd{size:Nat}{f:α→List I}{E:List α}{π:Id→Id}:∀p b,(pool size f E).sub p=some b→∃b0,(pool size f E).sub p=some b0∧b=b0.ren π:=fun p b h=>by
 obtain⟨i,e,rfl,_,rfl⟩:=aa8 h;exact⟨_,h,K9.symm⟩
theorem RenE.pool{size r r':Nat}{f:α→List I}{E:List α}{π:Id→Id}:RenE π r (Ab.pool size f E) r' (Ab.pool size f E):=.any pool_fwd pool_bwd
theorem x9.pool{size r m a:Nat}{f:α→List I}{E:List α}{n:Id}{σ:b6}(hσ:σ[r]? =some (Ab.pool size f E)):x9 (a,[]) n σ m r (Ab.pool size f E):=by
 show ∀(p:List Nat) (b:Blk),(Ab.pool size f E).sub p=some b→_
 intro p b hb
 obtain⟨i,e,rfl,_,rfl⟩:=aa8 hb
 have hm:mv (a,[]) n (r,[i])=(r,[i]):=by
  have:((r,[i]):Id) ≠ (a,[]):=fun e=>by cases e
  simp[mv,G6 this]
 rw[hm,x6 hσ,hb]
 exact⟨N6,by rw[K9]⟩
theorem x9.poolR{size r m a q:Nat}{f:α→List I}{E:List α}{n:Id}{σ:b6}(h:Nat.beq a r=false)(hσ:σ[r]? =some (Ab.pool size f E)):x9 (a,[q]) n σ m r (Ab.pool size f E):=by
 show ∀(p:List Nat) (b:Blk),(Ab.pool size f E).sub p=some b→_
 intro p b hb
 obtain⟨i,e,rfl,_,rfl⟩:=aa8 hb
 have hm:mv (a,[q]) n (r,[i])=(r,[i]):=by
  have:((r,[i]):Id) ≠ (a,[q]):=fun e=>by cases e;simp at h
  simp[mv,G6 this]
 rw[hm,x6 hσ,hb]
 exact⟨N6,by rw[K9]⟩
theorem EntR.pool{size r n m i j:Nat}{f:α→List I}{E:List α}{σ:b6}(hj:(mvr r n (i,[])).1=j)(hσ:σ[j]? =some (Ab.pool size f E)):EntR r n σ m i (Ab.pool size f E):=.any fun p b hb=>by
 have e:∀q,mvr r n (i,q)=(j,q):=fun q=>by rw[← hj];rfl
 obtain⟨k,e0,rfl,_,rfl⟩:=aa8 hb
 rw[e,x6 hσ,hb]
 exact⟨N6,by rw[K9]⟩
theorem FrzB.pool{size:Nat}{f:α→List I}{E:List α}{id:Id}{X:C→C→Prop}:FrzB id X (Ab.pool size f E) (Ab.pool size f E):=by
 show _=_∧_
 exact⟨rfl,fun p b h=>pool_no p b h⟩
/-! ### Rows and maps of pointers among other blocks -/
theorem i7{r n:Nat}{l:Li}(h:Nat.blt r n=true):(prow r l).ok n=true:=by
 simp only[prow,Blk.ok,List.all_map,List.all_eq_true]
 intro i _
 simp[C.okL,C.ok] at h ⊢
 exact h
theorem prow_no{r a:Nat}{l:Li}:(prow r l).no (a,[])=true:=by
 simp only[prow,Blk.no,List.all_map,List.all_eq_true]
 intro i _
 have:idb ((r,[i.toNat]):Id) (a,[])=false:=G6 (fun e=>by cases e)
 simp[C.noL,C.no,this]
theorem prow_noR{r a p:Nat}{l:Li}(h:Nat.beq a r=false):(prow r l).no (a,[p])=true:=by
 simp only[prow,Blk.no,List.all_map,List.all_eq_true]
 intro i _
 have:idb ((r,[i.toNat]):Id) (a,[p])=false:=G6 (fun e=>by cases e;simp at h)
 simp[C.noL,C.no,this]
theorem f9{r r':Nat}{l:Li}{π:Id→Id}(h:∀q,π (r,q)=(r',q)):(prow r l).ren π=prow r' l:=by
 simp[prow,Blk.ren,C.renL,C.ren,h]
theorem O8{r:Nat}{l:Li}{a:Nat}{n:Id}:(prow r l).ren (mv (a,[]) n)=prow r l:=Blk.ren_no _ prow_no
theorem prow_mvR{r a q:Nat}{l:Li}{n:Id}(h:Nat.beq a r=false):(prow r l).ren (mv (a,[q]) n)=prow r l:=Blk.ren_no _ (prow_noR h)
theorem B1{i n:Id}{id:Id}{b:Blk}{σ:b6}(h:σ[i]? =some (some b))(e:b.ren (mv id n)=b):σ[i]? =some (some (b.ren (mv id n))):=by rw[e];exact h
theorem H9{r n i:Nat}{b b':Blk}{σ:b6}{j:Id}(hj:mvr r n (i,[])=j)(h:σ[j]? =some (some b'))(e:b.ren (mvr r n)=b'):σ[mvr r n (i,[])]? =some (some (b.ren (mvr r n))):=by rw[hj,e];exact h
theorem renL_map{r r':Nat}{K:Type}{m:List (K×Int)}{π:Id→Id}(h:∀q,π (r,q)=(r',q)):C.renL π (m.map fun p=>S8 r p.2)=m.map fun p=>S8 r' p.2:=by
 induction m with
 |nil=>rfl
 |cons p m ih=>
  have e:C.ren π (S8 r p.2)=S8 r' p.2:=by simp[S8,C.ren,h]
  simp only[List.map_cons,C.renL,ih,e]
section
variable {K:Type} {fk:K→Value} {r:Nat} {m:List (K×Int)}
theorem k9{n:Nat}(h:Nat.blt r n=true):(pmap r fk m).ok n=true:=by
 simp only[pmap,mapCB,Blk.ok]
 rw[M9,List.all_map,List.all_eq_true]
 intro p _
 simpa[S8,C.ok] using h
theorem pmap_no{a:Nat}:(pmap r fk m).no (a,[])=true:=by
 simp only[pmap,mapCB,Blk.no]
 rw[noL_eq,List.all_map,List.all_eq_true]
 intro p _
 have:idb ((r,[p.2.toNat]):Id) (a,[])=false:=G6 (fun e=>by cases e)
 simp[S8,C.no,this]
theorem pmap_noR{a q:Nat}(h:Nat.beq a r=false):(pmap r fk m).no (a,[q])=true:=by
 simp only[pmap,mapCB,Blk.no]
 rw[noL_eq,List.all_map,List.all_eq_true]
 intro p _
 have:idb ((r,[p.2.toNat]):Id) (a,[q])=false:=G6 (fun e=>by cases e;simp at h)
 simp[S8,C.no,this]
theorem m9{r':Nat}{π:Id→Id}(h:∀q,π (r,q)=(r',q)):(pmap r fk m).ren π=pmap r' fk m:=by
 simp only[pmap,mapCB,Blk.ren,renL_map h]
theorem O9{a:Nat}{n:Id}:(pmap r fk m).ren (mv (a,[]) n)=pmap r fk m:=Blk.ren_no _ pmap_no
theorem pmap_mvR{a q:Nat}{n:Id}(h:Nat.beq a r=false):(pmap r fk m).ren (mv (a,[q]) n)=pmap r fk m:=Blk.ren_no _ (pmap_noR h)
end
theorem FrzB.prow{r a:Nat}{l:Li}{X:C→C→Prop}:FrzB (a,[]) X (.one (Ab.prow r l)) (.one (Ab.prow r l)):=by
 have h:=prow_no (r:=r) (a:=a) (l:=l)
 unfold FrzB
 split
 ·rename_i h1 _;cases h1
 ·rename_i k1 e k2 e' h1 h2
  simp only[Ab.prow,Ent.one.injEq,Blk.cells.injEq] at h1 h2
  obtain⟨rfl,h1⟩:=h1
  obtain⟨rfl,h2⟩:=h2
  have:e=e':=by rw[h1] at h2;simpa using h2
  subst this
  refine⟨rfl,?_⟩
  obtain⟨i,rfl⟩:∃i,l=[i]:=by
   cases l with
   |nil=>simp at h1
   |cons i l=>cases l with
    |nil=>exact⟨i,rfl⟩
    |cons b l=>simp at h1
  simp only[List.map_cons,List.map_nil,List.cons.injEq,and_true] at h1
  subst h1
  refine⟨.inl ⟨rfl,?_⟩,trivial⟩
  have:idb ((r,[i.toNat]):Id) (a,[])=false:=G6 (fun e=>by cases e)
  simp[C.no,this]
 ·rename_i h1 h2
  cases h1;cases h2
  exact⟨rfl,h⟩
 ·rename_i h1;cases h1
 ·rename_i h1 h2 h3 h4
  first|exact(h3 _ _ rfl rfl).elim|exact(h4 _ _ rfl rfl).elim|exact(h2 _ _ rfl rfl).elim
end
section
variable {P:Program} {σ0:b6} {sz:Nat} {Q:Post} {env env':Env} {σv σ':b6} {ops:Array Oper} {rest:List Oper} {dst:Option Nat} {ty:TypeId} {pos:String} {after:Array Edge}
/-! ### Rows of pointers -/
theorem S.loadP{x:Operand}{t:TypeId}{d:TypeDesc}{h r:Nat}{i a:Int}{l:Li}[ht:TyD P t d](he:ix l i=some a)(ha:F6 d=false)(hx:ev env x=some (.c (.ptr (h,[]) i.toNat 0)))(hσ:σv[((h,[]):Id)]? =some (some (prow r l)))(hd:f5 sz dst=true)
  (hh:AOps P σ0 sz ops Q rest (St.mk (putE env dst (.c (.ptr (r,[a.toNat]) 0 0))) σv)):AOps P σ0 sz ops Q (⟨dst,.load t x,ty,pos,after,none⟩::rest) (St.mk env σv):=
 .F (e:=[.ptr (r,[a.toNat]) 0 0]) ha hx hσ (by rw[lM,(W6 he).2];rfl) rfl hd hh
theorem S.storeP{x y:Operand}{t:TypeId}{bytes h r:Nat}{z:Value}{i:Nat}{a:Int}{l:Li}[hs:TyS P t 1 bytes z](hi:i<l.length)(hx:ev env x=some (.c (.ptr (h,[]) i 0)))(hy:ev env y=some (.c (.ptr (r,[a.toNat]) 0 0)))
  (hσ:σv[((h,[]):Id)]? =some (some (prow r l))) (hσ':putF σv (h,[]) (some (prow r (l.set i a)))=some σ') (hh:AOps P σ0 sz ops Q rest (St.mk env σ')):AOps P σ0 sz ops Q (⟨none,.store t x y,ty,pos,after,none⟩::rest) (St.mk env σv):=by
 have h2:=C9 hσ'
 subst h2
 refine AOps.store hx hy hσ (by rw[lM,List.getElem?_eq_getElem hi];rfl) (by simp) ?_
 have e:(l.map fun i=>[C.ptr (r,[i.toNat]) 0 0]).set i [.ptr (r,[a.toNat]) 0 0]=(l.set i a).map fun i=>[C.ptr (r,[i.toNat]) 0 0]:=by rw[List.map_set]
 simp only[List.set_cons_zero]
 rw[e]
 exact hh
theorem S.appendP{x y:Operand}{t e:TypeId}{bytes m k h s r:Nat}{n:Id}{z:Value}{l new l':Li}{σ1:b6}[ht:TyD P t (.slice e)][hs:TyS P e 1 bytes z]
  (ha:app bytes l new=some l') (hzk:(z.cells.size==1)=true) (hbp:Nat.blt 0 bytes=true) (hx:ev env x=some (.c (.own (h,[]) 0 m))) (hm:m=l.length) (hσ:σv[((h,[]):Id)]? =some (some (prow r l)))
  (hy:ev env y=some (.c (.own (s,[]) 0 k))) (hk:k=new.length) (hs':σv[((s,[]):Id)]? =some (some (prow r new))) (hn:newF σv=some n) (h1:putF σv (h,[]) none=some σ1) (hσ':x4 σ1 (.one (prow r l'))=some σ') (hd:f5 sz dst=true)
  (hh:AOps P σ0 sz ops Q rest (St.mk (putE env dst (.c (.own n 0 l'.length))) σ')):AOps P σ0 sz ops Q (⟨dst,.call ⟨.builtin .append,#[x,y],#[t,t]⟩,ty,pos,after,none⟩::rest) (St.mk env σv):=by
 obtain⟨hb,rfl⟩:=an6 ha
 have h2:=C9 h1
 have h3:=B3 hn;have h4:=u5 hσ'
 subst hm hk h2 h3 h4
 have hsrc:=Src.own (σ:=σv) (j:=0) (n:=new.length) hs'
 refine AOps.append hzk hbp hx hσ hy hsrc ?_ hd ?_
 ·rw[List.drop_zero,List.take_of_length_le (by simp)];simpa using hb
 ·have e1:(((l.map fun i=>[C.ptr (r,[i.toNat]) 0 0]).drop 0).take l.length)++(((new.map fun i=>[C.ptr (r,[i.toNat]) 0 0]).drop 0).take new.length)=(l++new).map fun i=>[C.ptr (r,[i.toNat]) 0 0]:=by
   rw[List.drop_zero,List.drop_zero,List.take_of_length_le (by simp),List.take_of_length_le (by simp)];simp
  have e2:l.length+((((new.map fun i=>[C.ptr (r,[i.toNat]) 0 0]).drop 0).take new.length)).length=(l++new).length:=by simp
  rw[e1,e2]
  exact hh
theorem S.shrinkP{x y:Operand}{t e:TypeId}{bytes n h r:Nat}{z:Value}{kk:IntKind}{hi:Int}{l l':Li}[ht:TyD P t (.slice e)][hs:TyS P e 1 bytes z]
  (hl:subL l 0 hi=some l') (hx:ev env x=some (.c (.own (h,[]) 0 n))) (hn:n=l.length) (hσ:σv[((h,[]):Id)]? =some (some (prow r l))) (hy:ev env y=some (.c (.imm (.val (.int kk hi))))) (hd:f5 sz dst=true)
  (hh:AOps P σ0 sz ops Q rest (St.mk (putE env dst (.c (.own (h,[]) 0 l'.length))) σv)):AOps P σ0 sz ops Q (⟨dst,.slice t x none (some y) none,ty,pos,after,none⟩::rest) (St.mk env σv):=by
 unfold subL at hl
 split at hl
 ·rename_i hc
  cases hl
  have e1:hi=((hi.toNat:Nat):Int):=by omega
  rw[e1] at hy
  refine AOps.sliceOwnTo hx hσ hy (by omega) hd ?_
  rw[show(List.drop (Int.toNat 0) (List.take hi.toNat l)).length=hi.toNat by simp;omega] at hh
  exact hh
 ·cases hl
/-! ### Entries -/
theorem setF_at{σ σ':b6}{n:Nat}{e e':Ent}(h:σ[n]? =some e)(h':setF σ n e'=some σ')(i:Id):σ'[i]? =if i.1=n then some (e'.sub i.2) else σ[i]? :=by
 obtain⟨rfl,_⟩:=V4 h'
 exact set_ent h i
theorem S.storeE{α:Type}{size bytes o r:Nat}{f:α→List I}{E:List α}{i:Int}{e e':α}{c:I}{x y:Operand}{t:TypeId}{z:Value}[hs:TyS P t 1 bytes z](he:ix E i=some e)(hl:Nat.blt o (f e).length=true)(hf:(f e).set o c=f e')(hx:ev env x=some (.c (.ptr (r,[i.toNat]) 0 o)))(hy:ev env y=some (.c (.imm c)))
  (hσ:σv[r]? =some (pool size f E)) (hσ':setF σv r (pool size f (E.set i.toNat e'))=some σ') (hh:AOps P σ0 sz ops Q rest (St.mk env σ')):AOps P σ0 sz ops Q (⟨none,.store t x y,ty,pos,after,none⟩::rest) (St.mk env σv):=by
 have hlt:=f8 he
 have hlo:o<((f e).map C.imm).length:=by rw[List.length_map];exact Nat.le_of_ble_eq_true hl
 refine AOps.store hx hy (s8 hσ he) rfl hlo ?_
 have e1:([(f e).map C.imm].set 0 (((f e).map C.imm).set o (.imm c)))=[(f e').map C.imm]:=by
  rw[← hf,List.map_set];rfl
 rw[e1]
 have h2:=(V4 hσ').1
 refine AOps.sub (Sub.same (by rw[h2];simp) fun j=> ?_) hh
 rw[setF_at hσ hσ']
 have hb:σv[((r,[i.toNat]):Id)]? =some (some (.cells size [(f e).map .imm])):=s8 hσ he
 by_cases hj:j=(r,[i.toNat])
 ·subst hj
  rw[b6.get_put_eq hb,if_pos rfl,au8 (e:=e') (by simp[hlt])]
  rfl
 ·rw[b6.get_put_ne hj]
  by_cases hr:j.1=r
  ·obtain⟨j1,q⟩:=j
   simp only at hr
   subst hr
   rw[if_pos rfl,x6 hσ]
   congr 1
   cases q with
   |nil=>rfl
   |cons a q=>
    simp only[pool,Ent.sub,lM,List.getElem?_set]
    by_cases ha:i.toNat=a
    ·subst ha
     cases q with
     |nil=>exact absurd rfl hj
     |cons b q=>
      rw[if_pos rfl,if_pos hlt,(W6 he).2]
      rfl
    ·rw[if_neg ha]
  ·rw[if_neg hr]
def chkH(n:Nat)(l:Li):Option Unit:=if ∀i ∈ l,i.toNat<n then some () else none
theorem chkH_get{n:Nat}{l:Li}{u:Unit}(h:chkH n l=some u):∀i ∈ l,i.toNat<n:=by
 unfold chkH at h
 split at h
 ·assumption
 ·cases h
theorem x9.adopt{α:Type}{size r m n:Nat}{f:α→List I}{E:List α}{e:α}{σ:b6}(hσ:σ[r]? =some (Ab.pool size f E))(hn:σ[((n,[]):Id)]? =some (some (vec size f [e]))):x9 (r,[E.length]) (n,[]) σ m r (Ab.pool size f (E++[e])):=by
 show ∀(p:List Nat) (b:Blk),(Ab.pool size f (E++[e])).sub p=some b→_
 intro p b hb
 obtain⟨i,e0,rfl,hi,rfl⟩:=aa8 hb
 refine⟨N6,?_⟩
 rw[K9]
 rw[List.getElem?_append] at hi
 split at hi
 ·rename_i hlt
  have hm:mv (r,[E.length]) (n,[]) (r,[i])=(r,[i]):=by
   have:((r,[i]):Id) ≠ (r,[E.length]):=fun e=>by cases e;omega
   simp[mv,G6 this]
  rw[hm,x6 hσ,au8 hi]
 ·rename_i hge
  have hi0:i=E.length:=by
   have:=(lG.1 hi).1
   simp at this;omega
  subst hi0
  simp at hi
  subst hi
  have hm:mv (r,[E.length]) (n,[]) (r,[E.length])=(n,[]):=by simp[mv,L5.2 rfl]
  rw[hm,hn]
theorem prow_adopt{r k:Nat}{l:Li}{n:Id}{u:Unit}(h:chkH k l=some u):(prow r l).ren (mv (r,[k]) n)=prow r l:=by
 refine Blk.ren_no _ ?_
 simp only[prow,Blk.no,List.all_map,List.all_eq_true]
 intro i hi
 have:=chkH_get h i hi
 have:idb ((r,[i.toNat]):Id) (r,[k])=false:=G6 (fun e=>by cases e;omega)
 simp[C.noL,C.no,this]
theorem pmap_adopt{K:Type}{fk:K→Value}{r k:Nat}{m:List (K×Int)}{n:Id}{u:Unit}(h:chkH k (m.map (·.2))=some u):(pmap r fk m).ren (mv (r,[k]) n)=pmap r fk m:=by
 refine Blk.ren_no _ ?_
 simp only[pmap,mapCB,Blk.no]
 rw[noL_eq,List.all_map,List.all_eq_true]
 intro p hp
 have:=chkH_get h p.2 (List.mem_map.2 ⟨p,hp,rfl⟩)
 have:idb ((r,[p.2.toNat]):Id) (r,[k])=false:=G6 (fun e=>by cases e;omega)
 simp[S8,C.no,this]
theorem ptr_adopt{r n:Nat}{k:Nat}:some (T.c (.ptr (n,[]) 0 0))=some (T.ren (mv (r,[k]) (n,[])) (.c (.ptr (r,[((k:Int)).toNat]) 0 0))):=by
 simp[T.ren,C.ren,mv,L5.2 rfl]
theorem af6{i id n:Id}{b:Blk}{σ:b6}(h:σ[i]? =some (some b))(e:b.ren (mv id n)=b)(hm:mv id n i=i):σ[mv id n i]? =some (some (b.ren (mv id n))):=by rw[hm,e];exact h
theorem ai8{r k a:Nat}{n:Id}:mv (r,[k]) n (a,[])=(a,[]):=by
 have:((a,[]):Id) ≠ (r,[k]):=fun e=>by cases e
 simp[mv,G6 this]
theorem Sub.newPool{α:Type}{size:Nat}{f:α→List I}(hσ:x4 σv (pool size f ([]:List α))=some σ'):Sub σ0 ⟨env,σv⟩ ⟨env,σ'⟩:=by
 have h:=u5 hσ
 subst h
 intro Γ sz φ a w hΓ hR
 have hV:=hR.toRs.virt 1
 have hK:=hV.2.kill (σv.length,[])
 refine(Sub.same (σ0:=σ0) (env:=env) (σ1:=b6.put (σv++[Ent.one (Blk.cells 1 [])]) (σv.length,[]) none) (by simp) fun i=> ?_) Γ sz _ a w hΓ ((hR.of hV.1 hV.2).of hK.1 hK.2)
 by_cases hi:i=(σv.length,[])
 ·subst hi
  have e0:(σv++[Ent.one (Blk.cells 1 [])])[((σv.length,[]):Id)]? =some (some (Blk.cells 1 [])):=by
   rw[b6.get_right (by simp)];simp[b6.at_eq,b6.at,Ent.sub]
  rw[b6.get_put_eq e0,b6.get_right (by simp)]
  simp[b6.at_eq,b6.at,pool,Ent.sub]
 ·rw[b6.get_put_ne hi]
  rcases Nat.lt_or_ge i.1 σv.length with hl|hl
  ·rw[b6.get_left hl,b6.get_left hl]
  ·rw[b6.get_right hl,b6.get_right hl]
   obtain⟨i1,q⟩:=i
   rw[b6.at_eq,b6.at_eq]
   simp only[b6.at]
   cases hk:i1 - σv.length with
   |zero=>
    cases q with
    |nil=>exact absurd (by simp at hl;congr 1;omega) hi
    |cons a q=>simp[pool,Ent.sub]
   |succ m=>rfl
/-! ### Maps of pointers -/
section
variable {K:Type} [DecidableEq K] {V:Type} {fk:K→Value} {d:TypeDesc}
def mdel:List (K×V)→K→List (K×V)
 |[],_=>[]
 |p::r,k=>if k=p.1 then r else p::mdel r k
theorem ar5(hk:KeyT d fk)(k:K):∀(m:List (K×V)) (l:List MapEntry) (i:Nat),l.map (·.key)=(m.map (·.1)).map fk→
  (mget m k=none∧Instr.findNow d (fk k) l i=some none∧(∀v,mset m k v=m++[(k,v)])∧mdel m k=m)∨
  ∃j p e,m[j]? =some p∧mget m k=some p.2∧l[j]? =some e∧e.key=fk k∧Instr.findNow d (fk k) l i=some (some (i+j,e.val))∧(∀v,mset m k v=m.set j (k,v))∧mdel m k=m.eraseIdx j
 |[],[],i,_=>.inl ⟨rfl,rfl,fun v=>rfl,rfl⟩
 |[],_::_,i,h=>by simp at h
 |_::_,[],i,h=>by simp at h
 |p::m,e::l,i,h=>by
  simp only[List.map_cons,List.cons.injEq] at h
  obtain⟨h1,h3⟩:=h
  obtain⟨r,hr,hiff⟩:∃r,Instr.sameNow d (fk k) e.key=some r∧(r=true↔fk k=e.key):=Go.MapKept.sameNow_of_keys (hk.key k) (by rw[h1];exact hk.key p.1)
  by_cases c:k=p.1
  ·have:r=true:=hiff.2 (by rw[h1,c])
   subst this
   exact .inr ⟨0,p,e,rfl,by simp[mget,c],rfl,by rw[h1,c],by simp[Instr.findNow,hr],fun v=>by simp[mset,c],by simp[mdel,c]⟩
  ·have:r=false:=by
    cases r with
    |false=>rfl
    |true=>exact absurd (hk.inj ((hiff.1 rfl).trans h1)) c
   subst this
   rcases ar5 hk k m l (i+1) h3 with⟨g1,g2,g3,g4⟩|⟨j,p',e',g1,g2,g3,g4,g5,g6,g7⟩
   ·exact .inl ⟨by simp[mget,c,g1],by simp[Instr.findNow,hr,g2],fun v=>by simp[mset,c,g3],by simp[mdel,c,g4]⟩
   ·exact .inr ⟨j+1,p',e',by simpa using g1,by simp[mget,c,g2],by simpa using g3,g4,by simp[Instr.findNow,hr,g5];omega,fun v=>by simp[mset,c,g6],by simp[mdel,c,g7]⟩
theorem ao3{w:World}{φ:Phi}{σ:b6}{A:Nat→Prop}{id:Id}{p:Obj→List Value→Prop}{cs:List C}{u:Value}(h:RelT w φ σ A (.c (.map id)) u)(hσ:σ[id]? =some (some (.obj p cs))):∃b base,φ id=some (b,base)∧u=.map (some b):=by
 cases h with|c h=>cases h with|map hid h1 h=>exact h _ _ hσ
theorem W.makeMapP{t:TypeId}{id:Id}(r:Nat)(fk:K→Value)(hid:newF σv=some id)(hσ:x4 σv (.one (pmap r fk ([]:List (K×Int))))=some σ')(hd:f5 sz dst=true)
  (h:AOps P σ0 sz ops Q rest (St.mk (putE env dst (.c (.map id))) σ')):AOps P σ0 sz ops Q (⟨dst,.makeMap t none,ty,pos,after,none⟩::rest) (St.mk env σv):=by
 have h2:=B3 hid;have h3:=u5 hσ
 subst h2 h3
 refine .valueW rfl hd _ _ (fun Γ φ a w hR=> ?_) h
 have hA:=Rs.allocB (p0:=R0 fk []) (cs0:=[]) (us0:=[]) (obj:=.map #[] 0) hR.toRs ⟨#[],0,rfl,rfl,rfl⟩ (fun i x hx=>by simp at hx)
 exact⟨.map (some w.heap.size),w.alloc (.map #[] 0),_,by simp[execOp,Instr.makeMap],.c (.map (by simp) rfl fun p cs hp=>⟨w.heap.size,0,by simp[o9],rfl⟩),hR.of hA.1 hA.2⟩
theorem S.lookupOkP{x y:Operand}{t kt vt:TypeId}{id:Id}{r:Nat}{m:List (K×Int)}{k:K}{size bytes:Nat}{zv:Value}[ht:TyD P t (.map kt vt)][hkt:TyD P kt d][hs:TyS P vt size bytes zv](hk:KeyT d fk)(hz:zv=.pointer none)
  (hx:ev env x=some (.c (.map id))) (hy:ev env y=some (.c (.imm (.val (fk k))))) (hσ:σv[id]? =some (some (pmap r fk m))) (hd:f5 sz dst=true)
  (h:AOps P σ0 sz ops Q rest (St.mk (putE env dst (.tup [.c (ptrO r (mget m k)),.c (bool (mget m k).isSome)])) σv)):AOps P σ0 sz ops Q (⟨dst,.lookup t x y true,ty,pos,after,none⟩::rest) (St.mk env σv):=by
 refine .valueW rfl hd _ _ (fun Γ φ a w hR=> ?_) h
 obtain⟨b,base,hp,hv⟩:=ao3 (h9 hR hx) hσ
 obtain⟨hv2,_⟩:=H4 (h9 hR hy)
 obtain⟨b',o,us,g1,g2,⟨es,c,rfl,g3,g4⟩,g5⟩:=hR.st.blk _ _ hσ
 rw[hp] at g1;cases g1
 rcases ar5 hk k m es.toList 0 g3 with⟨q1,q2,_⟩|⟨j,p,e,q0,q1,q3,q4,q2,_⟩
 ·refine⟨.tuple #[.pointer none,.bool false],w,φ,?_,RelT.tup' (vs:=[.pointer none,.bool false]) rfl (fun i t u hi hu=> ?_),hR⟩
  ·simp[execOp,hv,hv2,Instr.lookup,run_underlying ht.h,Go.MapKept.run_getObj_map g2,Go.MapKept.run_checkKey hkt.h (hk.key k),Go.MapKept.run_findKey hkt.h q2,M4 (t:=vt),hz,Result.andThen]
  ·match i with
   |0=>cases hi;cases hu;rw[q1];exact .c (.imm (.val rfl))
   |1=>cases hi;cases hu;rw[q1];exact .bool _
   |i+2=>simp at hi
 ·obtain⟨u,hu,hru⟩:=g5 j (S8 r p.2) (by rw[lM,q0];rfl)
  have hue:u=e.val:=by
   rw[← g4,lM,q3] at hu
   simpa using hu.symm
  subst hue
  refine⟨.tuple #[e.val,.bool true],w,φ,?_,RelT.tup' (vs:=[e.val,.bool true]) rfl (fun i t u hi hu=> ?_),hR⟩
  ·simp[execOp,hv,hv2,Instr.lookup,run_underlying ht.h,Go.MapKept.run_getObj_map g2,Go.MapKept.run_checkKey hkt.h (hk.key k),Go.MapKept.run_findKey hkt.h q2,Result.andThen]
  ·match i with
   |0=>cases hi;cases hu;rw[q1];exact .c hru
   |1=>cases hi;cases hu;rw[q1];exact .bool _
   |i+2=>simp at hi
theorem S.mapUpdateP{x y v:Operand}{t kt vt:TypeId}{id:Id}{r:Nat}{m:List (K×Int)}{k:K}{a:Int}[ht:TyD P t (.map kt vt)][hkt:TyD P kt d](hk:KeyT d fk)
  (hx:ev env x=some (.c (.map id))) (hy:ev env y=some (.c (.imm (.val (fk k))))) (hv:ev env v=some (.c (.ptr (r,[a.toNat]) 0 0))) (hσ:σv[id]? =some (some (pmap r fk m))) (hσ':putF σv id (some (pmap r fk (mset m k a)))=some σ')
  (h:AOps P σ0 sz ops Q rest (St.mk env σ')):AOps P σ0 sz ops Q (⟨none,.mapUpdate t x y v,ty,pos,after,none⟩::rest) (St.mk env σv):=by
 have h2:=C9 hσ'
 subst h2
 refine .skipW rfl rfl _ (fun Γ φ ac w hR=> ?_) h
 obtain⟨b,base,hp,e1⟩:=ao3 (h9 hR hx) hσ
 obtain⟨e2,_⟩:=H4 (h9 hR hy)
 have hrv:=h9 hR hv
 generalize e3:ac.eval v=u at hrv
 have hru:RelC w φ σv (Al Γ.N φ σv) (S8 r a) u:=by cases hrv with|c h=>exact h
 obtain⟨b',o,us,g1,g2,⟨es,c,rfl,g3,g4⟩,g5⟩:=hR.st.blk _ _ hσ
 rw[hp] at g1;cases g1
 rcases ar5 hk k m es.toList 0 g3 with⟨q1,q2,q3,_⟩|⟨j,p,e,q0,q1,q3,q4,q2,q5,_⟩
 ·have hW:=Rs.writeB (q1:=R0 fk ((mset m k a).map (·.1))) (cs1:=(mset m k a).map fun p=>S8 r p.2) (us1:=us++[u]) (o1:=.map (es.push {key:=fk k,val:=u,born:=c}) (c+1)) hR.toRs hσ hp g2
   ⟨_,_,rfl,by rw[q3];simp[g3],by simp[g4]⟩ (fun i x hx=>by
    rw[q3,List.map_append,List.getElem?_append] at hx
    split at hx
    ·obtain⟨u',h1,h2⟩:=g5 i x hx
     exact⟨u',by rw[List.getElem?_append_left (lG.1 h1).1];exact h1,h2⟩
    ·rename_i hge
     have hl:us.length=m.length:=by rw[← g4];have:=congrArg List.length g3;simpa using this
     simp only[List.length_map] at hx hge
     have h0:i=m.length:=by
      have:=(lG.1 hx).1
      simp at this;omega
     subst h0
     simp at hx
     subst hx
     exact⟨u,by rw[← hl];simp,hru⟩)
  refine⟨_,φ,?_,hR.of hW.1 hW.2⟩
  simp[execOp,e1,e2,e3,Instr.mapUpdate,run_underlying ht.h,Go.MapKept.run_getObj_map g2,Go.MapKept.run_checkKey hkt.h (hk.key k),Go.MapKept.run_findKey hkt.h q2,Go.MapKept.run_setObj_map _ g2,Result.andThen]
 ·have hj:es[j]? =some e:=by simpa using q3
  have hW:=Rs.writeB (q1:=R0 fk ((mset m k a).map (·.1))) (cs1:=(mset m k a).map fun p=>S8 r p.2) (us1:=us.set j u) (o1:=.map (es.modify j fun e=>{e with key:=fk k,val:=u}) c) hR.toRs hσ hp g2
   ⟨_,_,rfl,by
    rw[q5,Array.toList_modify]
    apply List.ext_getElem?
    intro i
    have hg:=congrArg (fun l=>l[i]?) g3
    simp only[lM,List.getElem?_modify,List.getElem?_set] at hg ⊢
    by_cases hi:j=i
    ·subst hi
     have hlt:=(lG.1 q0).1
     simp[q3,hlt]
    ·simpa[hi] using hg,by
    rw[Array.toList_modify]
    apply List.ext_getElem?
    intro i
    have hg:=congrArg (fun l=>l[i]?) g4
    simp only[lM,List.getElem?_modify,List.getElem?_set] at hg ⊢
    by_cases hi:j=i
    ·subst hi
     have hlt:j<us.length:=by rw[← g4];simpa using(lG.1 q3).1
     simp[q3,hlt]
    ·simpa[hi] using hg⟩ (fun i x hx=>by
    rw[q5,lM,List.getElem?_set] at hx
    by_cases hi:j=i
    ·subst hi
     have hlt:=(lG.1 q0).1
     have hlu:j<us.length:=by rw[← g4];simpa using(lG.1 q3).1
     simp[hlt] at hx
     subst hx
     exact⟨u,by simp[hlu],hru⟩
    ·rw[if_neg hi,← lM] at hx
     obtain⟨u',h1,h2⟩:=g5 i x hx
     exact⟨u',by rw[List.getElem?_set,if_neg hi];exact h1,h2⟩)
  refine⟨_,φ,?_,hR.of hW.1 hW.2⟩
  simp[execOp,e1,e2,e3,Instr.mapUpdate,run_underlying ht.h,Go.MapKept.run_getObj_map g2,Go.MapKept.run_checkKey hkt.h (hk.key k),Go.MapKept.run_findKey hkt.h q2,hj,q4,Go.MapKept.run_keyThatStays (hk.key k),Go.MapKept.run_setObj_map _ g2,Result.andThen]
theorem ag1{A B:Type}(f:A→B):∀(l:List A) (j:Nat),(l.map f).eraseIdx j=(l.eraseIdx j).map f
 |[],_=>rfl
 |_::_,0=>rfl
 |a::l,j+1=>by simp[ag1 f l j]
theorem erase_rel{es:Array MapEntry}{us:List Value}{m:List (K×Int)}{r j:Nat}(g3:es.toList.map (·.key)=(m.map (·.1)).map fk)(g4:es.toList.map (·.val)=us):
  (es.eraseIdxIfInBounds j).toList.map (·.key)=((m.eraseIdx j).map (·.1)).map fk∧(es.eraseIdxIfInBounds j).toList.map (·.val)=us.eraseIdx j:=by
 have e0:(es.eraseIdxIfInBounds j).toList=es.toList.eraseIdx j:=by
  unfold Array.eraseIdxIfInBounds
  split
  ·rw[Array.toList_eraseIdx]
  ·rename_i h
   rw[List.eraseIdx_of_length_le (by simpa using h)]
 rw[e0]
 exact⟨by rw[← ag1,g3,← ag1,← ag1],by rw[← ag1,g4]⟩
theorem S.deleteP{x y:Operand}{t kt kt' vt:TypeId}{id:Id}{r:Nat}{m:List (K×Int)}{k:K}[ht:TyD P t (.map kt vt)][hkt:TyD P kt d](hk:KeyT d fk)
  (hx:ev env x=some (.c (.map id))) (hy:ev env y=some (.c (.imm (.val (fk k))))) (hσ:σv[id]? =some (some (pmap r fk m))) (hd:f5 sz dst=true) (hσ':putF σv id (some (pmap r fk (mdel m k)))=some σ')
  (h:AOps P σ0 sz ops Q rest (St.mk (putE env dst (.tup [])) σ')):AOps P σ0 sz ops Q (⟨dst,.call ⟨.builtin .delete,#[x,y],#[t,kt']⟩,ty,pos,after,none⟩::rest) (St.mk env σv):=by
 have h2:=C9 hσ'
 subst h2
 refine .valueW rfl hd (.tup []) _ (fun Γ φ ac w hR=> ?_) h
 obtain⟨b,base,hp,e1⟩:=ao3 (h9 hR hx) hσ
 obtain⟨e2,_⟩:=H4 (h9 hR hy)
 obtain⟨b',o,us,g1,g2,⟨es,c,rfl,g3,g4⟩,g5⟩:=hR.st.blk _ _ hσ
 rw[hp] at g1;cases g1
 have hnil:∀w φ σ A,RelT w φ σ A (.tup []) (.tuple #[]):=fun w φ σ A=>RelT.tup' (vs:=[]) rfl (fun i t u hi=>by simp at hi)
 rcases ar5 hk k m es.toList 0 g3 with⟨q1,q2,_,q6⟩|⟨j,p,e,q0,q1,q3,q4,q2,_,q6⟩
 ·have hW:=Rs.writeB (q1:=R0 fk ((mdel m k).map (·.1))) (cs1:=(mdel m k).map fun p=>S8 r p.2) (us1:=us) (o1:=.map es c) hR.toRs hσ hp g2 ⟨_,_,rfl,by rw[q6];exact g3,g4⟩ (fun i x hx=>by rw[q6] at hx;exact g5 i x hx)
  refine⟨.tuple #[],_,φ,?_,hnil _ _ _ _,hR.of hW.1 hW.2⟩
  simp[execOp,resolve,invoke,builtin,e1,e2,Builtin.delete_,run_underlying ht.h,Go.MapKept.run_getObj_map g2,Go.MapKept.run_checkKey hkt.h (hk.key k),Go.MapKept.run_findKey hkt.h q2,Go.MapKept.run_setObj_map _ g2,Result.andThen]
 ·have he:=erase_rel (r:=r) (j:=j) g3 g4
  have hW:=Rs.writeB (q1:=R0 fk ((mdel m k).map (·.1))) (cs1:=(mdel m k).map fun p=>S8 r p.2) (us1:=us.eraseIdx j) (o1:=.map (es.eraseIdxIfInBounds j) c) hR.toRs hσ hp g2 ⟨_,_,rfl,by rw[q6];exact he.1,he.2⟩ (fun i x hx=>by
   rw[q6,← ag1,List.getElem?_eraseIdx] at hx
   rw[List.getElem?_eraseIdx]
   split at hx
   ·rename_i hlt
    obtain⟨u,h1,h2⟩:=g5 i x hx
    exact⟨u,by rw[if_pos hlt];exact h1,h2⟩
   ·rename_i hge
    obtain⟨u,h1,h2⟩:=g5 (i+1) x hx
    exact⟨u,by rw[if_neg hge];exact h1,h2⟩)
  refine⟨.tuple #[],_,φ,?_,hnil _ _ _ _,hR.of hW.1 hW.2⟩
  simp[execOp,resolve,invoke,builtin,e1,e2,Builtin.delete_,run_underlying ht.h,Go.MapKept.run_getObj_map g2,Go.MapKept.run_checkKey hkt.h (hk.key k),Go.MapKept.run_findKey hkt.h q2,Go.MapKept.run_setObj_map _ g2,Result.andThen]
end
/-! ### A view becomes a row of its own -/
theorem Sub.reownC{id:Id}{k j n:Nat}{es:List (List C)}{n':Id}{σ1:b6}(t:Nat)(hx:lookup t env=some (.c (.own id j n)))(hσ:σv[id]? =some (some (.cells k es)))(hjl:j+n≤es.length)(h0:Nat.ble σ0.length id.1=true)(hid:newF σv=some n')
  (h1:putF σv id none=some σ1) (hσ':x4 σ1 (.one (.cells k ((es.drop j).take n)))=some σ') (henv:ReE env t (.own n' 0 n) env'):Sub σ0 ⟨env,σv⟩ ⟨env',σ'⟩:=fun Γ sz φ a w hΓ hR=>by
 have h2:=C9 h1
 have h3:=B3 hid;have h4:=u5 hσ'
 have hvl:((es.drop j).take n).length=n:=by rw[List.length_take,List.length_drop];omega
 subst h2 h3 h4
 generalize hes:(es.drop j).take n=es' at *
 have at_new:(σv.put id none++[Ent.one (.cells k es')])[((σv.length,[]):Id)]? =some (some (.cells k es')):=by
  rw[b6.get_right (by simp)];simp[b6.at_eq,b6.at,Ent.sub]
 obtain⟨u0,hu0,hrel⟩:=hR.env t _ hx
 have ho:=D8 hrel hσ
 have fin:∀(φ':Phi) (hk:Kept w w φ φ' σv (σv.put id none++[.one (.cells k es')]) (Al Γ.N φ σv) (Al Γ.N φ' (σv.put id none++[.one (.cells k es')]))) (hs:Rs Γ (σv.put id none++[.one (.cells k es')]) φ' w) (hview:V0 w (φ' (σv.length,[])) k es'.length 0 n u0),
   R Γ sz ⟨env',σv.put id none++[.one (.cells k es')]⟩ φ' a w:=fun φ' hk hs hview=>by
  have hR1:=hR.of hk hs
  refine {toRs:=hs,defers:=hR1.defers,asize:=hR.asize,env:=fun t' v' ht'=> ?_}
  rcases henv.get t' v' ht' with⟨rfl,rfl⟩|h
  ·refine⟨u0,hu0,.c (.own (by simp) (by cases hrel with|c g2=>exact g2.one) fun k' es2 he=> ?_)⟩
   rw[at_new] at he
   cases he
   exact hview
  ·obtain⟨u1,g1,g2⟩:=hR1.env t' v' h
   exact⟨u1,g1,g2⟩
 rcases ho with⟨p1,p2,p3,p4⟩|⟨b,base,cap,arr,ety,ad,hp,hvv,had,hcap,hmax,hjn,hbk,hsz⟩
 ·have hnil:es'=[]:=List.eq_nil_of_length_eq_zero (by rw[hvl,p4])
  subst hnil
  have hK:=hR.toRs.kill id
  have hV:=hK.2.virt k
  rw[b6.length_put] at hV
  refine⟨fun i=>if i=(σv.length,[]) then none else φ i,?_⟩
  exact fin _ (Kept.trans (Nat.le_refl _) hK.1 hV.1) hV.2 (.inl ⟨by simp,p2,rfl,p4⟩)
 ·obtain⟨arr2,ety2,q1,q2,q3,q4⟩:=G1 hR hσ hp
  rw[hbk] at q1;cases q1
  have hO:=Rs.reown (k:=k) (base':=base+j * k) (es':=es') (arr':=arr) hR.toRs hσ hp hbk (fun i e he=>by
    rw[← hes,List.getElem?_take] at he
    split at he
    ·rw[List.getElem?_drop] at he
     exact q3 _ e he
    ·cases he) (by
    rw[hvl]
    have:(j+cap) * k=j * k+cap * k:=Nat.add_mul ..
    have:n * k≤cap * k:=Nat.mul_le_mul_right k hcap
    omega) (fun i e o x he hx=>by
    rw[← hes,List.getElem?_take] at he
    split at he
    ·rw[List.getElem?_drop] at he
     obtain⟨u2,g1,g2⟩:=q4 _ e o x he hx
     refine⟨u2,?_,g2⟩
     rw[← g1,Nat.add_mul]
     congr 1;omega
    ·cases he)
  rw[Go.setRow_self w b arr ety (0,0) hbk] at hO
  refine⟨fun i=>if i=(σv.length,[]) then some (b,base+j * k) else φ i,?_⟩
  refine fin _ hO.1 hO.2 (.inr ⟨b,base+j * k,cap,arr,ety,ad,by simp,hvv,fun hc=> ?_,hcap,hmax,by omega,hbk,?_⟩)
  ·rw[had hc,Nat.zero_mul,Nat.add_zero]
  ·have:(j+cap) * k=j * k+cap * k:=Nat.add_mul ..
   rw[Nat.zero_add];omega
theorem Sub.reownP{h r m:Nat}{l l':Li}{n':Id}{σ1:b6}{hi:Int}(t:Nat)(hl:subL l 0 hi=some l')(hx:lookup t env=some (.c (.own (h,[]) 0 m)))(hm:m=l'.length)(hσ:σv[((h,[]):Id)]? =some (some (prow r l)))(h0:Nat.ble σ0.length h=true)(hid:newF σv=some n')
  (h1:putF σv (h,[]) none=some σ1) (hσ':x4 σ1 (.one (prow r l'))=some σ') (henv:ReE env t (.own n' 0 m) env'):Sub σ0 ⟨env,σv⟩ ⟨env',σ'⟩:=by
 have hll:l'.length≤l.length∧l'=l.take l'.length:=by
  unfold subL at hl
  split at hl
  ·cases hl
   refine⟨by simp;omega,?_⟩
   simp
  ·cases hl
 have e:(prow r l')=.cells 1 (((l.map fun i=>[C.ptr (r,[i.toNat]) 0 0]).drop 0).take m):=by
  rw[List.drop_zero,← List.map_take,hm,← hll.2];rfl
 rw[e] at hσ'
 exact Sub.reownC t hx hσ (by simp;omega) h0 hid h1 hσ' henv
/-! ### Places told by their bounds alone -/
theorem s5{β:Type}{l:List β}{i:Int}{a:β}(h:ix l i=some a):0≤i∧i.toNat<l.length:=⟨(W6 h).1,f8 h⟩
theorem S.idxPb{x y:Operand}{t e:TypeId}{bytes n h r:Nat}{z:Value}{kk:IntKind}{i:Int}{l:Li}[ht:TyD P t (.slice e)][hs:TyS P e 1 bytes z]
  (hx:ev env x=some (.c (.own (h,[]) 0 n))) (hσ:σv[((h,[]):Id)]? =some (some (prow r l))) (hn:n=l.length) (hb:0≤i∧i.toNat<l.length) (hy:ev env y=some (.c (.imm (.val (.int kk i))))) (hd:f5 sz dst=true)
  (hh:AOps P σ0 sz ops Q rest (St.mk (putE env dst (.c (.ptr (h,[]) i.toNat 0))) σv)):AOps P σ0 sz ops Q (⟨dst,.indexAddr t x y,ty,pos,after,none⟩::rest) (St.mk env σv):=
 .indexAddrOwn hx hσ hy (by omega) hd (by rw[Nat.zero_add];exact hh)
theorem pool_ex{α:Type}{σ:b6}{r size:Nat}{f:α→List I}{E:List α}{i:Int}(h:σ[r]? =some (pool size f E))(hb:i.toNat<E.length):∃e:α,σ[((r,[i.toNat]):Id)]? =some (some (.cells size [(f e).map .imm])):=
 ⟨E[i.toNat],by rw[x6 h,au8 (List.getElem?_eq_getElem hb)];rfl⟩
theorem S.nilCheckE{α:Type}{size r o:Nat}{f:α→List I}{E:List α}{i:Int}{x:Operand}(hx:ev env x=some (.c (.ptr (r,[i.toNat]) 0 o)))(hσ:σv[r]? =some (pool size f E))(hb:i.toNat<E.length)(hd:f5 sz dst=true)
  (h:AOps P σ0 sz ops Q rest (St.mk (putE env dst (.c (.ptr (r,[i.toNat]) 0 o))) σv)):AOps P σ0 sz ops Q (⟨dst,.nilCheck x,ty,pos,after,none⟩::rest) (St.mk env σv):=by
 obtain⟨e,he⟩:=pool_ex hσ hb
 exact AOps.ai hx he hd h
theorem S.fieldE{α:Type}{size r g off ft size' bytes:Nat}{f:α→List I}{E:List α}{i:Int}{x:Operand}{t:TypeId}{z:Value}[hf:FieldC P t g off ft][hs:TyS P ft size' bytes z](hz:Nat.beq size' 0=false)
  (hx:ev env x=some (.c (.ptr (r,[i.toNat]) 0 0))) (hσ:σv[r]? =some (pool size f E)) (hb:i.toNat<E.length) (hd:f5 sz dst=true)
  (h:AOps P σ0 sz ops Q rest (St.mk (putE env dst (.c (.ptr (r,[i.toNat]) 0 off))) σv)):AOps P σ0 sz ops Q (⟨dst,.fieldAddr t x g,ty,pos,after,none⟩::rest) (St.mk env σv):=by
 obtain⟨e,he⟩:=pool_ex hσ hb
 exact W.fieldAddr hz hx he hd h
def ah1{A B:Type}(l:List A)(l':List B):Option Unit:=if l.length=l'.length then some () else none
theorem an1{A B:Type}{l:List A}{l':List B}{u:Unit}(h:ah1 l l'=some u):l.length=l'.length:=by
 unfold ah1 at h
 split at h
 ·assumption
 ·cases h
theorem Sub.virtP(r:Nat){b:Id}{n kb o:Nat}{cs cs':List C}{σ1:b6}(hb:σv[b]? =some (some (.cells kb [cs])))(hc:cs[o]? =some (.imm (.val (.slice none 0 0))))(hn:newF σv=some (n,[]))(h1:x4 σv (.one (prow r []))=some σ1)
  (hs:setF cs o (.own (n,[]) 0 ([]:Li).length)=some cs') (hσ':putF σ1 b (some (.cells kb [cs']))=some σ'):Sub σ0 ⟨env,σv⟩ ⟨env,σ'⟩:=
 Sub.virtB (α:=Int) 1 (fun _=>[]) hb hc hn h1 hs hσ'
theorem AWP.virtP{c:Code}(r:Nat){b:Id}{n kb o:Nat}{cs cs':List C}{σ1:b6}(hb:σv[b]? =some (some (.cells kb [cs])))(hc:cs[o]? =some (.imm (.val (.slice none 0 0))))(hn:newF σv=some (n,[]))(h1:x4 σv (.one (prow r []))=some σ1)
  (hs:setF cs o (.own (n,[]) 0 ([]:Li).length)=some cs') (hσ':putF σ1 b (some (.cells kb [cs']))=some σ') (h:AWP P σ0 sz c Q (St.mk env σ')):AWP P σ0 sz c Q (St.mk env σv):=AWP.sub (Sub.virtP r hb hc hn h1 hs hσ') h
end
end Ab
end
section
namespace Ab
open Go
section
variable {K α:Type} [DecidableEq K]
def posM:List (K×List α)→K→Nat
 |[],_=>0
 |p::r,k=>if k=p.1 then 0 else posM r k+1
def rowM(m:List (K×List α))(k:K):List α:=(mget m k).getD []
def rowC(r:Nat)(m:List (K×List α))(k:K):C:=match mget m k with
 |some row=>.own (r,[posM m k]) 0 row.length
 |none=>.imm (.val (.slice none 0 0))
theorem R4(k:K):∀m:List (K×List α),(mget m k=none∧posM m k=m.length∧∀v,mset m k v=m++[(k,v)])∨∃row,mget m k=some row∧m[posM m k]? =some (k,row)∧∀v,mset m k v=m.set (posM m k) (k,v)
 |[]=>.inl ⟨rfl,rfl,fun v=>rfl⟩
 |p::m=>by
  by_cases c:k=p.1
  ·exact .inr ⟨p.2,by simp[mget,c],by simp[posM,c],fun v=>by simp[mset,posM,c]⟩
  ·rcases R4 k m with⟨h1,h2,h3⟩|⟨row,h1,h2,h3⟩
   ·exact .inl ⟨by simp[mget,c,h1],by simp[posM,c,h2],fun v=>by simp[mset,c,h3]⟩
   ·exact .inr ⟨row,by simp[mget,c,h1],by simpa[posM,c] using h2,fun v=>by simp[mset,posM,c,h3]⟩
def O5(r:Nat)(m:List (K×List α)):List C:=m.mapIdx fun i p=>.own (r,[i]) 0 p.2.length
def mmap(r k:Nat)(fk:K→Value)(f:α→List I)(m:List (K×List α)):Ent:=.node (some (.obj (R0 fk (m.map (·.1))) (O5 r m))) (m.map fun p=>.one (vec k f p.2))
def mmapD(r k:Nat)(fk:K→Value)(f:α→List I)(m:List (K×List α))(key:K):Ent:=.node (some (.obj (R0 fk (m.map (·.1))) (O5 r m))) ((m.map fun p=>.one (vec k f p.2)).set (posM m key) .dead)
def al2(r:Nat)(m:List (K×List α))(key:K)(s n:Nat):List C:=if(mget m key).isSome=true then(O5 r m).set (posM m key) (.own (s,[]) 0 n) else O5 r m++[.own (s,[]) 0 n]
def mmapS(r k:Nat)(fk:K→Value)(f:α→List I)(m:List (K×List α))(key:K)(s n:Nat):Ent:=.node (some (.obj (R0 fk ((mset m key []).map (·.1))) (al2 r m key s n))) ((m.map fun p=>.one (vec k f p.2)).set (posM m key) .dead)
variable {fk:K→Value} {f:α→List I} {m:List (K×List α)} {r k:Nat}
theorem heads_len:(O5 r m).length=m.length:=by simp[O5]
theorem heads_get{i:Nat}{x:C}(h:(O5 r m)[i]? =some x):∃p,m[i]? =some p∧x=.own (r,[i]) 0 p.2.length:=by
 simp only[O5,List.getElem?_mapIdx,oM] at h
 obtain⟨p,h1,h2⟩:=h
 exact⟨p,h1,h2.symm⟩
theorem mm_sub{q:List Nat}{b:Blk}(h:(mmap r k fk f m).sub q=some b):(q=[]∧b=.obj (R0 fk (m.map (·.1))) (O5 r m))∨∃i p,q=[i]∧m[i]? =some p∧b=vec k f p.2:=by
 cases q with
 |nil=>exact .inl ⟨rfl,by simpa[mmap,Ent.sub] using h.symm⟩
 |cons i q=>
  simp only[mmap,Ent.sub,lM] at h
  cases hi:m[i]? with
  |none=>simp[hi] at h
  |some p=>
   rw[hi] at h
   cases q with
   |nil=>simp only[Option.map_some,Ent.sub,Option.some.injEq] at h;exact .inr ⟨i,p,rfl,hi,h.symm⟩
   |cons=>simp[Ent.sub] at h
theorem mm_main:(mmap r k fk f m).sub []=some (.obj (R0 fk (m.map (·.1))) (O5 r m)):=rfl
theorem mm_row{i:Nat}{p:K×List α}(h:m[i]? =some p):(mmap r k fk f m).sub [i]=some (vec k f p.2):=by simp[mmap,Ent.sub,h]
theorem heads_ok{n:Nat}(h:Nat.blt r n=true):C.okL n (O5 r m)=true:=by
 rw[M9,List.all_eq_true]
 intro x hx
 obtain⟨i,hi⟩:=List.getElem?_of_mem hx
 obtain⟨p,_,rfl⟩:=heads_get hi
 simpa[C.ok] using h
theorem heads_no{id:Id}(h:id.1 ≠ r):C.noL id (O5 r m)=true:=by
 rw[noL_eq,List.all_eq_true]
 intro x hx
 obtain⟨i,hi⟩:=List.getElem?_of_mem hx
 obtain⟨p,_,rfl⟩:=heads_get hi
 have:idb ((r,[i]):Id) id=false:=G6 (fun e=>h (by rw[← e]))
 simp[C.no,this]
theorem mm_ok{n:Nat}(h:Nat.blt r n=true):∀q b,(mmap r k fk f m).sub q=some b→b.ok n=true:=fun q b hb=>by
 rcases mm_sub hb with⟨_,rfl⟩|⟨i,p,_,_,rfl⟩
 ·simpa[Blk.ok] using heads_ok h
 ·exact N6
theorem mm_no{id:Id}(h:id.1 ≠ r):∀q b,(mmap r k fk f m).sub q=some b→b.no id=true:=fun q b hb=>by
 rcases mm_sub hb with⟨_,rfl⟩|⟨i,p,_,_,rfl⟩
 ·simpa[Blk.no] using heads_no h
 ·exact Blk.im_no _ _ _
theorem x9.mmap{id n:Id}{mx:Nat}{σ:b6}(h:Nat.beq id.1 r=false)(hr:Nat.blt r mx=true)(hσ:σ[r]? =some (Ab.mmap r k fk f m)):x9 id n σ mx r (Ab.mmap r k fk f m):=by
 have hne:id.1 ≠ r:=fun e=>by simp[e] at h
 show ∀(p:List Nat) (b:Blk),(Ab.mmap r k fk f m).sub p=some b→_
 intro p b hb
 have hm:mv id n (r,p)=(r,p):=by
  have:(r,p) ≠ id:=fun e=>hne (by rw[← e])
  simp[mv,G6 this]
 rw[hm,x6 hσ,hb]
 exact⟨mm_ok hr p b hb,by rw[Blk.ren_no _ (mm_no hne p b hb)]⟩
theorem av6{π:Id→Id}{r':Nat}(h:∀q,π (r,q)=(r',q)):C.renL π (O5 r m)=O5 r' m:=by
 have renL_get:∀(L:List C) (i:Nat),(C.renL π L)[i]? =(L[i]?).map (C.ren π):=fun L=>by
  induction L with
  |nil=>intro i;simp[C.renL]
  |cons x L ih=>intro i;cases i with
   |zero=>simp[C.renL]
   |succ i=>simpa[C.renL] using ih i
 apply List.ext_getElem?
 intro i
 rw[renL_get]
 simp only[O5,List.getElem?_mapIdx]
 cases m[i]? with
 |none=>rfl
 |some p=>simp[C.ren,h]
theorem EntR.mmap{r0 n mx i j:Nat}{σ:b6}(hj:(mvr r0 n (i,[])).1=j)(hr:Nat.blt i mx=true)(hσ:σ[j]? =some (Ab.mmap j k fk f m)):EntR r0 n σ mx i (Ab.mmap i k fk f m):=.any fun p b hb=>by
 have e:∀q,mvr r0 n (i,q)=(j,q):=fun q=>by rw[← hj];rfl
 rw[e,x6 hσ]
 refine⟨mm_ok hr p b hb,?_⟩
 rcases mm_sub hb with⟨rfl,rfl⟩|⟨q,p',rfl,hq,rfl⟩
 ·rw[mm_main]
  simp only[Blk.ren,av6 e]
 ·rw[mm_row hq,K9]
theorem RenE.mmap{r':Nat}{π:Id→Id}(h:∀q,π (r,q)=(r',q)):RenE π r (Ab.mmap r k fk f m) r' (Ab.mmap r' k fk f m):=.any (fun p b hb=>by
  rcases mm_sub hb with⟨rfl,rfl⟩|⟨q,p',rfl,hq,rfl⟩
  ·rw[mm_main];simp only[Blk.ren,av6 h]
  ·rw[mm_row hq,K9]) (fun p b hb=>by
  rcases mm_sub hb with⟨rfl,rfl⟩|⟨q,p',rfl,hq,rfl⟩
  ·exact⟨_,mm_main,by simp only[Blk.ren,av6 h]⟩
  ·exact⟨_,mm_row hq,K9.symm⟩)
theorem FrzB.mmap{id:Id}{X:C→C→Prop}(h:Nat.beq id.1 r=false):FrzB id X (Ab.mmap r k fk f m) (Ab.mmap r k fk f m):=by
 have hne:id.1 ≠ r:=fun e=>by simp[e] at h
 show _=_∧_
 exact⟨rfl,fun p b h=>mm_no hne p b h⟩
end
section
variable {P:Program} {σ0:b6} {sz:Nat} {Q:Post} {env env':Env} {σv σ':b6} {ops:Array Oper} {rest:List Oper} {dst:Option Nat} {ty:TypeId} {pos:String} {after:Array Edge}
variable {K α:Type} [DecidableEq K] {fk:K→Value} {d:TypeDesc} {f:α→List I} {m:List (K×List α)} {r k:Nat}
theorem find_pos(hk:KeyT d fk)(key:K):∀(m:List (K×List α)) (l:List MapEntry) (i:Nat),l.map (·.key)=(m.map (·.1)).map fk→
  (mget m key=none∧Instr.findNow d (fk key) l i=some none)∨∃row e,mget m key=some row∧m[posM m key]? =some (key,row)∧l[posM m key]? =some e∧e.key=fk key∧Instr.findNow d (fk key) l i=some (some (i+posM m key,e.val))
 |[],[],i,_=>.inl ⟨rfl,rfl⟩
 |[],_::_,i,h=>by simp at h
 |_::_,[],i,h=>by simp at h
 |p::m,e::l,i,h=>by
  simp only[List.map_cons,List.cons.injEq] at h
  obtain⟨h1,h3⟩:=h
  obtain⟨r,hr,hiff⟩:∃r,Instr.sameNow d (fk key) e.key=some r∧(r=true↔fk key=e.key):=Go.MapKept.sameNow_of_keys (hk.key key) (by rw[h1];exact hk.key p.1)
  by_cases c:key=p.1
  ·have:r=true:=hiff.2 (by rw[h1,c])
   subst this
   exact .inr ⟨p.2,e,by simp[mget,c],by simp[posM,c],by simp[posM,c],by rw[h1,c],by subst c;simp[Instr.findNow,hr,posM]⟩
  ·have:r=false:=by
    cases r with
    |false=>rfl
    |true=>exact absurd (hk.inj ((hiff.1 rfl).trans h1)) c
   subst this
   rcases find_pos hk key m l (i+1) h3 with⟨g1,g2⟩|⟨row,e',g1,g2,g3,g4,g5⟩
   ·exact .inl ⟨by simp[mget,c,g1],by simp[Instr.findNow,hr,g2]⟩
   ·exact .inr ⟨row,e',by simp[mget,c,g1],by simpa[posM,c] using g2,by simpa[posM,c] using g3,g4,by simp[Instr.findNow,hr,g5,posM,c];omega⟩
theorem mm_rowAt(h:σv[r]? =some (mmap r k fk f m)){key:K}{row:List α}(he:mget m key=some row):σv[((r,[posM m key]):Id)]? =some (some (vec k f row)):=by
 rcases R4 key m with⟨h1,_⟩|⟨row',h1,h2,_⟩
 ·rw[h1] at he;cases he
 ·rw[h1] at he;cases he
  rw[x6 h,mm_row h2]
theorem mm_get(h:σv[r]? =some (mmap r k fk f m)){key:K}{i:Int}{a:α}(ha:ix (rowM m key) i=some a):σv[((r,[posM m key]):Id)]? =some (some (vec k f (rowM m key))):=by
 unfold rowM at ha ⊢
 cases he:mget m key with
 |none=>rw[he] at ha;simp[ix] at ha
 |some row=>rw[Option.getD_some];exact mm_rowAt h he
theorem snocF_all{β:Type}:∀(l:List β) (x:β),x4 l x=some (l++[x])
 |[],x=>rfl
 |a::l,x=>by simp[x4,snocF_all l x]
theorem W.makeMapM{t:TypeId}(r k:Nat)(fk:K→Value)(f:α→List I)(hid:newF σv=some (r,[]))(hσ:x4 σv (mmap r k fk f ([]:List (K×List α)))=some σ')(hd:f5 sz dst=true)
  (h:AOps P σ0 sz ops Q rest (St.mk (putE env dst (.c (.map (r,[])))) σ')):AOps P σ0 sz ops Q (⟨dst,.makeMap t none,ty,pos,after,none⟩::rest) (St.mk env σv):=by
 have h2:=B3 hid;have h3:=u5 hσ
 cases h2
 subst h3
 have heq:∀i:Id,(σv++[Ent.one (pmap 0 fk ([]:List (K×Int)))])[i]? =(σv++[mmap σv.length k fk f ([]:List (K×List α))])[i]? :=fun i=>by
  rcases Nat.lt_or_ge i.1 σv.length with hl|hl
  ·rw[b6.get_left hl,b6.get_left hl]
  ·rw[b6.get_right hl,b6.get_right hl]
   obtain⟨i1,q⟩:=i
   rw[b6.at_eq,b6.at_eq]
   simp only[b6.at]
   cases i1 - σv.length with
   |zero=>cases q<;>rfl
   |succ m=>rfl
 exact W.makeMapP (K:=K) 0 fk hid (snocF_all _ _) hd (AOps.sub (Sub.same (by simp) heq) h)
theorem S.lookupM{x y:Operand}{t kt vt:TypeId}{r:Nat}{m:List (K×List α)}{key:K}{size bytes:Nat}{zv:Value}[ht:TyD P t (.map kt vt)][hkt:TyD P kt d][hs:TyS P vt size bytes zv](hk:KeyT d fk)(hz:zv=.slice none 0 0)
  (hx:ev env x=some (.c (.map (r,[])))) (hy:ev env y=some (.c (.imm (.val (fk key))))) (hσ:σv[r]? =some (mmap r k fk f m)) (hd:f5 sz dst=true)
  (h:AOps P σ0 sz ops Q rest (St.mk (putE env dst (.c (rowC r m key))) σv)):AOps P σ0 sz ops Q (⟨dst,.lookup t x y false,ty,pos,after,none⟩::rest) (St.mk env σv):=by
 refine .valueW rfl hd _ _ (fun Γ φ a w hR=> ?_) h
 have hmain:σv[((r,[]):Id)]? =some (some (.obj (R0 fk (m.map (·.1))) (O5 r m))):=by rw[x6 hσ];rfl
 obtain⟨b,base,hp,hv⟩:=ao3 (h9 hR hx) hmain
 obtain⟨hv2,_⟩:=H4 (h9 hR hy)
 obtain⟨b',o,us,g1,g2,⟨es,c,rfl,g3,g4⟩,g5⟩:=hR.st.blk _ _ hmain
 rw[hp] at g1;cases g1
 unfold rowC
 rcases find_pos hk key m es.toList 0 g3 with⟨q1,q2⟩|⟨row,e,q1,q0,q3,q4,q2⟩
 ·rw[q1]
  refine⟨.slice none 0 0,w,φ,?_,.c (.imm (.val rfl)),hR⟩
  simp[execOp,hv,hv2,Instr.lookup,run_underlying ht.h,Go.MapKept.run_getObj_map g2,Go.MapKept.run_checkKey hkt.h (hk.key key),Go.MapKept.run_findKey hkt.h q2,M4 (t:=vt),hz,Result.andThen]
 ·rw[q1]
  obtain⟨u,hu,hru⟩:=g5 (posM m key) (.own (r,[posM m key]) 0 row.length) (by simp[O5,List.getElem?_mapIdx,q0])
  have hue:u=e.val:=by
   rw[← g4,lM,q3] at hu
   simpa using hu.symm
  subst hue
  refine⟨e.val,w,φ,?_,.c hru,hR⟩
  simp[execOp,hv,hv2,Instr.lookup,run_underlying ht.h,Go.MapKept.run_getObj_map g2,Go.MapKept.run_checkKey hkt.h (hk.key key),Go.MapKept.run_findKey hkt.h q2,Result.andThen]
theorem S.appendMM{new l':List α}{x y:Operand}{t e:TypeId}{bytes:Nat}{n:Id}{z:Value}{v:T}{key:K}{σ1:b6}[ht:TyD P t (.slice e)][hs:TyS P e k bytes z]
  (ha:app bytes (rowM m key) new=some l') (hzk:(z.cells.size==k)=true) (hbp:Nat.blt 0 bytes=true) (hx:ev env x=some (.c (rowC r m key))) (hσ:σv[r]? =some (mmap r k fk f m)) (hy:ev env y=some v) (hsrc:SrcF σv k f v new) (hn:newF σv=some n) (h1:setF σv r (mmapD r k fk f m key)=some σ1) (hσ':x4 σ1 (.one (vec k f l'))=some σ') (hd:f5 sz dst=true)
  (h:AOps P σ0 sz ops Q rest (St.mk (putE env dst (.c (.own n 0 l'.length))) σ')):
  AOps P σ0 sz ops Q (⟨dst,.call ⟨.builtin .append,#[x,y],#[t,t]⟩,ty,pos,after,none⟩::rest) (St.mk env σv):=by
 obtain⟨hb,rfl⟩:=an6 ha
 have h2:=(V4 h1).1
 have h3:=B3 hn;have h4:=u5 hσ'
 subst h2 h3 h4
 unfold rowC at hx
 unfold rowM at hb h
 rcases R4 key m with⟨q1,q2,_⟩|⟨row,q1,q2,_⟩
 ·rw[q1] at hx
  rw[q1,Option.getD_none,List.nil_append] at h
  rw[q1,Option.getD_none] at hb
  refine AOps.appendNil (new:=(new.map f).map (·.map .imm)) hzk hbp hx hy hsrc.src (by simpa using hb) hd ?_
  rw[show((new.map f).map (·.map C.imm)).length=new.length by simp]
  refine AOps.sub (s':=⟨putE env dst (.c (.own (σv.length,[]) 0 new.length)),σv.set r (mmapD r k fk f m key)++[.one (vec k f new)]⟩) (Sub.same (by simp) fun i=> ?_) h
  have hset:∀i:Id,(σv.set r (mmapD r k fk f m key))[i]? =σv[i]? :=fun i=>by
   rw[set_ent hσ]
   split
   ·rename_i hi
    obtain⟨i1,q⟩:=i
    simp only at hi
    subst hi
    rw[x6 hσ]
    congr 1
    simp only[mmapD,mmap]
    rw[List.set_eq_of_length_le (by rw[q2];simp)]
   ·rfl
  rcases Nat.lt_or_ge i.1 σv.length with hl|hl
  ·rw[b6.get_left hl,b6.get_left (by simpa using hl),hset]
  ·rw[b6.get_right hl,b6.get_right (by simpa using hl),lS];rfl
 ·rw[q1] at hx
  rw[q1,Option.getD_some] at h
  rw[q1,Option.getD_some] at hb
  have hrow:=mm_rowAt hσ q1
  refine AOps.append (new:=(new.map f).map (·.map .imm)) hzk hbp hx hrow hy hsrc.src (by simpa using hb) hd ?_
  have e1:(((((row.map f).map (·.map C.imm)).drop 0).take row.length)++(new.map f).map (·.map C.imm))=((row++new).map f).map (·.map C.imm):=by
   rw[List.drop_zero,List.take_of_length_le (by simp)];simp
  have e2:row.length+((new.map f).map (·.map C.imm)).length=(row++new).length:=by simp
  rw[e1,e2]
  refine AOps.sub (s':=⟨putE env dst (.c (.own (σv.length,[]) 0 (row++new).length)),σv.set r (mmapD r k fk f m key)++[.one (vec k f (row++new))]⟩) (Sub.same (by simp) fun i=> ?_) h
  have hput:∀i:Id,(σv.put (r,[posM m key]) none)[i]? =(σv.set r (mmapD r k fk f m key))[i]? :=fun i=>by
   rw[set_ent hσ]
   by_cases hi:i=(r,[posM m key])
   ·subst hi
    rw[b6.get_put_eq hrow,if_pos rfl]
    have:=(lG.1 q2).1
    simp[mmapD,Ent.sub,this]
   ·rw[b6.get_put_ne hi]
    by_cases hr:i.1=r
    ·obtain⟨i1,q⟩:=i
     simp only at hr
     subst hr
     rw[if_pos rfl,x6 hσ]
     congr 1
     cases q with
     |nil=>rfl
     |cons a q=>
      simp only[mmap,mmapD,Ent.sub,List.getElem?_set,List.length_map,lM]
      by_cases hap:posM m key=a
      ·subst hap
       cases q with
       |nil=>exact absurd rfl hi
       |cons b q=>
        rw[if_pos rfl,if_pos (lG.1 q2).1,q2]
        rfl
      ·rw[if_neg hap]
    ·rw[if_neg hr]
  rcases Nat.lt_or_ge i.1 σv.length with hl|hl
  ·rw[b6.get_left (by simpa using hl),b6.get_left (by simpa using hl),hput]
  ·rw[b6.get_right (by simpa using hl),b6.get_right (by simpa using hl),b6.length_put,lS];rfl
theorem S.updateMM{x y v:Operand}{t kt vt:TypeId}{s n:Nat}{key:K}[ht:TyD P t (.map kt vt)][hkt:TyD P kt d](hk:KeyT d fk)
  (hx:ev env x=some (.c (.map (r,[])))) (hy:ev env y=some (.c (.imm (.val (fk key))))) (hv:ev env v=some (.c (.own (s,[]) 0 n))) (hσ:σv[r]? =some (mmapD r k fk f m key)) (hσ':setF σv r (mmapS r k fk f m key s n)=some σ')
  (h:AOps P σ0 sz ops Q rest (St.mk env σ')):AOps P σ0 sz ops Q (⟨none,.mapUpdate t x y v,ty,pos,after,none⟩::rest) (St.mk env σv):=by
 have hset:=V4 hσ'
 have hmain:σv[((r,[]):Id)]? =some (some (.obj (R0 fk (m.map (·.1))) (O5 r m))):=by rw[x6 hσ];rfl
 refine .skipW rfl rfl (σv.put (r,[]) (some (.obj (R0 fk ((mset m key []).map (·.1))) (al2 r m key s n)))) (fun Γ φ ac w hR=> ?_) (AOps.sub (s':=⟨env,σ'⟩) (Sub.same (by rw[hset.1];simp) fun i=> ?_) h)
 ·obtain⟨b,base,hp,e1⟩:=ao3 (h9 hR hx) hmain
  obtain⟨e2,_⟩:=H4 (h9 hR hy)
  have hrv:=h9 hR hv
  generalize e3:ac.eval v=u at hrv
  have hru:RelC w φ σv (Al Γ.N φ σv) (.own (s,[]) 0 n) u:=by cases hrv with|c h=>exact h
  obtain⟨b',o,us,g1,g2,⟨es,c,rfl,g3,g4⟩,g5⟩:=hR.st.blk _ _ hmain
  rw[hp] at g1;cases g1
  have hlu:us.length=m.length:=by rw[← g4];have:=congrArg List.length g3;simpa using this
  rcases find_pos hk key m es.toList 0 g3 with⟨q1,q2⟩|⟨row,e,q1,q0,q3,q4,q2⟩
  ·have hms:mset m key ([]:List α)=m++[(key,[])]:=by
    rcases R4 key m with⟨_,_,h3⟩|⟨row,h1,_⟩
    ·exact h3 _
    ·rw[q1] at h1;cases h1
   have hW:=Rs.writeB (q1:=R0 fk ((mset m key []).map (·.1))) (cs1:=al2 r m key s n) (us1:=us++[u]) (o1:=.map (es.push {key:=fk key,val:=u,born:=c}) (c+1)) hR.toRs hmain hp g2
    ⟨_,_,rfl,by rw[hms];simp[g3],by simp[g4]⟩ (fun i x hx=>by
     simp only[al2,q1,Option.isSome_none,Bool.false_eq_true,if_false] at hx
     rw[List.getElem?_append] at hx
     split at hx
     ·obtain⟨u',h1,h2⟩:=g5 i x hx
      exact⟨u',by rw[List.getElem?_append_left (lG.1 h1).1];exact h1,h2⟩
     ·rename_i hge
      rw[heads_len] at hx hge
      have h0:i=m.length:=by
       have:=(lG.1 hx).1
       simp at this;omega
      subst h0
      simp at hx
      subst hx
      exact⟨u,by rw[← hlu];simp,hru⟩)
   refine⟨_,φ,?_,hR.of hW.1 hW.2⟩
   simp[execOp,e1,e2,e3,Instr.mapUpdate,run_underlying ht.h,Go.MapKept.run_getObj_map g2,Go.MapKept.run_checkKey hkt.h (hk.key key),Go.MapKept.run_findKey hkt.h q2,Go.MapKept.run_setObj_map _ g2,Result.andThen]
  ·have hms:mset m key ([]:List α)=m.set (posM m key) (key,[]):=by
    rcases R4 key m with⟨h1,_⟩|⟨row,_,_,h3⟩
    ·rw[q1] at h1;cases h1
    ·exact h3 _
   have hj:es[posM m key]? =some e:=by simpa using q3
   have hlt:=(lG.1 q0).1
   have hW:=Rs.writeB (q1:=R0 fk ((mset m key []).map (·.1))) (cs1:=al2 r m key s n) (us1:=us.set (posM m key) u) (o1:=.map (es.modify (posM m key) fun e=>{e with key:=fk key,val:=u}) c) hR.toRs hmain hp g2
    ⟨_,_,rfl,by
     rw[hms,Array.toList_modify]
     apply List.ext_getElem?
     intro i
     have hg:=congrArg (fun l=>l[i]?) g3
     simp only[lM,List.getElem?_modify,List.getElem?_set] at hg ⊢
     by_cases hi:posM m key=i
     ·subst hi
      simp[q3,hlt]
     ·simpa[hi] using hg,by
     rw[Array.toList_modify]
     apply List.ext_getElem?
     intro i
     have hg:=congrArg (fun l=>l[i]?) g4
     simp only[lM,List.getElem?_modify,List.getElem?_set] at hg ⊢
     by_cases hi:posM m key=i
     ·subst hi
      simp[q3,hlu,hlt]
     ·simpa[hi] using hg⟩ (fun i x hx=>by
     simp only[al2,q1,Option.isSome_some,if_true] at hx
     rw[List.getElem?_set] at hx
     by_cases hi:posM m key=i
     ·subst hi
      simp[heads_len,hlt] at hx
      subst hx
      exact⟨u,by simp[hlu,hlt],hru⟩
     ·rw[if_neg hi] at hx
      obtain⟨u',h1,h2⟩:=g5 i x hx
      exact⟨u',by rw[List.getElem?_set,if_neg hi];exact h1,h2⟩)
   refine⟨_,φ,?_,hR.of hW.1 hW.2⟩
   simp[execOp,e1,e2,e3,Instr.mapUpdate,run_underlying ht.h,Go.MapKept.run_getObj_map g2,Go.MapKept.run_checkKey hkt.h (hk.key key),Go.MapKept.run_findKey hkt.h q2,hj,q4,Go.MapKept.run_keyThatStays (hk.key key),Go.MapKept.run_setObj_map _ g2,Result.andThen]
 ·rw[setF_at hσ hσ']
  by_cases hi:i=(r,[])
  ·subst hi
   rw[b6.get_put_eq hmain,if_pos rfl];rfl
  ·rw[b6.get_put_ne hi]
   by_cases hr:i.1=r
   ·obtain⟨i1,q⟩:=i
    simp only at hr
    subst hr
    rw[if_pos rfl,x6 hσ]
    cases q with
    |nil=>exact absurd rfl hi
    |cons a q=>rfl
   ·rw[if_neg hr]
theorem x9.putMM{l:List α}{mx s n:Nat}{key:K}{σ:b6}(hr:Nat.blt r mx=true)(hσ:σ[r]? =some (mmapS r k fk f m key s n))(hn:n=l.length)(hs:σ[((s,[]):Id)]? =some (some (vec k f l))):x9 (r,[posM m key]) (s,[]) σ mx r (Ab.mmap r k fk f (mset m key l)):=by
 subst hn
 have hlt:∀q,q ≠ posM m key→mv (r,[posM m key]) (s,[]) (r,[q])=(r,[q]):=fun q hq=>by
  have:((r,[q]):Id) ≠ (r,[posM m key]):=fun e=>by cases e;exact hq rfl
  simp[mv,G6 this]
 have hself:mv (r,[posM m key]) (s,[]) (r,[posM m key])=(s,[]):=by simp[mv,L5.2 rfl]
 have hroot:mv (r,[posM m key]) (s,[]) (r,[])=(r,[]):=ai8
 show ∀(p:List Nat) (b:Blk),(Ab.mmap r k fk f (mset m key l)).sub p=some b→_
 intro p b hb
 refine⟨mm_ok hr p b hb,?_⟩
 rcases mm_sub hb with⟨rfl,rfl⟩|⟨i,p',rfl,hi,rfl⟩
 ·rw[hroot,x6 hσ]
  show some (some (Blk.obj (R0 fk ((mset m key []).map (·.1))) (al2 r m key s l.length)))=_
  congr 2
  simp only[Blk.ren]
  have hkeys:(mset m key l).map (·.1)=(mset m key []).map (·.1):=by
   rcases R4 key m with⟨_,_,h3⟩|⟨_,_,_,h3⟩
   ·rw[h3,h3];simp
   ·rw[h3,h3];simp[List.map_set]
  rw[hkeys]
  congr 1
  have renL_get:∀(L:List C) (i:Nat),(C.renL (mv (r,[posM m key]) (s,[])) L)[i]? =(L[i]?).map (C.ren (mv (r,[posM m key]) (s,[]))):=fun L=>by
   induction L with
   |nil=>intro i;simp[C.renL]
   |cons x L ih=>intro i;cases i with
    |zero=>simp[C.renL]
    |succ i=>simpa[C.renL] using ih i
  apply List.ext_getElem?
  intro i
  rw[renL_get]
  simp only[al2,O5]
  rcases R4 key m with⟨h1,h2,h3⟩|⟨row,h1,h2,h3⟩
  ·rw[h1,h3]
   simp only[Option.isSome_none,Bool.false_eq_true,if_false,List.mapIdx_append,List.length_map]
   rcases Nat.lt_or_ge i m.length with hl|hl
   ·rw[List.getElem?_append_left (by simpa using hl),List.getElem?_append_left (by simpa using hl),List.getElem?_mapIdx]
    cases hm:m[i]? with
    |none=>rfl
    |some p=>simp[C.ren,hlt i (by omega)]
   ·rw[List.getElem?_append_right (by simpa using hl),List.getElem?_append_right (by simpa using hl)]
    simp only[List.length_mapIdx]
    cases hd:i - m.length with
    |zero=>
     have:i=m.length:=by omega
     simp[C.ren,h2,mv,L5.2 rfl]
    |succ j=>simp
  ·have hl:=(lG.1 h2).1
   rw[h1,h3]
   simp only[Option.isSome_some,if_true]
   by_cases hi:posM m key=i
   ·subst hi
    simp[List.getElem?_mapIdx,List.getElem?_set,hl,C.ren,hself]
   ·rw[List.getElem?_set,if_neg hi,List.getElem?_mapIdx,List.getElem?_mapIdx,List.getElem?_set,if_neg hi]
    cases hm:m[i]? with
    |none=>rfl
    |some p=>simp[C.ren,hlt i (fun e=>hi e.symm)]
 ·rw[K9]
  rcases R4 key m with⟨h1,h2,h3⟩|⟨row,h1,h2,h3⟩
  ·rw[h3,List.getElem?_append] at hi
   split at hi
   ·rename_i hl
    rw[hlt i (by omega),x6 hσ]
    simp only[mmapS,Ent.sub,List.getElem?_set,lM]
    rw[if_neg (by omega),hi];rfl
   ·rename_i hl
    have:i=m.length:=by
     have:=(lG.1 hi).1
     simp at this;omega
    subst this
    simp at hi
    subst hi
    rw[← h2,hself,hs]
  ·have hl:=(lG.1 h2).1
   rw[h3,List.getElem?_set] at hi
   by_cases e:posM m key=i
   ·subst e
    rw[if_pos rfl,if_pos hl] at hi
    cases hi
    rw[hself,hs]
   ·rw[if_neg e] at hi
    rw[hlt i (fun x=>e x.symm),x6 hσ]
    simp only[mmapS,Ent.sub,List.getElem?_set,lM]
    rw[if_neg e,hi];rfl
theorem S.lenMM{x:Operand}{t e:TypeId}{key:K}[ht:TyD P t (.slice e)](hx:ev env x=some (.c (rowC r m key)))(hσ:σv[r]? =some (mmap r k fk f m))(hd:f5 sz dst=true)
  (h:(rowM m key).length≤9223372036854775807→AOps P σ0 sz ops Q rest (St.mk (putE env dst (.c (int ((rowM m key).length:Int)))) σv)):AOps P σ0 sz ops Q (⟨dst,.call ⟨.builtin .len,#[x],#[t]⟩,ty,pos,after,none⟩::rest) (St.mk env σv):=by
 unfold rowC at hx
 unfold rowM at h
 rcases R4 key m with⟨q1,_⟩|⟨row,q1,_⟩
 ·rw[q1] at hx
  rw[q1] at h
  exact AOps.lenNil hx hd (h (by simp))
 ·rw[q1] at hx
  rw[q1] at h
  exact AOps.lenOwnB hx (mm_rowAt hσ q1) hd h
theorem aj0{n:Nat}{key:K}(h:Nat.blt r n=true):(T.c (rowC r m key)).ok n=true:=by
 simp only[T.ok]
 unfold rowC
 split
 ·simpa[C.ok] using h
 ·rfl
theorem rowC_mv{π:Id→Id}{o:Option T}{key:K}(hπ:∀i,π (r,[i])=(r,[i]))(e:o=some (.c (rowC r m key))):o=some ((T.c (rowC r m key)).ren π):=by
 rw[e]
 unfold rowC
 split
 ·simp only[T.ren,C.ren,hπ]
 ·rfl
theorem S.idxMM{x y:Operand}{t e:TypeId}{bytes:Nat}{z:Value}{kk:IntKind}{i:Int}{a:α}{key:K}[ht:TyD P t (.slice e)][hs:TyS P e k bytes z]
  (ha:ix (rowM m key) i=some a) (hx:ev env x=some (.c (rowC r m key))) (hσ:σv[r]? =some (mmap r k fk f m)) (hy:ev env y=some (.c (.imm (.val (.int kk i))))) (hd:f5 sz dst=true)
  (h:AOps P σ0 sz ops Q rest (St.mk (putE env dst (.c (.ptr (r,[posM m key]) i.toNat 0))) σv)):AOps P σ0 sz ops Q (⟨dst,.indexAddr t x y,ty,pos,after,none⟩::rest) (St.mk env σv):=by
 have hrow:=mm_get hσ ha
 unfold rowC at hx
 unfold rowM at ha hrow
 cases he:mget m key with
 |none=>rw[he] at ha;simp[ix] at ha
 |some row=>
  rw[he] at hx ha hrow
  simp only[Option.getD_some] at ha hrow
  exact .indexAddrOwn hx hrow hy (by have:=W6 ha;have:=f8 ha;omega) hd (by rw[Nat.zero_add];exact h)
end
end Ab
end
section
namespace Ab
open Go
section
variable {P:Program} {σ0:b6} {sz:Nat} {Q:Post} {env:Env} {σv σ':b6} {ops:Array Oper} {rest:List Oper} {dst:Option Nat} {ty:TypeId} {pos:String} {after:Array Edge}
theorem AOps.eqlNil{x y:Operand}{t t' e:TypeId}{k:Nat}{es:List (List I)}[ht:TyD P t (.slice e)](hx:ev env x=some (.c (.imm (.sl k es))))(hy:ev env y=some (.c (.imm (.val (.slice none 0 0)))))(hd:f5 sz dst=true)
  (h1:es=[]→AOps P σ0 sz ops Q rest (St.mk (putE env dst (.c (bool true))) σv)) (h2:AOps P σ0 sz ops Q rest (St.mk (putE env dst (.c (bool false))) σv)):
  AOps P σ0 sz ops Q (⟨dst,.binOp .eql t x y t',ty,pos,after,none⟩::rest) (St.mk env σv):=fun Γ φ a w hΓ hR ro=>by
  have hrel:=h9 hR hx
  have hyv:=C8 hR hy
  generalize hu:a.eval x=u at hrel
  cases hrel with|c hrel=>cases hrel with|imm hrel=>
  cases hrel with
  |slNil=>
   have hg:(eqGuard .eql t x y (.slice none 0 0) (.slice none 0 0)).run P w=.ok () w:=rfl
   have hr:(binOp .eql t (.slice none 0 0) (.slice none 0 0)).run P w=.ok (.bool true) w:=by
    show(do pure (Value.bool (← Op.equal t (.slice none 0 0) (.slice none 0 0)))).run P w=_
    simp[run_equal_slice_nil w t e none 0 0 ht.h]
   have hrun:(execOp a.eval ⟨dst,.binOp .eql t x y t',ty,pos,after,none⟩).run P w=.ok (.value (.bool true)) w:=by
    simp[execOp,hu,hyv,hg,hr]
   exact U7 rfl (val_in hrun (h1 rfl Γ φ _ w hΓ (hR.put hd (.c (.imm (.val rfl)))) ro))
  |@sl _ _ ad cap us _ _ _ _ _=>
   have hg:(eqGuard .eql t x y (.slice (some ad) es.length cap) (.slice none 0 0)).run P w=.ok () w:=rfl
   have hr:(binOp .eql t (.slice (some ad) es.length cap) (.slice none 0 0)).run P w=.ok (.bool false) w:=by
    show(do pure (Value.bool (← Op.equal t (.slice (some ad) es.length cap) (.slice none 0 0)))).run P w=_
    simp[run_equal_slice_nil w t e (some ad) es.length cap ht.h]
   have hrun:(execOp a.eval ⟨dst,.binOp .eql t x y t',ty,pos,after,none⟩).run P w=.ok (.value (.bool false)) w:=by
    simp[execOp,hu,hyv,hg,hr]
   exact U7 rfl (val_in hrun (h2 Γ φ _ w hΓ (hR.put hd (.c (.imm (.val rfl)))) ro))
end
end Ab
end
section
namespace Ab
open Go Go.Proofs
open Tryz
def q9(s:Li):Option Li:=app 8 [] s
theorem m8{s r:Li}(h:q9 s=some r):r8 prog 27 [.c (row 1 intI s)] 1 (List.map intI r):=by
 unfold q9 at h
 unfold r8
 refine FnOk.enter (rs:=[.t 2]) func27 rfl ntmps27 results27 rfl ⟨trivial,trivial⟩ (by kernel_rfl) rfl ?_
 refine AWP.q ?_
 refine AWP.z ?_
 refine AOps.u rfl rfl ?_
 refine AOps.nil ?_
 refine b5 ?_
 refine AWP.q ?_
 refine AWP.q ?_
 refine AWP.z ?_
 refine AOps.j rfl rfl ?_
 refine AOps.eqlNil rfl rfl rfl (fun he=> ?_) ?_
 ·have hs:s=[]:=by simpa using he
  subst hs
  have hr:r=[]:=by
   have:=an6 h
   simpa using this.2
  subst hr
  refine AOps.nil ?_
  refine b5 ?_
  refine AWP.condT rfl ?_
  refine AWP.q ?_
  refine AWP.z ?_
  refine AOps.u rfl rfl ?_
  refine AOps.nil ?_
  refine b5 ?_
  refine AWP.virtV 1 intI 2 rfl rfl rfl ?_
  refine AWP.ret ?_
  refine e7 ?_
  exact Done.ret rfl (Fresh.mk rfl rfl)
 ·refine AOps.nil ?_
  refine b5 ?_
  refine AWP.condF rfl ?_
  refine AWP.skip ?_
  refine b5 ?_
  refine AWP.q ?_
  refine AWP.z ?_
  refine S.lit (f:=intI) (l:=[]) (ess:=[]) rfl rfl rfl rfl rfl rfl rfl trivial rfl rfl rfl ?_
  refine AOps.j rfl rfl ?_
  refine S.append (f:=intI) h rfl rfl rfl rfl rfl rfl .row rfl rfl rfl rfl ?_
  refine AOps.u rfl rfl ?_
  refine AOps.nil ?_
  refine b5 ?_
  refine AWP.ret ?_
  exact Done.ret rfl (Fresh.mk rfl rfl)
end Ab
end
section
namespace Ab
open Go Go.Proofs
open Tryz
abbrev rowI(l:Li):List I:=[.sl 1 (l.map intI)]
def G2(s:LL):Option (LL):=app 24 [] s
theorem aq0{s r:LL}(h:G2 s=some r):r8 prog 98 [.c (row 1 rowI s)] 1 (List.map rowI r):=by
 unfold G2 at h
 unfold r8
 refine FnOk.enter (rs:=[.t 2]) func98 rfl ntmps98 results98 rfl ⟨trivial,trivial⟩ (by kernel_rfl) rfl ?_
 refine AWP.q ?_
 refine AWP.z ?_
 refine AOps.u rfl rfl ?_
 refine AOps.nil ?_
 refine b5 ?_
 refine AWP.q ?_
 refine AWP.q ?_
 refine AWP.z ?_
 refine AOps.j rfl rfl ?_
 refine AOps.eqlNil rfl rfl rfl (fun he=> ?_) ?_
 ·have hs:s=[]:=by simpa using he
  subst hs
  have hr:r=[]:=by
   have:=an6 h
   simpa using this.2
  subst hr
  refine AOps.nil ?_
  refine b5 ?_
  refine AWP.condT rfl ?_
  refine AWP.q ?_
  refine AWP.z ?_
  refine AOps.u rfl rfl ?_
  refine AOps.nil ?_
  refine b5 ?_
  refine AWP.virtV 1 rowI 2 rfl rfl rfl ?_
  refine AWP.ret ?_
  refine e7 ?_
  exact Done.ret rfl (Fresh.mk rfl rfl)
 ·refine AOps.nil ?_
  refine b5 ?_
  refine AWP.condF rfl ?_
  refine AWP.skip ?_
  refine b5 ?_
  refine AWP.q ?_
  refine AWP.z ?_
  refine S.lit (f:=rowI) (l:=[]) (ess:=[]) rfl rfl rfl rfl rfl rfl rfl trivial rfl rfl rfl ?_
  refine AOps.j rfl rfl ?_
  refine S.append (f:=rowI) h rfl rfl rfl rfl rfl rfl .row rfl rfl rfl rfl ?_
  refine AOps.u rfl rfl ?_
  refine AOps.nil ?_
  refine b5 ?_
  refine AWP.ret ?_
  exact Done.ret rfl (Fresh.mk rfl rfl)
end Ab
end
section
namespace Ab
open Go Go.Proofs
open Tryz
set_option maxHeartbeats 4000000
attribute [local irreducible] AWP AOps thn inB Done e8 r8 Sub
abbrev u64(n:Int):C:=.imm (.val (.int .u64 n))
theorem and32(n:Nat)(hn:n≤4294967295):Go.bits .and .u64 (n:Int) 4294967295=n:=by
 have h:=bits_and_u64_nat n 4294967295 (by omega) (by omega)
 rw[show(4294967295:Nat)=2 ^ 32 - 1 from rfl,Nat.and_two_pow_sub_one_eq_mod] at h
 rw[show((4294967295:Int))=((2 ^ 32 - 1:Nat):Int) from rfl,h]
 omega
theorem small_facts(n:Nat)(hn:n≤4294967295):Go.bits .and .u64 (n:Int) 4294967295=n∧Int.fdiv (n:Int) (2 ^ (min (32:Int).toNat (IntKind.bits .u64)))=0∧IntKind.u64.wrap (1 * (n:Int))=n∧IntKind.u64.wrap (0 * (n:Int))=0:=by
 refine⟨and32 n hn,?_,?_,?_⟩
 ·show Int.fdiv (n:Int) 4294967296=0
  rw[Int.fdiv_eq_ediv_of_nonneg _ (by omega)];omega
 ·simp only[IntKind.wrap,IntKind.bits,IntKind.signed,Bool.false_and];simp;omega
 ·simp[IntKind.wrap,IntKind.bits,IntKind.signed]
theorem l8(n:Nat)(hn:n≤4294967295):e8 prog 123 [.c (u64 1),.c (u64 n)] (.tup [.c (u64 0),.c (u64 n)]):=by
 obtain⟨f1,f2,f3,f4⟩:=small_facts n hn
 unfold e8
 refine FnOk.enter (rs:=[.t 4,.t 5]) func123 rfl ntmps123 results123 rfl ⟨trivial,trivial,trivial⟩ (by kernel_rfl) rfl ?_
 repeat (first|refine AOps.j rfl rfl ?_|refine AOps.u rfl rfl ?_|refine AOps.nil ?_|refine AWP.q ?_|refine AWP.z ?_|refine b5 ?_|refine AOps.andE (c:=(n:Int)) rfl rfl rfl f1 ?_|refine AOps.andE (c:=1) rfl rfl rfl (by decide) ?_|refine AOps.andE (c:=0) rfl rfl rfl (by decide) ?_|refine AOps.shr (c:=0) rfl rfl rfl (by decide) (by first|exact f2|decide) ?_|refine AOps.mulE (c:=(n:Int)) rfl rfl rfl f3 ?_|refine AOps.mulE (c:=0) rfl rfl rfl (by first|exact f4|decide) ?_|refine AOps.addE (c:=0) rfl rfl rfl (by decide) ?_)
 repeat (first|refine AWP.q ?_|refine AWP.ret ?_|refine e7 ?_|refine i8 ?_|refine AWP.skip ?_|refine b5 ?_|refine d6 ?_|refine AWP.exit ?_|refine d8 ?_|refine g8 ?_|refine K1 rfl ?_)
 exact Done.ret rfl rfl
theorem q8(n:Nat)(hn:n≤4294967295):e8 prog 94 [.c (u64 1),.c (u64 n)] (.tup [.c (u64 0),.c (u64 n)]):=by
 unfold e8
 refine FnOk.enter (rs:=[.t 4,.t 5]) func94 rfl ntmps94 results94 rfl ⟨trivial,trivial,trivial⟩ (by kernel_rfl) rfl ?_
 repeat (first|refine AWP.q ?_|refine AWP.O ?_|refine AWP.skip ?_|refine b5 ?_|refine d6 ?_|refine AWP.condT rfl ?_|refine AWP.condF rfl ?_)
 refine AWP.z ?_
 refine AOps.u rfl rfl ?_
 refine AOps.u rfl rfl ?_
 refine AOps.nil ?_
 repeat (first|refine b5 ?_|refine d6 ?_)
 repeat (first|refine AWP.q ?_|refine AWP.O ?_|refine AWP.skip ?_|refine b5 ?_|refine d6 ?_|refine AWP.condT rfl ?_|refine AWP.condF rfl ?_)
 refine AWP.z ?_
 refine AOps.j rfl rfl ?_
 refine AOps.j rfl rfl ?_
 first|refine AOps.U rfl rfl rfl rfl (l8 n hn) rfl ?_|refine AOps.U rfl rfl rfl rfl (l8 n hn) rfl ?_|refine AOps.U rfl rfl rfl rfl (l8 n hn) rfl ?_|refine AOps.U rfl rfl rfl rfl (l8 n hn) rfl ?_|refine AOps.U rfl rfl rfl rfl (l8 n hn) rfl ?_|refine AOps.U rfl rfl rfl rfl (l8 n hn) rfl ?_|refine AOps.U rfl rfl rfl rfl (l8 n hn) rfl ?_|refine AOps.U rfl rfl rfl rfl (l8 n hn) rfl ?_|refine AOps.U rfl rfl rfl rfl (l8 n hn) rfl ?_|refine AOps.U rfl rfl rfl rfl (l8 n hn) rfl ?_|refine AOps.U rfl rfl rfl rfl (l8 n hn) rfl ?_|refine AOps.U rfl rfl rfl rfl (l8 n hn) rfl ?_|refine AOps.U rfl rfl rfl rfl (l8 n hn) rfl ?_|refine AOps.U rfl rfl rfl rfl (l8 n hn) rfl ?_|refine AOps.U rfl rfl rfl rfl (l8 n hn) rfl ?_|refine AOps.U rfl rfl rfl rfl (l8 n hn) rfl ?_|refine AOps.U rfl rfl rfl rfl (l8 n hn) rfl ?_|refine AOps.U rfl rfl rfl rfl (l8 n hn) rfl ?_|refine AOps.U rfl rfl rfl rfl (l8 n hn) rfl ?_|refine AOps.U rfl rfl rfl rfl (l8 n hn) rfl ?_|refine AOps.U rfl rfl rfl rfl (l8 n hn) rfl ?_|refine AOps.U rfl rfl rfl rfl (l8 n hn) rfl ?_|refine AOps.U rfl rfl rfl rfl (l8 n hn) rfl ?_|refine AOps.U rfl rfl rfl rfl (l8 n hn) rfl ?_|refine AOps.U rfl rfl rfl rfl (l8 n hn) rfl ?_|refine AOps.U rfl rfl rfl rfl (l8 n hn) rfl ?_|refine AOps.U rfl rfl rfl rfl (l8 n hn) rfl ?_|refine AOps.U rfl rfl rfl rfl (l8 n hn) rfl ?_|refine AOps.U rfl rfl rfl rfl (l8 n hn) rfl ?_|refine AOps.U rfl rfl rfl rfl (l8 n hn) rfl ?_|refine AOps.U rfl rfl rfl rfl (l8 n hn) rfl ?_|refine AOps.U rfl rfl rfl rfl (l8 n hn) rfl ?_|refine AOps.U rfl rfl rfl rfl (l8 n hn) rfl ?_|refine AOps.U rfl rfl rfl rfl (l8 n hn) rfl ?_|refine AOps.U rfl rfl rfl rfl (l8 n hn) rfl ?_|refine AOps.U rfl rfl rfl rfl (l8 n hn) rfl ?_|refine AOps.U rfl rfl rfl rfl (l8 n hn) rfl ?_|refine AOps.U rfl rfl rfl rfl (l8 n hn) rfl ?_|refine AOps.U rfl rfl rfl rfl (l8 n hn) rfl ?_|refine AOps.U rfl rfl rfl rfl (l8 n hn) rfl ?_|refine AOps.U rfl rfl rfl rfl (l8 n hn) rfl ?_|refine AOps.U rfl rfl rfl rfl (l8 n hn) rfl ?_|refine AOps.U rfl rfl rfl rfl (l8 n hn) rfl ?_|refine AOps.U rfl rfl rfl rfl (l8 n hn) rfl ?_
 refine AOps.j rfl rfl ?_
 refine AOps.ac rfl rfl rfl ?_
 refine AOps.ac rfl rfl rfl ?_
 refine AOps.u rfl rfl ?_
 refine AOps.u rfl rfl ?_
 refine AOps.nil ?_
 repeat (first|refine b5 ?_|refine d6 ?_)
 repeat (first|refine AWP.q ?_|refine AWP.O ?_|refine AWP.skip ?_|refine b5 ?_|refine d6 ?_|refine AWP.condT rfl ?_|refine AWP.condF rfl ?_)
 refine AWP.z ?_
 refine AOps.j rfl rfl ?_
 refine AOps.j rfl rfl ?_
 refine AOps.u rfl rfl ?_
 refine AOps.u rfl rfl ?_
 refine AOps.nil ?_
 repeat (first|refine b5 ?_|refine d6 ?_)
 repeat (first|refine AWP.q ?_|refine AWP.ret ?_|refine e7 ?_|refine i8 ?_|refine AWP.skip ?_|refine b5 ?_|refine d6 ?_|refine AWP.exit ?_|refine d8 ?_|refine g8 ?_|refine K1 rfl ?_)
 exact Done.ret rfl rfl
theorem wrap_facts(n:Nat)(hn:n≤4294967295):IntKind.u64.wrap (n:Int)=n∧IntKind.i64.wrap (n:Int)=n:=by
 refine⟨?_,wrap_i64 (by omega)⟩
 simp only[IntKind.wrap,IntKind.bits,IntKind.signed,Bool.false_and];simp;omega
def repC(c:Int)(n i:Nat):List (List C):=(List.range n).map fun j=>[int (if j<i then c else 0)]
theorem rep_first{c:Int}{n:Nat}(h:1≤n):(List.replicate n [C.imm (.val (.int .i64 0))]).take 0++(([c]:Li).map intI|>.map (·.map C.imm)).take 1++(List.replicate n [C.imm (.val (.int .i64 0))]).drop (0+1)=repC c n 1:=by
 apply List.ext_getElem?
 intro j
 simp only[repC,lM]
 match j with
 |0=>simp[show 0<n by omega]
 |j+1=>
  simp only[List.take_zero,List.nil_append,List.map_cons,List.map_nil,List.take_succ_cons,List.take_nil,List.cons_append,List.getElem?_cons_succ,List.getElem?_drop,List.getElem?_replicate]
  by_cases hj:j+1<n
  ·rw[if_pos (by omega),List.getElem?_range hj];simp
  ·rw[if_neg (by omega),List.getElem?_eq_none (by simp;omega)];rfl
theorem rep_more{c:Int}{n i m:Nat}(h1:m≤i)(h2:i+m≤n):(repC c n i).take (0+i)++(((repC c n i).drop 0).take i).take m++(repC c n i).drop (0+i+m)=repC c n (i+m):=by
 apply List.ext_getElem?
 intro j
 have len:(repC c n i).length=n:=by simp[repC]
 have hg:∀k j,(repC c n k)[j]? =if j<n then some [int (if j<k then c else 0)] else none:=fun k j=>by
  simp only[repC,lM]
  by_cases hj:j<n
  ·rw[List.getElem?_range hj,if_pos hj];rfl
  ·rw[List.getElem?_eq_none (by simp;omega),if_neg hj];rfl
 rw[Nat.zero_add,List.drop_zero,hg]
 rcases Nat.lt_or_ge j i with hl|hl
 ·rw[List.append_assoc,List.getElem?_append_left (by simp[len];omega),List.getElem?_take,if_pos hl,hg]
  simp[show j<n by omega,hl,show j<i+m by omega]
 ·rcases Nat.lt_or_ge j (i+m) with hl2|hl2
  ·rw[List.getElem?_append_left (by simp[len];omega),List.getElem?_append_right (by simp[len];omega),List.getElem?_take,if_pos (by simp[len];omega),List.getElem?_take,if_pos (by simp[len];omega),hg]
   have e:(List.take i (repC c n i)).length=i:=by simp[len];omega
   rw[e,if_pos (by omega),if_pos (by omega),if_pos (by omega),if_pos (by omega)]
  ·rw[List.getElem?_append_right (by simp[len];omega),List.getElem?_drop,hg]
   have e:(List.take i (repC c n i)++List.take m (List.take i (repC c n i))).length=i+m:=by simp[len];omega
   rw[e,show i+m+(j - (i+m))=j by omega]
   split
   ·rw[if_neg (by omega),if_neg (by omega)]
   ·rfl
theorem rep_full(c:Int)(n:Nat):Blk.cells 1 (repC c n n)=Blk.im 1 (List.replicate n [.val (.int .i64 c)]):=by
 rw[Blk.im,repC]
 congr 1
 apply List.ext_getElem?
 intro j
 simp only[lM,List.getElem?_replicate]
 by_cases hj:j<n
 ·rw[List.getElem?_range hj,if_pos hj];simp[hj]
 ·rw[List.getElem?_eq_none (by simp;omega),if_neg hj];rfl
theorem repeat_ok(c:Int)(n:Nat)(h1:1≤n)(hn:n≤4294967295):r8 prog 48 [.c (ints [c]),.c (int n)] 1 (List.replicate n [.val (.int .i64 c)]):=by
 obtain⟨w1,w2⟩:=wrap_facts n hn
 unfold r8
 refine FnOk.enter (rs:=[.t 4]) func48 rfl ntmps48 results48 rfl ⟨trivial,trivial⟩ (by kernel_rfl) rfl ?_
 repeat (first|refine AWP.q ?_|refine AWP.O ?_|refine AWP.skip ?_|refine b5 ?_|refine d6 ?_|refine AWP.condT rfl ?_|refine AWP.condF rfl ?_)
 refine AWP.z ?_
 refine AOps.u rfl rfl ?_
 refine AOps.nil ?_
 repeat (first|refine b5 ?_|refine d6 ?_)
 have hd:decide ((n:Int)<0)=false:=decide_eq_false (by omega)
 repeat (first|refine AWP.q ?_|refine AWP.O ?_|refine AWP.skip ?_|refine b5 ?_|refine d6 ?_|refine AWP.condT rfl ?_|refine AWP.condF rfl ?_)
 refine AWP.z ?_
 refine AOps.j rfl rfl ?_
 refine AOps.J rfl rfl rfl ?_
 refine AOps.nil ?_
 repeat (first|refine b5 ?_|refine d6 ?_)
 (repeat (refine AWP.q ?_));first|refine AWP.condD rfl (fun hc=> ?_) (fun hc=> ?_)|refine AWP.condN rfl (fun hc=> ?_) (fun hc=> ?_)|refine AWP.condE rfl (fun hc=> ?_) (fun hc hc'=> ?_)|refine AWP.condB rfl (fun hc=> ?_) (fun hc=> ?_)|refine AWP.cond rfl (fun hc=> ?_) (fun hc=> ?_)
 ·omega
 repeat (first|refine AWP.skip ?_|refine b5 ?_|refine d6 ?_|refine AWP.condT rfl ?_|refine AWP.condF rfl ?_)
 repeat (first|refine AWP.q ?_|refine AWP.O ?_|refine AWP.skip ?_|refine b5 ?_|refine d6 ?_|refine AWP.condT rfl ?_|refine AWP.condF rfl ?_)
 refine AWP.z ?_
 refine AOps.j rfl rfl ?_
 first|refine AOps.lenB rfl rfl (fun _=> ?_)|refine AOps.lenOwnB rfl rfl rfl (fun _=> ?_)|refine AOps.lenNil rfl rfl ?_
 refine AOps.convE (c:=1) rfl rfl (show IntKind.u64.wrap ((1:Nat):Int)=1 by decide) ?_
 refine AOps.j rfl rfl ?_
 refine AOps.convE (c:=(n:Int)) rfl rfl w1 ?_
 first|refine AOps.U rfl rfl rfl rfl (q8 n hn) rfl ?_|refine AOps.U rfl rfl rfl rfl (q8 n hn) rfl ?_|refine AOps.U rfl rfl rfl rfl (q8 n hn) rfl ?_|refine AOps.U rfl rfl rfl rfl (q8 n hn) rfl ?_|refine AOps.U rfl rfl rfl rfl (q8 n hn) rfl ?_|refine AOps.U rfl rfl rfl rfl (q8 n hn) rfl ?_|refine AOps.U rfl rfl rfl rfl (q8 n hn) rfl ?_|refine AOps.U rfl rfl rfl rfl (q8 n hn) rfl ?_|refine AOps.U rfl rfl rfl rfl (q8 n hn) rfl ?_|refine AOps.U rfl rfl rfl rfl (q8 n hn) rfl ?_|refine AOps.U rfl rfl rfl rfl (q8 n hn) rfl ?_|refine AOps.U rfl rfl rfl rfl (q8 n hn) rfl ?_|refine AOps.U rfl rfl rfl rfl (q8 n hn) rfl ?_|refine AOps.U rfl rfl rfl rfl (q8 n hn) rfl ?_|refine AOps.U rfl rfl rfl rfl (q8 n hn) rfl ?_|refine AOps.U rfl rfl rfl rfl (q8 n hn) rfl ?_|refine AOps.U rfl rfl rfl rfl (q8 n hn) rfl ?_|refine AOps.U rfl rfl rfl rfl (q8 n hn) rfl ?_|refine AOps.U rfl rfl rfl rfl (q8 n hn) rfl ?_|refine AOps.U rfl rfl rfl rfl (q8 n hn) rfl ?_|refine AOps.U rfl rfl rfl rfl (q8 n hn) rfl ?_|refine AOps.U rfl rfl rfl rfl (q8 n hn) rfl ?_|refine AOps.U rfl rfl rfl rfl (q8 n hn) rfl ?_|refine AOps.U rfl rfl rfl rfl (q8 n hn) rfl ?_|refine AOps.U rfl rfl rfl rfl (q8 n hn) rfl ?_|refine AOps.U rfl rfl rfl rfl (q8 n hn) rfl ?_|refine AOps.U rfl rfl rfl rfl (q8 n hn) rfl ?_|refine AOps.U rfl rfl rfl rfl (q8 n hn) rfl ?_|refine AOps.U rfl rfl rfl rfl (q8 n hn) rfl ?_|refine AOps.U rfl rfl rfl rfl (q8 n hn) rfl ?_|refine AOps.U rfl rfl rfl rfl (q8 n hn) rfl ?_|refine AOps.U rfl rfl rfl rfl (q8 n hn) rfl ?_|refine AOps.U rfl rfl rfl rfl (q8 n hn) rfl ?_|refine AOps.U rfl rfl rfl rfl (q8 n hn) rfl ?_|refine AOps.U rfl rfl rfl rfl (q8 n hn) rfl ?_|refine AOps.U rfl rfl rfl rfl (q8 n hn) rfl ?_|refine AOps.U rfl rfl rfl rfl (q8 n hn) rfl ?_|refine AOps.U rfl rfl rfl rfl (q8 n hn) rfl ?_|refine AOps.U rfl rfl rfl rfl (q8 n hn) rfl ?_|refine AOps.U rfl rfl rfl rfl (q8 n hn) rfl ?_|refine AOps.U rfl rfl rfl rfl (q8 n hn) rfl ?_|refine AOps.U rfl rfl rfl rfl (q8 n hn) rfl ?_|refine AOps.U rfl rfl rfl rfl (q8 n hn) rfl ?_|refine AOps.U rfl rfl rfl rfl (q8 n hn) rfl ?_
 refine AOps.j rfl rfl ?_
 refine AOps.ac rfl rfl rfl ?_
 refine AOps.ac rfl rfl rfl ?_
 refine AOps.u rfl rfl ?_
 refine AOps.u rfl rfl ?_
 refine AOps.nil ?_
 repeat (first|refine b5 ?_|refine d6 ?_)
 have hd2:decide ((0:Int)<0)=false:=by decide
 repeat (first|refine AWP.q ?_|refine AWP.O ?_|refine AWP.skip ?_|refine b5 ?_|refine d6 ?_|refine AWP.condT rfl ?_|refine AWP.condF rfl ?_)
 refine AWP.z ?_
 refine AOps.j rfl rfl ?_
 refine AOps.gtr rfl rfl rfl ?_
 refine AOps.j rfl rfl ?_
 first|(refine AOps.E rfl rfl rfl (by assumption) ?_)|(refine AOps.ah rfl rfl rfl ?_)|(refine AOps.B rfl rfl rfl (by assumption) ?_;refine AOps.j rfl rfl ?_)
 first|(refine AOps.E rfl rfl rfl (by assumption) ?_)|(refine AOps.ah rfl rfl rfl ?_)|(refine AOps.B rfl rfl rfl (by assumption) ?_;refine AOps.gtr rfl rfl rfl ?_)
 first|refine AOps.aa rfl (by assumption) rfl rfl ?_|refine AOps.ab rfl (by assumption) rfl rfl ?_
 refine AOps.nil ?_
 repeat (first|refine b5 ?_|refine d6 ?_)
 (repeat (refine AWP.q ?_));first|refine AWP.condD rfl (fun hc=> ?_) (fun hc=> ?_)|refine AWP.condN rfl (fun hc=> ?_) (fun hc=> ?_)|refine AWP.condE rfl (fun hc=> ?_) (fun hc hc'=> ?_)|refine AWP.condB rfl (fun hc=> ?_) (fun hc=> ?_)|refine AWP.cond rfl (fun hc=> ?_) (fun hc=> ?_)
 ·omega
 repeat (first|refine AWP.skip ?_|refine b5 ?_|refine d6 ?_|refine AWP.condT rfl ?_|refine AWP.condF rfl ?_)
 repeat (first|refine AWP.q ?_|refine AWP.O ?_|refine AWP.skip ?_|refine b5 ?_|refine d6 ?_|refine AWP.condT rfl ?_|refine AWP.condF rfl ?_)
 refine AWP.z ?_
 refine AOps.j rfl rfl ?_
 refine AOps.convE (c:=(n:Int)) rfl rfl w2 ?_
 refine W.make rfl rfl rfl (by omega) (by omega) rfl rfl rfl ?_
 refine AOps.u rfl rfl ?_
 refine AOps.nil ?_
 repeat (first|refine b5 ?_|refine d6 ?_)
 repeat (first|refine AWP.q ?_|refine AWP.O ?_|refine AWP.skip ?_|refine b5 ?_|refine d6 ?_|refine AWP.condT rfl ?_|refine AWP.condF rfl ?_)
 refine AWP.z ?_
 refine AOps.j rfl rfl ?_
 refine AOps.j rfl rfl ?_
 refine AOps.copyE (m:=1) (es':=repC c n 1) rfl rfl (by omega) rfl .imm rfl (Nat.min_eq_left h1) (rep_first h1) rfl ?_
 refine AOps.u rfl rfl ?_
 refine AOps.nil ?_
 repeat (first|refine b5 ?_|refine d6 ?_)
 refine AWP.q ?_
 refine AWP.O ?_
 refine AWP.loop (X:=Nat) (fun i=>⟨[(7,.c (.own 0 0 n)),(8,.c (int i))],[.one (.cells 1 (repC c n i))]⟩) (fun i=>1≤i∧i≤n) (fun i=>n - i) 1 (Sub.env ⟨rfl,rfl,trivial⟩) ⟨Nat.le_refl _,h1⟩ ?_
 rintro i ⟨i1,i2⟩
 repeat (first|refine AWP.q ?_|refine AWP.O ?_|refine AWP.skip ?_|refine b5 ?_|refine d6 ?_|refine AWP.condT rfl ?_|refine AWP.condF rfl ?_)
 refine AWP.z ?_
 refine AOps.j rfl rfl ?_
 refine AOps.j rfl rfl ?_
 first|refine AOps.lenB rfl rfl (fun _=> ?_)|refine AOps.lenOwnB rfl rfl rfl (fun _=> ?_)|refine AOps.lenNil rfl rfl ?_
 refine AOps.J rfl rfl rfl ?_
 refine AOps.nil ?_
 repeat (first|refine b5 ?_|refine d6 ?_)
 (repeat (refine AWP.q ?_));first|refine AWP.condD rfl (fun hc=> ?_) (fun hc=> ?_)|refine AWP.condN rfl (fun hc=> ?_) (fun hc=> ?_)|refine AWP.condE rfl (fun hc=> ?_) (fun hc hc'=> ?_)|refine AWP.condB rfl (fun hc=> ?_) (fun hc=> ?_)|refine AWP.cond rfl (fun hc=> ?_) (fun hc=> ?_)
 ·have hi:i<n:=by omega
  obtain⟨m,hm⟩:∃m,m=Nat.min i (n - i):=⟨_,rfl⟩
  have hm1:1≤m:=by rw[hm];exact Nat.le_min.2 ⟨i1,by omega⟩
  have hm2:m≤i∧i+m≤n:=by
   have:=Nat.min_le_left i (n - i)
   have:=Nat.min_le_right i (n - i)
   change m=min i (n - i) at hm
   omega
  have hcm:Nat.min (((repC c n i).drop 0).take i).length (n - i)=m:=by
   rw[hm]
   congr 1
   simp[repC];omega
  have hce:(repC c n i).take (0+i)++(((repC c n i).drop 0).take i).take m++(repC c n i).drop (0+i+m)=repC c n (i+m):=rep_more hm2.1 hm2.2
  repeat (first|refine AWP.skip ?_|refine b5 ?_|refine d6 ?_|refine AWP.condT rfl ?_|refine AWP.condF rfl ?_)
  repeat (first|refine AWP.q ?_|refine AWP.O ?_|refine AWP.skip ?_|refine b5 ?_|refine d6 ?_|refine AWP.condT rfl ?_|refine AWP.condF rfl ?_)
  refine AWP.drawEI [7] mixed rfl rfl rfl ?_
  apply e6.consN;exact rfl;exact rfl;intro E
  refine AOps.j rfl rfl ?_
  exact AOps.nil ⟨rfl,rfl⟩
  exact rfl
  apply e6.consN;exact rfl;exact rfl;intro E
  refine AOps.j rfl rfl ?_
  exact AOps.nil ⟨rfl,rfl⟩
  exact rfl
  apply e6.consN;exact rfl;exact rfl;intro E
  refine AOps.j rfl rfl ?_
  exact AOps.nil ⟨rfl,rfl⟩
  exact rfl
  apply e6.consN;exact rfl;exact rfl;intro E
  first|refine AOps.sliceArrI rfl (Nat.le_of_ble_eq_true rfl) rfl rfl ?_|refine AOps.sliceOwnTo rfl rfl rfl (by omega) rfl ?_|refine AOps.sliceOwnFrom rfl rfl rfl (by omega) rfl ?_
  exact AOps.nil ⟨rfl,rfl⟩
  exact rfl
  apply e6.consN;exact rfl;exact rfl;intro E
  refine AOps.j rfl rfl ?_
  exact AOps.nil ⟨rfl,rfl⟩
  exact rfl
  apply e6.consN;exact rfl;exact rfl;intro E
  refine AOps.j rfl rfl ?_
  exact AOps.nil ⟨rfl,rfl⟩
  exact rfl
  apply e6.consN;exact rfl;exact rfl;intro E
  first|refine AOps.sliceArrI rfl (Nat.le_of_ble_eq_true rfl) rfl rfl ?_|refine AOps.sliceOwnTo rfl rfl rfl (by omega) rfl ?_|refine AOps.sliceOwnFrom rfl rfl rfl (by omega) rfl ?_
  exact AOps.nil ⟨rfl,rfl⟩
  exact rfl
  apply e6.consE;exact rfl;exact rfl;intro E
  refine AOps.copyE rfl rfl (by omega) rfl (Src.own rfl) rfl hcm hce rfl ?_
  exact AOps.nil ⟨rfl,rfl⟩
  exact rfl
  exact rfl
  apply e6.consN;exact rfl;exact rfl;intro E
  refine AOps.add rfl rfl rfl (by omega) ?_
  exact AOps.nil ⟨rfl,rfl⟩
  exact rfl
  apply e6.consN;exact rfl;exact rfl;intro E
  refine AOps.u rfl rfl ?_
  exact AOps.nil ⟨rfl,rfl⟩
  exact rfl
  refine e6.done rfl ?_ ?_
  ·apply d5.cons;exact rfl;exact rfl
   first|refine b7.skip rfl ?_|(apply b7.go;exact rfl;exact rfl;intro E;(refine AOps.j rfl rfl ?_);exact AOps.nil ⟨rfl,rfl⟩)
   first|refine b7.skip rfl ?_|(apply b7.go;exact rfl;exact rfl;intro E;(refine AOps.j rfl rfl ?_);exact AOps.nil ⟨rfl,rfl⟩)
   exact b7.nil
   apply d5.cons;exact rfl;exact rfl
   first|refine b7.skip rfl ?_|(apply b7.go;exact rfl;exact rfl;intro E;(refine AOps.j rfl rfl ?_);exact AOps.nil ⟨rfl,rfl⟩)
   first|refine b7.skip rfl ?_|(apply b7.go;exact rfl;exact rfl;intro E;(refine AOps.j rfl rfl ?_);exact AOps.nil ⟨rfl,rfl⟩)
   exact b7.nil
   apply d5.cons;exact rfl;exact rfl
   first|refine b7.skip rfl ?_|(apply b7.go;exact rfl;exact rfl;intro E;(refine AOps.j rfl rfl ?_);exact AOps.nil ⟨rfl,rfl⟩)
   first|refine b7.skip rfl ?_|(apply b7.go;exact rfl;exact rfl;intro E;(refine AOps.j rfl rfl ?_);exact AOps.nil ⟨rfl,rfl⟩)
   exact b7.nil
   apply d5.cons;exact rfl;exact rfl
   first|refine b7.skip rfl ?_|(apply b7.go;exact rfl;exact rfl;intro E;(first|refine AOps.sliceArrI rfl (Nat.le_of_ble_eq_true rfl) rfl rfl ?_|refine AOps.sliceOwnTo rfl rfl rfl (by omega) rfl ?_|refine AOps.sliceOwnFrom rfl rfl rfl (by omega) rfl ?_);exact AOps.nil ⟨rfl,rfl⟩)
   first|refine b7.skip rfl ?_|(apply b7.go;exact rfl;exact rfl;intro E;(first|refine AOps.sliceArrI rfl (Nat.le_of_ble_eq_true rfl) rfl rfl ?_|refine AOps.sliceOwnTo rfl rfl rfl (by omega) rfl ?_|refine AOps.sliceOwnFrom rfl rfl rfl (by omega) rfl ?_);exact AOps.nil ⟨rfl,rfl⟩)
   exact b7.nil
   apply d5.cons;exact rfl;exact rfl
   first|refine b7.skip rfl ?_|(apply b7.go;exact rfl;exact rfl;intro E;(refine AOps.j rfl rfl ?_);exact AOps.nil ⟨rfl,rfl⟩)
   first|refine b7.skip rfl ?_|(apply b7.go;exact rfl;exact rfl;intro E;(refine AOps.j rfl rfl ?_);exact AOps.nil ⟨rfl,rfl⟩)
   exact b7.nil
   apply d5.cons;exact rfl;exact rfl
   first|refine b7.skip rfl ?_|(apply b7.go;exact rfl;exact rfl;intro E;(refine AOps.j rfl rfl ?_);exact AOps.nil ⟨rfl,rfl⟩)
   first|refine b7.skip rfl ?_|(apply b7.go;exact rfl;exact rfl;intro E;(refine AOps.j rfl rfl ?_);exact AOps.nil ⟨rfl,rfl⟩)
   exact b7.nil
   apply d5.cons;exact rfl;exact rfl
   first|refine b7.skip rfl ?_|(apply b7.go;exact rfl;exact rfl;intro E;(first|refine AOps.sliceArrI rfl (Nat.le_of_ble_eq_true rfl) rfl rfl ?_|refine AOps.sliceOwnTo rfl rfl rfl (by omega) rfl ?_|refine AOps.sliceOwnFrom rfl rfl rfl (by omega) rfl ?_);exact AOps.nil ⟨rfl,rfl⟩)
   first|refine b7.skip rfl ?_|(apply b7.go;exact rfl;exact rfl;intro E;(first|refine AOps.sliceArrI rfl (Nat.le_of_ble_eq_true rfl) rfl rfl ?_|refine AOps.sliceOwnTo rfl rfl rfl (by omega) rfl ?_|refine AOps.sliceOwnFrom rfl rfl rfl (by omega) rfl ?_);exact AOps.nil ⟨rfl,rfl⟩)
   exact b7.nil
   refine d5.skip rfl ?_
   apply d5.cons;exact rfl;exact rfl
   first|refine b7.skip rfl ?_|(apply b7.go;exact rfl;exact rfl;intro E;(refine AOps.add rfl rfl rfl (by omega) ?_);exact AOps.nil ⟨rfl,rfl⟩)
   first|refine b7.skip rfl ?_|(apply b7.go;exact rfl;exact rfl;intro E;(refine AOps.add rfl rfl rfl (by omega) ?_);exact AOps.nil ⟨rfl,rfl⟩)
   exact b7.nil
   apply d5.cons;exact rfl;exact rfl
   first|refine b7.skip rfl ?_|(apply b7.go;exact rfl;exact rfl;intro E;(refine AOps.u rfl rfl ?_);exact AOps.nil ⟨rfl,rfl⟩)
   first|refine b7.skip rfl ?_|(apply b7.go;exact rfl;exact rfl;intro E;(refine AOps.u rfl rfl ?_);exact AOps.nil ⟨rfl,rfl⟩)
   exact b7.nil
   exact d5.nil
  dsimp only[l7]
  repeat (first|refine b5 ?_|refine d6 ?_)
  exact⟨i+m,Sub.env ⟨rfl,rfl,trivial⟩,⟨by omega,by omega⟩,by omega⟩
 repeat (first|refine AWP.q ?_|refine AWP.ret ?_|refine e7 ?_|refine i8 ?_|refine AWP.skip ?_|refine b5 ?_|refine d6 ?_|refine AWP.exit ?_|refine d8 ?_|refine g8 ?_|refine K1 rfl ?_)
 repeat (first|refine AWP.q ?_|refine AWP.O ?_|refine AWP.skip ?_|refine b5 ?_|refine d6 ?_|refine AWP.condT rfl ?_|refine AWP.condF rfl ?_)
 refine AWP.z ?_
 refine AOps.j rfl rfl ?_
 refine AOps.u rfl rfl ?_
 refine AOps.nil ?_
 repeat (first|refine b5 ?_|refine d6 ?_)
 repeat (first|refine AWP.q ?_|refine AWP.ret ?_|refine e7 ?_|refine i8 ?_|refine AWP.skip ?_|refine b5 ?_|refine d6 ?_|refine AWP.exit ?_|refine d8 ?_|refine g8 ?_|refine K1 rfl ?_)
 have hin:i=n:=by omega
 subst hin
 refine Done.ret rfl ⟨0,by simp,?_⟩
 show some (some (Blk.cells 1 (repC c i i)))=_
 rw[rep_full]
def C4(x:Li)(n:Int):Option Li:=match x with
 |[c]=>if 1≤n∧n≤4294967295 then some (List.replicate n.toNat c) else none
 |_=>none
theorem aq2{x:Li}{n:Int}{r:Li}(h:C4 x n=some r):r8 prog 48 [.c (row 1 intI x),.c (int n)] 1 (List.map intI r):=by
 unfold C4 at h
 split at h
 ·rename_i c
  split at h
  ·rename_i hn
   cases h
   have:=repeat_ok c n.toNat (by omega) (by omega)
   rw[Int.toNat_of_nonneg (by omega)] at this
   rwa [List.map_replicate]
  ·cases h
 ·cases h
end Ab
end
section
set_option linter.all false
namespace Ab
open Go Go.Proofs Go.RowKit Go.Lib
open Tryz
def spl(arr:Array Value)(o:Nat)(cs:List Value):Array Value:=(arr.toList.take o++cs++arr.toList.drop (o+cs.length)).toArray
theorem ai7{arr:Array Value}{o:Nat}{cs:List Value}(h:o+cs.length≤arr.size):(spl arr o cs).size=arr.size:=by simp[spl];omega
theorem spl_get{arr:Array Value}{o:Nat}{cs:List Value}(h:o+cs.length≤arr.size)(i:Nat):(spl arr o cs)[i]? =if o≤i∧i<o+cs.length then cs[i - o]? else arr[i]? :=by
 have:=A9 arr.toList cs o i (by simpa using h)
 simpa[spl] using this
theorem ar3{P:Program}{dT sT ty e:TypeId}{k bytes:Nat}{z:Value}[ht:TyD P dT (.slice e)][hs:TyS P e k bytes z](w:World)(g o dLen dCap:Nat)(a:Addr)(sLen sCap m:Nat)(cur:Array Value)(t:TypeId)(cs:List Value)
  (hm:Nat.min sLen dLen=m) (hg:w.heap[g]? =some (.cells cur t (0,0))) (hn:cs.length=m * k) (hsrc:∀j v,cs[j]? =some v→w.cell? (a.add j)=some v) (hfit:o+cs.length≤cur.size) (h1:∀v ∈ cs,v.oneCell'=true):
  (Builtin.copy_ #[dT,sT] ty #[.slice (some ⟨g,o,none⟩) dLen dCap,.slice (some a) sLen sCap]).run P w=.ok (goInt m) (w.setRow g (spl cur o cs)):=by
 have hf:(Builtin.firstCells k m (.slice (some a) sLen sCap)).run P w=.ok cs.toArray w:=run_firstCells_some w k m a sLen sCap cs hn hsrc
 have hst:=run_storeCells_at P g o t cs 0 cur w hg (by simpa using hfit) h1
 have hz:=p9 (P:=P) (t:=e) w
 simp[Builtin.copy_,run_underlying ht.h,hz,Builtin.lenOf,hm,hf,hst,spl]
theorem setRow_alloc(w:World)(r r':Array Value)(e:TypeId):(w.alloc (.cells r e)).setRow w.heap.size r'=w.alloc (.cells r' e):=by
 unfold World.setRow World.alloc
 congr 1
 apply Array.ext_getElem?
 intro i
 simp only[Array.getElem?_modify,Array.getElem?_push]
 by_cases h:w.heap.size=i
 ·subst h;simp
 ·rw[if_neg h,if_neg (fun e=>h e.symm),if_neg (fun e=>h e.symm)]
section
variable {P:Program}
theorem wpL_copy(w:World){ops:Array Oper}{rest:List Oper}{o:Oper}{a:Act}{Q:Exit→Act→World→Prop}(hgd:o.guard=none)(d s:Operand)(t t':TypeId)
  (ho:o.op=.call {callee:=.builtin .copy,args:=#[d,s],argTypes:=#[t,t']}) {v u v':Value} {w':World} (hd:a.eval d=v) (hs:a.eval s=u) (hr:(Builtin.copy_ #[t,t'] o.type #[v,u]).run P w=.ok v' w')
  (h:wpList P ops Q rest (a.put o.dst v') w'):wpList P ops Q (o::rest) a w:=
 wpList_plain hgd fun K hK=>by
  have:(execOp a.eval o).run P w=.ok (.value v') w':=by
   simp[execOp,ho,resolve,invoke,builtin,hd,hs,hr,Result.andThen]
  unfold Oper.wp
  rw[this]
  exact hK _ _ h
theorem wpS_copy{ops:Array Oper}{o:Oper}{a:Act}{w:World}{K:Act→World→Prop}{Q:Exit→Act→World→Prop}{E:Prop}(hgd:o.guard=none)(d s:Operand)(t t':TypeId)
  (ho:o.op=.call {callee:=.builtin .copy,args:=#[d,s],argTypes:=#[t,t']}) {v u v':Value} {w':World} (hd:a.eval d=v) (hs:a.eval s=u) (hr:(Builtin.copy_ #[t,t'] o.type #[v,u]).run P w=.ok v' w')
  (hK:K (a.put o.dst v') w'):if Region.wanted o (yielded ops a.tmps)=true then Oper.wp P o a w K Q else E:=by
 have hw:Region.wanted o (yielded ops a.tmps)=true:=by simp[Region.wanted,hgd]
 have:(execOp a.eval o).run P w=.ok (.value v') w':=by
  simp[execOp,ho,resolve,invoke,builtin,hd,hs,hr,Result.andThen]
 rw[if_pos hw]
 unfold Oper.wp
 rw[this]
 exact hK
end
section
set_option maxHeartbeats 4000000
set_option maxRecDepth 100000
abbrev insF:Nat:=53
abbrev choT:Nat:=60
abbrev G5:Nat:=30
theorem ins_shift(b off n c i vb voff vc:Nat)(arr varr:Array Value)(ety vety:TypeId)(cs vs:List Value)(w:World)(hi:i<n)(hroom:n+1≤c)(hc63:c≤9223372036854775807)(hvb:vb ≠ b)
  (hb:w.heap[b]? =some (.cells arr ety (0,0))) (hv:w.heap[vb]? =some (.cells varr vety (0,0))) (hfit:off+(n+1) * 2≤arr.size)
  (hcl:cs.length=(n - i) * 2) (hvl:vs.length=1 * 2) (hcs:∀j v,cs[j]? =some v→w.cell? (⟨b,off+i * 2+j,none⟩)=some v) (hvs:∀j v,vs[j]? =some v→w.cell? ⟨vb,voff+j,none⟩=some v) (h1c:∀v ∈ cs,v.oneCell'=true) (h1v:∀v ∈ vs,v.oneCell'=true):
  Calls prog insF #[.slice (some ⟨b,off,none⟩) n c,.int .i64 i,.slice (some ⟨vb,voff,none⟩) 1 vc] w fun e w'=>
   e=.returned (.slice (some ⟨b,off,none⟩) (n+1) c)∧w'=w.drew.setRow b (spl (spl arr (off+(i+1) * 2) cs) (off+i * 2) vs):=by
 have hz2:¬ ((i:Int)=(n:Int)):=by omega
 have hov:∀lb cb,(callFunc 96 #[.slice (some ⟨vb,voff,none⟩) 1 vc,.slice (some ⟨b,off+(i+1) * 2,none⟩) lb cb]).run prog w=.ok (.value (.bool false)) w:=fun lb cb=>by
  rw[run_callFunc_extern func96 (by kernel_rfl) (by kernel_rfl) (by kernel_rfl) (e:=Extern.SlicesOverlaps.overlaps #[G5,G5] #[4]) (by kernel_rfl),
   Lib.run_overlaps_apart w G5 4 choT underlying30 2 (fun w=>p9 w) ⟨vb,voff,none⟩ ⟨b,off+(i+1) * 2,none⟩ 1 vc lb cb hvb vety ety varr.size arr.size (by simp[World.shape?,hv]) (by simp[World.shape?,hb]) (by omega) (by simp[World.frozen?,hv]) (by simp[World.frozen?,hv])]
  rfl
 have mixed:prog.follows .mixedOrders=true:=by kernel_rfl
 have u26:=run_underlying underlying30
 have hw1:IntKind.i64.wrap ((i:Int)+(1:Int))=(i:Int)+(1:Int):=by rw[IntKind.wrap_i64];omega
 have hb1:(0:Int)≤(i:Int)+(1:Int):=by omega
 have hin:i≤n:=by omega
 have htn:((i:Int)+(1:Int)).toNat=i+1:=by omega
 have hb2:¬ (c=i+1):=by omega
 have hb3:(i:Int)≤(n:Int)+(1:Int):=by omega
 have hb4:¬ (c=i):=by omega
 have hcp1:∀ty dc sc,(Builtin.copy_ #[G5,G5] ty #[.slice (some ⟨b,off+(i+1) * 2,none⟩) (n - i) dc,.slice (some ⟨b,off+i * 2,none⟩) (n+1 - i) sc]).run prog w.drew=.ok (goInt (n - i:Nat)) (w.drew.setRow b (spl arr (off+(i+1) * 2) cs)):=fun ty dc sc=>
  ar3 (e:=choT) w.drew _ _ _ _ _ _ _ _ arr ety cs (by simp only[Nat.min_def];split<;>omega) hb hcl (fun j v hj=>by rw[Addr.add_lit];exact hcs j v hj) (by omega) h1c
 have hcp2:∀ty dc,(Builtin.copy_ #[G5,G5] ty #[.slice (some ⟨b,off+i * 2,none⟩) (n+1 - i) dc,.slice (some ⟨vb,voff,none⟩) 1 vc]).run prog (w.drew.setRow b (spl arr (off+(i+1) * 2) cs))=.ok (goInt 1) ((w.drew.setRow b (spl arr (off+(i+1) * 2) cs)).setRow b (spl (spl arr (off+(i+1) * 2) cs) (off+i * 2) vs)):=fun ty dc=>
  ar3 (e:=choT) _ _ _ _ _ _ _ _ _ _ ety vs (by simp only[Nat.min_def];split<;>omega) (setRow_heap w.drew b arr _ ety (0,0) hb) hvl (fun j v hj=>by
   rw[Addr.add_lit,World.cell?_of_block (setRow_other w.drew b vb _ hvb)];exact hvs j v hj) (by rw[ai7 (by omega)];omega) h1v
 go_enter func53,ntmps53
 go_wp2_with (simp only[hov])
 go_region_law_o (refine wpS_copy rfl _ _ G5 G5 rfl (by simp[Act.eval,Act.put]) (by simp[Act.eval,Act.put]) (hcp1 _ _ _) ?_)
 go_wp2_with (at_builtin;refine wpL_copy _ rfl _ _ G5 G5 rfl rfl rfl (hcp2 _ _) ?_)
 go_ret
 exact⟨rfl,by rw[setRow_setRow]⟩
theorem ins_grow(b off n c i vb voff vc:Nat)(os cs vs:List Value)(w:World)(hi:i<n)(hnc:n≤c)(hroom:c<n+1)(hbig:(n+1) * 32≤140737488355328)(hbw:b<w.heap.size)(hvw:vb<w.heap.size)
  (hol:os.length=i * 2) (hcl:cs.length=(n - i) * 2) (hvl:vs.length=1 * 2)
  (hos:∀j v,os[j]? =some v→w.cell? (⟨b,off+j,none⟩)=some v) (hcs:∀j v,cs[j]? =some v→w.cell? (⟨b,off+i * 2+j,none⟩)=some v) (hvs:∀j v,vs[j]? =some v→w.cell? ⟨vb,voff+j,none⟩=some v)
  (h1c:∀v ∈ cs,v.oneCell'=true) (h1v:∀v ∈ vs,v.oneCell'=true):
  Calls prog insF #[.slice (some ⟨b,off,none⟩) n c,.int .i64 i,.slice (some ⟨vb,voff,none⟩) 1 vc] w fun e w'=>
   ∃(G:Nat) (ROW:Array Value),n+1≤G∧G≤maxLen∧ROW.size=G * 2∧(∀(j:Nat) v,os[j]? =some v→ROW[j]? =some v)∧
   e=.returned (.slice (some ⟨w.heap.size,0,none⟩) (n+1) G)∧w'=w.drew.drew.alloc (.cells (spl (spl ROW (i * 2) vs) ((i+1) * 2) cs) choT):=by
 have hz2:¬ ((i:Int)=(n:Int)):=by omega
 have hz3:(c:Int)<(n:Int)+(1:Int):=by omega
 have mixed:prog.follows .mixedOrders=true:=by kernel_rfl
 have u26:=run_underlying underlying30
 obtain⟨inf,hi1,hi2,hi3,hi4⟩:=(inferInstance:TyS prog choT 2 32 _).h
 have hkk:(n:Int)+(1:Int) - (i:Int)=((n+1 - i:Nat):Int):=by omega
 have hik:i+(n+1 - i)=n+1:=by omega
 have hold:(Builtin.firstCells inf.size i (.slice (some ⟨b,off,none⟩) i c)).run prog w.drew=.ok os.toArray w.drew:=by
  rw[hi2]
  exact run_firstCells_some w.drew 2 i ⟨b,off,none⟩ i c os hol (fun j v hj=>by
   rw[Addr.add_lit]
   exact hos j v hj)
 obtain⟨G,hG⟩:∃G,G=grownCap w (n+1) c choT:=⟨_,rfl⟩
 obtain⟨ROW,hROW⟩:∃ROW:Array Value,ROW=os.toArray++Builtin.zeroCells (Value.agg #[.slice none 0 0,.int .i64 0]).cells (n+1 - i)++Builtin.zeroCells (Value.agg #[.slice none 0 0,.int .i64 0]).cells (G - (n+1)):=⟨_,rfl⟩
 have hGn:n+1≤G:=by rw[hG];exact grownCap_ge w _ _ _
 have hGm:G≤maxLen:=by
  rw[hG]
  exact grownCap_le_maxLen w (n+1) c choT (by unfold maxLen;omega)
 have hG63:G≤9223372036854775807:=hGm
 have hRl:ROW.size=G * 2:=by
  rw[hROW]
  simp[Builtin.zeroCells,Value.cells,hol]
  omega
 have hRo:∀(j:Nat) v,os[j]? =some v→ROW[j]? =some v:=fun j v hj=>by
  rw[hROW,Array.append_assoc,Array.getElem?_append_left (by simpa using(lG.1 hj).1)]
  simpa using hj
 have hrz:∀ty,(Builtin.append_ #[G5,3] ty #[.slice (some ⟨b,off,none⟩) i c,.int .i64 ((n:Int)+(1:Int) - (i:Int))]).run prog w=
   .ok (.slice (some ⟨w.heap.size,0,none⟩) (n+1) G) (w.drew.alloc (.cells ROW choT)):=fun ty=>by
  have h:=Lib.run_append_grow_zeros w G5 3 ty choT inf _ .i64 .i64 underlying30 underlying3 hi1 hi4 (some ⟨b,off,none⟩) i c os hold (n+1 - i) (by omega) (by omega) (by omega) (by omega) (by rw[hi3];omega) (by rw[hi3,hik];exact growslice_fits hroom hbig)
  rw[hik,← hG] at h
  rw[hkk,hROW]
  exact h
 have hci:¬ (c=i):=by omega
 have hGi:¬ (G=i):=by omega
 have hGim:¬ (G=i+1):=by omega
 have hw1:IntKind.i64.wrap ((i:Int)+(1:Int))=(i:Int)+(1:Int):=by rw[IntKind.wrap_i64];omega
 have hb1:(0:Int)≤(i:Int)+(1:Int):=by omega
 have hin:i≤n:=by omega
 have htn:((i:Int)+(1:Int)).toNat=i+1:=by omega
 have hb3:(i:Int)≤(n:Int):=by omega
 have hcpA:∀ty dc,(Builtin.copy_ #[G5,G5] ty #[.slice (some ⟨w.heap.size,i * 2,none⟩) (n+1 - i) dc,.slice (some ⟨vb,voff,none⟩) 1 vc]).run prog (w.alloc (.cells ROW choT)).drew=.ok (goInt 1) ((w.alloc (.cells ROW choT)).drew.setRow w.heap.size (spl ROW (i * 2) vs)):=fun ty dc=>
  ar3 (e:=choT) _ _ _ _ _ _ _ _ _ ROW choT vs (by simp only[Nat.min_def];split<;>omega) (heap_alloc_new w.drew _) hvl (fun j v hj=>by
   rw[Addr.add_lit,World.cell?_of_block (show(w.alloc (.cells ROW choT)).drew.heap[vb]? =w.heap[vb]? from by first|exact heap_alloc_old w.drew _ hvw|exact heap_alloc_old w.drew _ _ hvw)];exact hvs j v hj) (by omega) h1v
 have hcpB:∀ty dc sc,(Builtin.copy_ #[G5,G5] ty #[.slice (some ⟨w.heap.size,(i+1) * 2,none⟩) (n - i) dc,.slice (some ⟨b,off+i * 2,none⟩) (n - i) sc]).run prog ((w.alloc (.cells ROW choT)).drew.setRow w.heap.size (spl ROW (i * 2) vs)).drew=.ok (goInt (n - i:Nat)) (((w.alloc (.cells ROW choT)).drew.setRow w.heap.size (spl ROW (i * 2) vs)).drew.setRow w.heap.size (spl (spl ROW (i * 2) vs) ((i+1) * 2) cs)):=fun ty dc sc=>
  ar3 (e:=choT) _ _ _ _ _ _ _ _ _ (spl ROW (i * 2) vs) choT cs (by simp only[Nat.min_def];split<;>omega) (setRow_heap _ _ ROW _ choT (0,0) (heap_alloc_new w.drew _)) hcl (fun j v hj=>by
   rw[Addr.add_lit,World.cell?_of_block (show((w.drew.alloc (.cells ROW choT)).setRow w.heap.size (spl ROW (i * 2) vs)).drew.heap[b]? =w.heap[b]? from(setRow_other _ w.heap.size b _ (by omega)).trans (by first|exact heap_alloc_old w.drew _ hbw|exact heap_alloc_old w.drew _ _ hbw))];exact hcs j v hj) (by rw[ai7 (by omega)];omega) h1c
 clear hkk hik hold hG hROW
 go_enter func53,ntmps53
 go_wp2_with (first
  |(at_builtin;refine Lib.wpList_append_run _ rfl _ _ _ _ rfl _ _ rfl rfl _ _ (hrz _) ?_)
  |(at_builtin;refine wpL_copy _ rfl _ _ G5 G5 rfl rfl rfl (hcpA _ _) ?_))
 go_region_law_o (refine wpS_copy rfl _ _ G5 G5 rfl (by simp[Act.eval,Act.put]) (by simp[Act.eval,Act.put]) (hcpB _ _ _) ?_)
 go_wp2
 go_ret
 refine⟨G,ROW,hGn,hGm,hRl,hRo,rfl,?_⟩
 exact(setRow_setRow (w.alloc (.cells ROW choT)).drew.drew w.heap.size (spl ROW (i * 2) vs) (spl (spl ROW (i * 2) vs) ((i+1) * 2) cs)).trans (setRow_alloc w.drew.drew ROW (spl (spl ROW (i * 2) vs) ((i+1) * 2) cs) choT)
theorem ins_end(base:Option Addr)(n c:Nat)(vv r:Value)(w w':World)(hvv:∃b cv,vv=.slice b 1 cv)(hrun:∀ty,(Builtin.append_ #[G5,G5] ty #[.slice base n c,vv]).run prog w=.ok r w')(hnc:n≤c):
  Calls prog insF #[.slice base n c,.int .i64 n,vv] w fun e w2=>e=.returned r∧w2=w':=by
 obtain⟨vb,vc,rfl⟩:=hvv
 have mixed:prog.follows .mixedOrders=true:=by kernel_rfl
 have u26:=run_underlying underlying30
 go_enter func53,ntmps53
 cases base with
 |none=>
  go_wp2_with (at_builtin;refine Lib.wpList_append_run _ rfl _ _ _ _ rfl _ _ rfl rfl _ _ (hrun _) ?_)
  all_goals (go_ret;exact⟨rfl,rfl⟩)
 |some a=>
  obtain⟨ab,ao,asp⟩:=a
  go_wp2_with (at_builtin;refine Lib.wpList_append_run _ rfl _ _ _ _ rfl _ _ rfl rfl _ _ (hrun _) ?_)
  all_goals (go_ret;exact⟨rfl,rfl⟩)
end
structure Rw(w:World)(φ:Phi)(σ:b6)(A:Nat→Prop)(k:Nat)(es:List (List C))(us:List Value):Prop where
 len:us.length=es.length * k
 hk:∀(j:Nat) (e:List C),es[j]? =some e→e.length=k
 rel:∀(j:Nat) (e:List C) (o:Nat) (x:C),es[j]? =some e→e[o]? =some x→∃u,us[j * k+o]? =some u∧RelC w φ σ A x u
theorem ad9.rw{w:World}{φ:Phi}{σ:b6}{A:Nat→Prop}{k:Nat}{es:List (List C)}{b:Option Addr}{us:List Value}(h:ad9 w φ σ A k es b us):Rw w φ σ A k es us:=⟨h.len,h.hk,h.rel⟩
section
variable {w:World} {φ:Phi} {σ:b6} {A:Nat→Prop} {k:Nat} {es es2:List (List C)} {us us2:List Value}
theorem Rw.append(h:Rw w φ σ A k es us)(g:Rw w φ σ A k es2 us2):Rw w φ σ A k (es++es2) (us++us2):=by
 refine⟨by rw[List.length_append,List.length_append,h.len,g.len,Nat.add_mul],fun j e he=> ?_,fun j e o x he hx=> ?_⟩
 ·rw[List.getElem?_append] at he
  split at he
  ·exact h.hk j e he
  ·exact g.hk _ e he
 ·rw[List.getElem?_append] at he
  split at he
  ·obtain⟨u,hu,hr⟩:=h.rel j e o x he hx
   exact⟨u,by rw[List.getElem?_append_left (lG.1 hu).1];exact hu,hr⟩
  ·rename_i hj
   obtain⟨u,hu,hr⟩:=g.rel _ e o x he hx
   have hl:=h.len
   have hm:es.length * k≤j * k:=Nat.mul_le_mul_right k (by omega)
   refine⟨u,?_,hr⟩
   rw[List.getElem?_append_right (by omega),hl]
   rw[Nat.sub_mul] at hu
   rw[← hu];congr 1;omega
theorem Rw.take(h:Rw w φ σ A k es us)(i:Nat)(hi:i≤es.length):Rw w φ σ A k (es.take i) (us.take (i * k)):=by
 have hl:=h.len
 have hm:i * k≤es.length * k:=Nat.mul_le_mul_right k hi
 refine⟨by rw[List.length_take,List.length_take,Nat.min_eq_left hi,Nat.min_eq_left (by omega)],fun j e he=> ?_,fun j e o x he hx=> ?_⟩
 ·rw[List.getElem?_take] at he
  split at he
  ·exact h.hk j e he
  ·cases he
 ·rw[List.getElem?_take] at he
  split at he
  ·rename_i hj
   obtain⟨u,hu,hr⟩:=h.rel j e o x he hx
   have:=h.hk j e he
   have:=(lG.1 hx).1
   have hm2:(j+1) * k≤i * k:=Nat.mul_le_mul_right k hj
   rw[Nat.add_mul] at hm2
   exact⟨u,by rw[List.getElem?_take,if_pos (by omega)];exact hu,hr⟩
  ·cases he
theorem Rw.drop(h:Rw w φ σ A k es us)(i:Nat)(hi:i≤es.length):Rw w φ σ A k (es.drop i) (us.drop (i * k)):=by
 have hl:=h.len
 refine⟨by rw[List.length_drop,List.length_drop,hl,Nat.sub_mul],fun j e he=> ?_,fun j e o x he hx=> ?_⟩
 ·rw[List.getElem?_drop] at he
  exact h.hk _ e he
 ·rw[List.getElem?_drop] at he
  obtain⟨u,hu,hr⟩:=h.rel _ e o x he hx
  refine⟨u,?_,hr⟩
  rw[List.getElem?_drop,← hu,Nat.add_mul,Nat.add_assoc]
theorem Rw.mono{w':World}{φ':Phi}{σ':b6}{A':Nat→Prop}(H:Kept w w' φ φ' σ σ' A A')(h:Rw w φ σ A k es us):Rw w' φ' σ' A' k es us:=
 ⟨h.len,h.hk,fun j e o x he hx=>let ⟨u,hu,hr⟩:=h.rel j e o x he hx; ⟨u,hu,hr.mono H⟩⟩
end
theorem ins_lists{α:Type}{f:α→List I}{l:List α}{x:α}{i:Nat}:(((l.map f).map (·.map C.imm)).take i++(([x].map f).map (·.map C.imm))++((l.map f).map (·.map C.imm)).drop i)=((l.take i++x::l.drop i).map f).map (·.map C.imm):=by
 simp[List.map_take,List.map_drop]
set_option maxRecDepth 100000 in
theorem ins_fn{α:Type}{f:α→List I}{σ:b6}{id id2:Id}{l:List α}{x:α}{i:Int}(hσ:σ[id]? =some (some (vec 2 f l)))(hσ2:σ[id2]? =some (some (vec 2 f [x])))(hne:id2 ≠ id)(hb:(l.length+1) * 32≤140737488355328)(h0:0≤i)(h1:i≤l.length):
  FnOk prog insF [.c (.own id 0 l.length),.c (int i),.c (.own id2 0 1)] σ fun r σ'=>r=.c (.own (σ.length,[]) 0 (l.take i.toNat++x::l.drop i.toNat).length)∧σ'=σ.put id none++[.one (vec 2 f (l.take i.toNat++x::l.drop i.toNat))]:=by
 refine⟨⟨_,func53,rfl,rfl⟩,fun Γ vs hΓ hG hlen hrel=> ?_⟩
 subst hΓ
 match vs,hlen with
 |[u,iv,v],_=>
 have hu:=D8 (hrel 0 _ u rfl rfl) hσ
 have hv:=D8 (hrel 2 _ v rfl rfl) hσ2
 have hiv:iv=.int .i64 i:=by
  have h:=hrel 1 _ iv rfl rfl
  cases h with|c h=>cases h with|imm h=>cases h with|val=>rfl
 subst hiv
 obtain⟨ni,rfl⟩:∃ni:Nat,i=ni:=⟨i.toNat,by omega⟩
 have hR:R Γ 3 ⟨[(0,.c (.own id 0 l.length)),(1,.c (int ni)),(2,.c (.own id2 0 1))],Γ.σ0⟩ Γ.φ0 ⟨#[u,.int .i64 ni,v],[]⟩ Γ.w0:=
  {toRs:=Rs.refl hG,defers:=.nil,asize:=rfl,env:=fun t x hx=>by
    simp only[lookup] at hx
    split at hx
    ·rename_i e;cases hx
     have:=Nat.eq_of_beq_eq_true e;subst this
     exact⟨u,rfl,hrel 0 _ u rfl rfl⟩
    ·split at hx
     ·rename_i e;cases hx
      have:=Nat.eq_of_beq_eq_true e;subst this
      exact⟨_,rfl,hrel 1 _ _ rfl rfl⟩
     ·split at hx
      ·rename_i e;cases hx
       have:=Nat.eq_of_beq_eq_true e;subst this
       exact⟨v,rfl,hrel 2 _ v rfl rfl⟩
      ·cases hx}
 have vlen:∀{m:List α},((m.map f).map (·.map C.imm)).length=m.length:=by simp
 have nlen:(l.take ni++x::l.drop ni).length=l.length+1:=by simp;omega
 simp only[Int.toNat_natCast] at *
 rw[nlen]
 by_cases hend:ni=l.length
 · -- at the end
  subst hend
  obtain⟨v',w',φ',g1,g2,g3⟩:=append_R (P:=prog) (t:=G5) (e:=choT) (ty:=0) (x:=.tmp 0) (y:=.tmp 2) (new:=([x].map f).map (·.map C.imm)) rfl rfl rfl hσ rfl (by
   have h:=Src.own (j:=0) (n:=1) hσ2
   rwa [List.drop_zero,List.take_of_length_le (by simp)] at h) (by simpa using hb) hR
  obtain⟨b0,cap0,us0,hx1,_,_⟩:=S0 hR hσ hu
  obtain⟨b2,cap2,us2,hy1,_,_⟩:=S0 hR hσ2 hv
  have hnc:l.length≤cap0:=by
   rcases hu with⟨_,h2,_,h4⟩|⟨_,_,cap,_,_,_,_,h2,_,h3,_⟩
   ·rw[hx1] at h2;injection h2 with q1 q2 q3;omega
   ·rw[hx1] at h2;injection h2 with q1 q2 q3;omega
  have e1:(⟨#[u,.int .i64 (l.length:Int),v],[]⟩:Act).eval (.tmp 0)=u:=rfl
  have e2:(⟨#[u,.int .i64 (l.length:Int),v],[]⟩:Act).eval (.tmp 2)=v:=rfl
  rw[e1,e2,hx1] at g1
  have hc:=ins_end b0 l.length cap0 v v' Γ.w0 w' ⟨b2,cap2,hy1⟩ (fun _=>g1) hnc
  rw[hx1]
  refine hc.mono ?_
  rintro e w2 ⟨rfl,rfl⟩
  have e3:=ins_lists (f:=f) (l:=l) (x:=x) (i:=l.length)
  have e4:((((l.map f).map (·.map C.imm)).drop 0).take l.length++([x].map f).map (·.map C.imm))=((l.take l.length++x::l.drop l.length).map f).map (·.map C.imm):=by
   rw[← e3,List.drop_zero,List.drop_of_length_le (by simp),List.append_nil]
  have e5:l.length+(([x].map f).map (·.map C.imm)).length=l.length+1:=by simp
  rw[e4] at g2 g3
  rw[e5] at g2
  exact⟨v',.c (.own (Γ.σ0.length,[]) 0 (l.length+1)),_,φ',rfl,⟨rfl,rfl⟩,g2,g3.toRs⟩
 ·have hi:ni<l.length:=by omega
  obtain⟨b0,cap0,us0,hx1,hx2,hx3⟩:=S0 hR hσ hu
  obtain⟨b2,cap2,us2,hy1,hy2,hy3⟩:=S0 hR hσ2 hv
  rcases hu with⟨_,_,_,h4⟩|⟨b,base,cap,arr,ety,ad,hp,hvv,had,hcap,hmax,hjn,hbk,hsz⟩
  ·omega
  rcases hv with⟨_,_,_,h4⟩|⟨c2,base2,cap2',arr2,ety2,ad2,hp2,hvv2,had2,hcap2,hmax2,hjn2,hbk2,hsz2⟩
  ·omega
  rw[hx1] at hvv;cases hvv
  rw[hy1] at hvv2;cases hvv2
  have:=had (by omega);subst this
  have:=had2 (by omega);subst this
  simp only[Nat.zero_mul,Nat.add_zero,Nat.zero_add,vlen,List.drop_zero] at *
  have hvb:c2 ≠ b:=fun e=>hne (hR.st.inj id2 id _ _ _ _ hσ2 hσ hp2 hp (by simpa using e))
  have r1:Rw Γ.w0 Γ.φ0 Γ.σ0 (Al Γ.N Γ.φ0 Γ.σ0) 2 ((l.map f).map (·.map C.imm)) us0:=by
   have:=hx3.rw
   rwa [List.take_of_length_le (by simp)] at this
  have r2:Rw Γ.w0 Γ.φ0 Γ.σ0 (Al Γ.N Γ.φ0 Γ.σ0) 2 (([x].map f).map (·.map C.imm)) us2:=by
   have:=hy3.rw
   rwa [List.take_of_length_le (by simp)] at this
  have r3:=((r1.take ni (by simp;omega)).append r2).append (r1.drop ni (by simp;omega))
  rw[ins_lists] at r3
  have u0l:us0.length=l.length * 2:=by rw[r1.len];simp
  have u2l:us2.length=1 * 2:=by rw[r2.len];simp
  have cellA:∀j v,us0[j]? =some v→Γ.w0.cell? ⟨b,base+j,none⟩=some v:=fun j v hj=>by
   have:=hx3.cell _ rfl j v hj
   rwa [Addr.add_lit] at this
  have cellB:∀j v,us2[j]? =some v→Γ.w0.cell? ⟨c2,base2+j,none⟩=some v:=fun j v hj=>by
   have:=hy3.cell _ rfl j v hj
   rwa [Addr.add_lit] at this
  have one1:∀v ∈ us0,v.oneCell'=true:=hx3.one
  have one2:∀v ∈ us2,v.oneCell'=true:=hy3.one
  have hdl:(us0.drop (ni * 2)).length=(l.length - ni) * 2:=by rw[List.length_drop,u0l,Nat.sub_mul]
  have htl:(us0.take (ni * 2)).length=ni * 2:=by rw[List.length_take];omega
  have cellD:∀j v,(us0.drop (ni * 2))[j]? =some v→Γ.w0.cell? ⟨b,base+ni * 2+j,none⟩=some v:=fun j v hj=>by
   rw[List.getElem?_drop] at hj
   rw[Nat.add_assoc];exact cellA _ v hj
  have hids:id.1<Γ.σ0.length:=b6.lt_of hσ
  rw[hx1,hy1]
  by_cases hroom:l.length+1≤cap0
  · -- room
   have hc:=ins_shift b base l.length cap0 ni c2 base2 cap2 arr arr2 ety ety2 (us0.drop (ni * 2)) us2 Γ.w0 hi hroom (by unfold maxLen at hmax;omega) hvb hbk hbk2 (by omega) hdl u2l cellD cellB (fun v hv=>one1 v (List.mem_of_mem_drop hv)) one2
   refine hc.mono ?_
   rintro e w2 ⟨rfl,rfl⟩
   have hK0:=Kept.drew Γ.w0 Γ.φ0 Γ.σ0 (Al Γ.N Γ.φ0 Γ.σ0)
   have s1:(spl arr (base+(ni+1) * 2) (us0.drop (ni * 2))).size=arr.size:=ai7 (by omega)
   have s2:(spl (spl arr (base+(ni+1) * 2) (us0.drop (ni * 2))) (base+ni * 2) us2).size=arr.size:=by rw[ai7 (by omega),s1]
   have hO:=Rs.reown (k:=2) (base':=base) (es':=((l.take ni++x::l.drop ni).map f).map (·.map C.imm)) (arr':=spl (spl arr (base+(ni+1) * 2) (us0.drop (ni * 2))) (base+ni * 2) us2) hR.toRs.drew hσ hp hbk (r3.hk) (by rw[s2];simp only[List.length_map,nlen];omega) (fun j e o y he hy=>by
    obtain⟨uu,hu,hr⟩:=r3.rel j e o y he hy
    refine⟨uu,?_,hr.mono hK0⟩
    have hlt:=(lG.1 hu).1
    simp only[List.length_append,htl,hdl,u2l] at hlt
    rw[spl_get (by omega),spl_get (by omega)]
    by_cases c1:j * 2+o<ni * 2
    ·rw[if_neg (by omega),if_neg (by omega)]
     rw[List.append_assoc,List.getElem?_append_left (by omega),List.getElem?_take,if_pos c1] at hu
     have:=cellA _ _ hu
     rw[P1 hbk] at this
     simpa using this
    ·by_cases c2:j * 2+o<ni * 2+2
     ·rw[if_pos (by omega)]
      rw[List.append_assoc,List.getElem?_append_right (by omega),List.getElem?_append_left (by omega),htl] at hu
      rw[← hu];congr 1;omega
     ·rw[if_neg (by omega),if_pos (by omega)]
      rw[List.getElem?_append_right (by simp[htl,u2l];omega)] at hu
      rw[← hu]
      simp only[List.length_append,htl,u2l]
      congr 1;omega)
   refine⟨_,_,_,_,rfl,⟨rfl,rfl⟩,?_,hO.2⟩
   refine I1 (k:=2) (es:=((l.take ni++x::l.drop ni).map f).map (·.map C.imm)) (by rw[← b6.length_put Γ.σ0 id none];exact b6.get_last _ _) rfl (.inr ⟨b,base,cap0,_,ety,⟨b,base,none⟩,by simp,rfl,fun _=>by simp,hroom,hmax,by simp only[List.length_map,nlen];omega,setRow_heap Γ.w0.drew b arr _ ety (0,0) hbk,by rw[s2];omega⟩)
  ·have hc:=ins_grow b base l.length cap0 ni c2 base2 cap2 (us0.take (ni * 2)) (us0.drop (ni * 2)) us2 Γ.w0 hi hcap (by omega) hb (hR.toRs.blk_lt hσ hp) (hR.toRs.blk_lt hσ2 hp2) htl hdl u2l (fun j v hj=>by
    rw[List.getElem?_take] at hj
    split at hj
    ·exact cellA _ v hj
    ·cases hj) cellD cellB (fun v hv=>one1 v (List.mem_of_mem_drop hv)) one2
   refine hc.mono ?_
   rintro e w2 ⟨G,ROW,g1,g2,g3,g4,rfl,rfl⟩
   obtain⟨hK1,hR1⟩:=hR.toRs.drew.drew.kill id
   have hK0:Kept Γ.w0 Γ.w0.drew.drew Γ.φ0 Γ.φ0 Γ.σ0 Γ.σ0 (Al Γ.N Γ.φ0 Γ.σ0) (Al Γ.N Γ.φ0 Γ.σ0):=Kept.trans (show Γ.w0.heap.size≤Γ.w0.drew.heap.size from Nat.le_refl _) (Kept.drew Γ.w0 Γ.φ0 Γ.σ0 _) (Kept.drew Γ.w0.drew Γ.φ0 Γ.σ0 _)
   have hK01:=Kept.trans (show Γ.w0.heap.size≤Γ.w0.drew.drew.heap.size from Nat.le_refl _) hK0 hK1
   have s1:(spl ROW (ni * 2) us2).size=G * 2:=by rw[ai7 (by omega)];exact g3
   have s2:(spl (spl ROW (ni * 2) us2) ((ni+1) * 2) (us0.drop (ni * 2))).size=G * 2:=by rw[ai7 (by omega),s1]
   have hA:=Rs.alloc (k:=2) (es:=((l.take ni++x::l.drop ni).map f).map (·.map C.imm)) (arr:=spl (spl ROW (ni * 2) us2) ((ni+1) * 2) (us0.drop (ni * 2))) (ety:=choT) hR1 r3.hk (by rw[s2];simp only[List.length_map,nlen];omega) (fun j e o y he hy=>by
    obtain⟨uu,hu,hr⟩:=r3.rel j e o y he hy
    refine⟨uu,?_,hr.mono hK01⟩
    have hlt:=(lG.1 hu).1
    simp only[List.length_append,htl,hdl,u2l] at hlt
    rw[spl_get (by omega),spl_get (by omega)]
    by_cases c1:j * 2+o<ni * 2
    ·rw[if_neg (by omega),if_neg (by omega)]
     rw[List.append_assoc,List.getElem?_append_left (by omega)] at hu
     exact g4 _ _ hu
    ·by_cases c2:j * 2+o<ni * 2+2
     ·rw[if_neg (by omega),if_pos (by omega)]
      rw[List.append_assoc,List.getElem?_append_right (by omega),List.getElem?_append_left (by omega),htl] at hu
      exact hu
     ·rw[if_pos (by omega)]
      rw[List.getElem?_append_right (by simp[htl,u2l];omega)] at hu
      rw[← hu]
      simp only[List.length_append,htl,u2l]
      congr 1;omega)
   rw[b6.length_put] at hA
   refine⟨_,_,_,_,rfl,⟨rfl,rfl⟩,?_,hA.2⟩
   refine I1 (k:=2) (es:=((l.take ni++x::l.drop ni).map f).map (·.map C.imm)) (by rw[← b6.length_put Γ.σ0 id none];exact b6.get_last _ _) rfl (.inr ⟨Γ.w0.heap.size,0,G,_,choT,⟨Γ.w0.heap.size,0,none⟩,by simp[o9],rfl,fun _=>by simp,g1,g2,by simp only[List.length_map,nlen];omega,heap_alloc_new Γ.w0.drew.drew _,by rw[s2];omega⟩)
end Ab
end
section
namespace Ab
open Go Go.Proofs
open Tryz
def insL{α:Type}(l:List α)(i:Int)(x:α):Option (List α):=if 0≤i∧i≤l.length∧(l.length+1) * 32≤140737488355328 then some (l.take i.toNat++x::l.drop i.toNat) else none
section
variable {σ0:b6} {sz:Nat} {Q:Post} {env:Env} {σv σ':b6} {ops:Array Oper} {rest:List Oper} {dst:Option Nat} {ty:TypeId} {pos:String} {after:Array Edge}
theorem S.insert{α:Type}{f:α→List I}{x:Operand}{al:List Operand}{ats:Array TypeId}{id id2 n':Id}{n m:Nat}{i:Int}{l l':List α}{y:α}{σ1:b6}(hl:insL l i y=some l')(hx:ev env x=some (.c (.fn insF [])))
  (ha:evs env al=some [.c (.own id 0 n),.c (int i),.c (.own id2 0 m)]) (hn:n=l.length) (hm:m=1) (hne:(id2.1==id.1)=false) (hσ:σv[id]? =some (some (vec 2 f l))) (hσ2:σv[id2]? =some (some (vec 2 f [y])))
  (hd:f5 sz dst=true) (hid:newF σv=some n') (h1:putF σv id none=some σ1) (hσ':x4 σ1 (.one (vec 2 f l'))=some σ') (h:AOps prog σ0 sz ops Q rest (St.mk (putE env dst (.c (.own n' 0 l'.length))) σ')):
  AOps prog σ0 sz ops Q (⟨dst,.call ⟨.value x,al.toArray,ats⟩,ty,pos,after,none⟩::rest) (St.mk env σv):=by
 have h2:=C9 h1
 have h3:=B3 hid;have h4:=u5 hσ'
 subst hn hm h2 h3 h4
 unfold insL at hl
 split at hl
 ·rename_i c
  cases hl
  refine AOps.callS hx ha hd (ins_fn hσ hσ2 (fun e=>by rw[e] at hne;simp at hne) c.2.2 c.1 c.2.1) ?_
  rintro r σ2 ⟨rfl,rfl⟩
  cases dst<;>exact h
 ·cases hl
end
end Ab
end
section
namespace Ab
open Go Go.Sort
abbrev U32:Type:={x:Int // 0≤x∧x<4294967296}
noncomputable def sortFU(cmp:Int→Int→Option Int)(l:Li):Option Li:=open Classical in
 if h:∀x ∈ l,0≤x∧x<4294967296 then(ai5 (α:=U32) (fun a b=>cmp a.1 b.1) (l.attach.map fun x=>⟨x.1,h x.1 x.2⟩)).map fun m=>m.map (·.1) else none
theorem sortFU_get{cmp:Int→Int→Option Int}{l l':Li}(h:sortFU cmp l=some l'):∃(k m:List U32),l=k.map (·.1)∧l'=m.map (·.1)∧ai5 (fun a b=>cmp a.1 b.1) k=some m:=by
 unfold sortFU at h
 split at h
 ·rename_i hr
  obtain⟨m,h1,rfl⟩:=oM.1 h
  exact⟨_,m,by simp,rfl,h1⟩
 ·cases h
theorem sortFU_len{cmp:Int→Int→Option Int}{l l':Li}(h:sortFU cmp l=some l'):l.length=l'.length:=by
 obtain⟨k,m,rfl,rfl,h3⟩:=sortFU_get h
 simpa using sortFL_len h3
section
variable {P:Program} {σ0:b6} {sz:Nat} {Q:Post} {env:Env} {σv σ':b6} {ops:Array Oper} {rest:List Oper} {dst:Option Nat} {ty:TypeId} {pos:String} {after:Array Edge}
theorem vec_u32(m:List U32):vec 1 (fun a:Int=>[I.val (.int .u32 a)]) (m.map (·.1))=vec 1 (fun a:U32=>[I.val (.int .u32 a.1)]) m:=by
 simp[vec,Function.comp_def]
theorem S.sortFU{cmp:Int→Int→Option Int}{x:Operand}{al:List Operand}{ats:Array TypeId}{fs g:FuncId}{id:Id}{n:Nat}{l l':Li}(hs:sortFU cmp l=some l')
  (hcmp:∀{a b r},cmp a b=some r→e8 P g [.c (.imm (.val (.int .u32 a))),.c (.imm (.val (.int .u32 b)))] (.c (int r))) (hf:SortFOk P fs) (hgn:U6 P g) (hx:ev env x=some (.c (.fn fs []))) (ha:evs env al=some [.c (.own id 0 n),.c (.fn g [])]) (hn:n=l.length) (hσ:σv[id]? =some (some (vec 1 (fun a:Int=>[I.val (.int .u32 a)]) l)))
  (hd:f5 sz dst=true) (hσ':putF σv id (some (vec 1 (fun a:Int=>[I.val (.int .u32 a)]) l'))=some σ') (h:AOps P σ0 sz ops Q rest (St.mk (putE env dst (.tup [])) σ')):
  AOps P σ0 sz ops Q (⟨dst,.call ⟨.value x,al.toArray,ats⟩,ty,pos,after,none⟩::rest) (St.mk env σv):=by
 obtain⟨k,m,rfl,rfl,h3⟩:=sortFU_get hs
 rw[vec_u32] at hσ hσ'
 exact S.sortF (α:=U32) (fun a=>.val (.int .u32 a.1)) h3 rfl (fun {a b r} h=>hcmp h) hf hgn hx ha (by rw[hn];simp) hσ hd hσ' h
end
end Ab
end
section
namespace Ab
open Go Go.Proofs Go.Sort Go.Lib
section
variable {P:Program} {σ0:b6} {sz:Nat} {Q:Post} {env:Env} {σv σ':b6} {ops:Array Oper} {rest:List Oper} {dst:Option Nat} {ty:TypeId} {pos:String} {after:Array Edge}
end
end Ab
end
section
namespace Ab
open Go
section
variable {α β:Type} {pre post:α→List I} {g:α→List β} {kb k r:Nat} {fb:β→List I} {M:List α}
def oc(pre post:α→List I)(c:C)(a:α):List C:=(pre a).map .imm++c::(post a).map .imm
end
section
variable {P:Program} {σ0:b6} {sz:Nat} {Q:Post} {env env':Env} {σv σ':b6} {ops:Array Oper} {rest:List Oper} {dst:Option Nat} {ty:TypeId} {pos:String} {after:Array Edge}
variable {α β:Type} {pre post:α→List I} {g:α→List β} {kb k r:Nat} {fb:β→List I} {M:List α}
/-! ### Rows cease to change -/
theorem av8.set{e:Ent}(h:av8 r σv):av8 r (σv.set r e):=fun i b hi hb q=>by
 refine h i b hi ?_ q
 obtain⟨i1,l⟩:=i
 rw[b6.at_eq] at hb ⊢
 simp only[b6.at,List.getElem?_set] at hb ⊢
 rwa [if_neg (fun e=>hi e.symm)] at hb
/-! ### The block with one cell owned elsewhere: looked at, written -/
end
end Ab
end
section
namespace Ab
open Go Go.Proofs
set_option linter.all false
abbrev e9(l:Li):List I:=[.sl 1 (l.map intI)]
structure n5 where
  add:Li
  del:Li
  weight:Int
abbrev w9(v:n5):List I:=[.sl 1 (List.map intI v.add),.sl 1 (List.map intI v.del),.val (.int .i64 v.weight)]
structure i5 where
  pre:Li
  outcomes:List n5
  cost:Int
abbrev o8(v:i5):List I:=[.sl 1 (List.map intI v.pre),.sl 3 (List.map w9 v.outcomes),.val (.int .i64 v.cost)]
structure d4 where
  facts:Int
  init:Li
  goal:Li
  operators:List i5
abbrev eTOpenTask(v:d4):List I:=[.val (.int .i64 v.facts),.sl 1 (List.map intI v.init),.sl 1 (List.map intI v.goal),.sl 3 (List.map o8 v.operators)]
structure am2 where
  fx:Int
  fy:Int
  signed:Bool
  code:Int
structure Truntime_boundsError where
  fx:Int
  fy:Int
  signed:Bool
  code:Int
structure ak1 where
  facts:Int
  init:Li
  goal:Li
  operators:List i5
structure aw3 where
  pre:Li
  outcomes:List n5
  cost:Int
structure d9 where
  state:Li
  operator:Int
abbrev i9(v:d9):List I:=[.sl 1 (List.map intI v.state),.val (.int .i64 v.operator)]
structure TCode_int_Index_int where
  code:Int
  index:Int
structure k6 where
  code:Int
  index:Int
structure s9 where
  pre:Li
  add:Li
  del:Li
  cost:Int
abbrev u4(v:s9):List I:=[.sl 1 (List.map intI v.pre),.sl 1 (List.map intI v.add),.sl 1 (List.map intI v.del),.val (.int .i64 v.cost)]
structure am3 where
  facts:Int
  init:Li
  goal:Li
  operators:List s9
structure m6 where
  facts:Int
  init:Li
  goal:Li
  operators:List s9
abbrev P9(v:Int×Int):List I:=[.val (.int .i64 v.1),.val (.int .i64 v.2)]
structure TState_int_Operator_int where
  state:Li
  operator:Int
structure TAdd_int_Del_int_Weight_int where
  add:Li
  del:Li
  weight:Int
structure ay6 where
  pre:Li
  add:Li
  del:Li
  cost:Int
structure z6 where
  ffrom:Int
  cost:Int
abbrev j9(v:z6):List I:=[.val (.int .u32 v.ffrom),.val (.int .i64 v.cost)]
structure Tspace_Step_uint32 where
  op:Int
  cost:Int
  to:Int
structure TOp_int_Cost_int_To_uint32 where
  op:Int
  cost:Int
  to:Int
structure Tfrom_uint32_cost_int where
  ffrom:Int
  cost:Int
structure j8 where
  pre:Int
  add:Int
  del:Int
  cost:Int
abbrev d7(v:j8):List I:=[.val (.int .u32 v.pre),.val (.int .u32 v.add),.val (.int .u32 v.del),.val (.int .i64 v.cost)]
structure au1 where
  start:Int
  goal:Int
  ops:List j8
structure Tspace_Words where
  start:Int
  goal:Int
  ops:List j8
structure au0 where
  pre:Int
  add:Int
  del:Int
  cost:Int
structure aw5 where
  item:Int
  key:Int
  time:Int
  fat:Int
structure b9 where
  item:Int
  key:Int
  time:Int
  fat:Int
abbrev b8(v:b9):List I:=[.val (.int .u32 v.item),.val (.int .i64 v.key),.val (.int .i64 v.time),.val (.int .i64 v.fat)]
structure Tnode_int_from_int_step_int where
  node:LL
  ffrom:Int
  step:Int
structure Tbelief_entry_int where
  node:LL
  ffrom:Int
  step:Int
def al0:Option d4:=some (⟨1,[],[0],[(⟨[],[(⟨[0],[],1⟩:n5)],1⟩:i5)]⟩:d4)
def Y0(l:Li)(nv:Int):Int→Unit→Option (Unit⊕Bool):=fun t3 _=>Option.bind (ix l t3) fun a12=>Option.bind (if a12<0 then some true else if nv≤a12 then some true else if 0<t3 then Option.bind (ix l (t3 - 1)) fun a29=>some (decide (a12≤a29)) else some false) fun t4=>if t4=true then some (.inr false) else some (.inl ())
def x8(l:Li)(nv:Int):Option Bool:=(Option.bind (rngX 0 (l.length:Int) (Y0 l nv) ()) fun| .inl _=>some true| .inr x=>some x)
def cmp_isNaN_int(xv:Int):Option Bool:=some (!(decide (xv=xv)))
def aa9(xv:Int)(yv:Int):Option Bool:=Option.bind (Option.bind (cmp_isNaN_int xv) fun a6=>if a6=true then Option.bind (cmp_isNaN_int yv) fun a9=>if(!a9)=true then some true else some (decide (xv<yv)) else some (decide (xv<yv))) fun t3=>some t3
def P8(xv:Int):Option Bool:=some (!(decide (xv=xv)))
def C2(xv:Li)(target:Int):(Int×Int)→Option ((Int×Int)⊕Int):=fun(iv3,j4)=>if iv3<j4 then Option.bind (ix xv (w64 (shrW .u64 ((IntKind.u64).wrap (w64 (iv3+j4))) 1))) fun a24=>Option.bind (aa9 a24 target) fun a27=>if a27=true then some (.inl (w64 ((w64 (shrW .u64 ((IntKind.u64).wrap (w64 (iv3+j4))) 1))+1),j4)) else some (.inl (iv3,w64 (shrW .u64 ((IntKind.u64).wrap (w64 (iv3+j4))) 1))) else some (.inr iv3)
noncomputable def w6(xv:Li)(target:Int):Option (Int×Bool):=Option.bind (Loop (C2 xv target) (0,(xv.length:Int))) fun iv5=>Option.bind (if iv5<(xv.length:Int) then Option.bind (ix xv iv5) fun a38=>if a38=target then some true else Option.bind (ix xv iv5) fun a45=>Option.bind (P8 a45) fun a47=>if a47=true then Option.bind (P8 target) fun a50=>some a50 else some false else some false) fun t8=>some (iv5,t8)
noncomputable def ac0(xv:Int)(c2:Li):Option Bool:=Option.bind (w6 c2 xv) fun a9=>some a9.2
def E9(sv:Li)(fv:Int→Option Bool):Int→Unit→Option (Unit⊕Int):=fun t3 _=>Option.bind (ix sv t3) fun a14=>Option.bind (fv a14) fun a16=>if a16=true then some (.inr t3) else some (.inl ())
def G8(sv:Li)(fv:Int→Option Bool):Option Int:=(Option.bind (rngX 0 (sv.length:Int) (E9 sv fv) ()) fun| .inl _=>some (-1)| .inr x=>some x)
def B2(sv:Li)(fv:Int→Option Bool):Option Bool:=Option.bind (G8 sv fv) fun a7=>some (decide (0≤a7))
noncomputable def V2(av:Li)(bv:Li):Option Bool:=Option.bind (B2 av (fun y1=>ac0 y1 bv)) fun a7=>some a7
noncomputable def G7(ov:i5)(facts:Int):Int→Unit→Option (Unit⊕Int):=fun t6 _=>Option.bind (ix ov.outcomes t6) fun a38=>Option.bind (Option.bind (x8 a38.add facts) fun a44=>if(!a44)=true then some true else Option.bind (x8 a38.del facts) fun a50=>if(!a50)=true then some true else Option.bind (V2 a38.add a38.del) fun a58=>some a58) fun t7=>if t7=true then some (.inr 5) else if((decide (a38.weight<1))||(decide (6<a38.weight)))=true then some (.inr 3) else some (.inl ())
noncomputable def N2(ov:i5)(facts:Int):Option Int:=Option.bind (x8 ov.pre facts) fun a11=>if(!a11)=true then some 5 else if((decide (ov.cost<0))||(decide (100<ov.cost)))=true then some 3 else if((decide ((ov.outcomes.length:Int)=0))||(decide (4<(ov.outcomes.length:Int))))=true then some 9 else(Option.bind (rngX 0 (ov.outcomes.length:Int) (G7 ov facts) ()) fun| .inl _=>some 0| .inr x=>some x)
noncomputable def Q0(ov:d4):Int→Unit→Option (Unit⊕k6):=fun t6 _=>Option.bind (ix ov.operators t6) fun a44=>Option.bind (N2 a44 ov.facts) fun a49=>if a49=0 then some (.inl ()) else some (.inr (⟨a49,t6⟩:k6))
noncomputable def D2(ov:d4):Option k6:=if((decide (ov.facts<0))||(decide (24<ov.facts)))=true then some (⟨3, -1⟩:k6) else Option.bind (x8 ov.init ov.facts) fun a21=>if(!a21)=true then some (⟨5, -2⟩:k6) else Option.bind (x8 ov.goal ov.facts) fun a29=>if(!a29)=true then some (⟨5, -3⟩:k6) else if 40<(ov.operators.length:Int) then some (⟨2, -1⟩:k6) else(Option.bind (rngX 0 (ov.operators.length:Int) (Q0 ov) ()) fun| .inl _=>some (⟨0,0⟩:k6)| .inr x=>some x)
def internal_strconv_small(iv:Int):Option ByteArray:=if iv<10 then Option.bind (subS (⟨#[48,49,50,51,52,53,54,55,56,57,97,98,99,100,101,102,103,104,105,106,107,108,109,110,111,112,113,114,115,116,117,118,119,120,121,122]⟩:ByteArray) iv (w64 (iv+1))) fun a8=>some a8 else Option.bind (subS (⟨#[48,48,48,49,48,50,48,51,48,52,48,53,48,54,48,55,48,56,48,57,49,48,49,49,49,50,49,51,49,52,49,53,49,54,49,55,49,56,49,57,50,48,50,49,50,50,50,51,50,52,50,53,50,54,50,55,50,56,50,57,51,48,51,49,51,50,51,51,51,52,51,53,51,54,51,55,51,56,51,57,52,48,52,49,52,50,52,51,52,52,52,53,52,54,52,55,52,56,52,57,53,48,53,49,53,50,53,51,53,52,53,53,53,54,53,55,53,56,53,57,54,48,54,49,54,50,54,51,54,52,54,53,54,54,54,55,54,56,54,57,55,48,55,49,55,50,55,51,55,52,55,53,55,54,55,55,55,56,55,57,56,48,56,49,56,50,56,51,56,52,56,53,56,54,56,55,56,56,56,57,57,48,57,49,57,50,57,51,57,52,57,53,57,54,57,55,57,56,57,57]⟩:ByteArray) (w64 (iv * 2)) (w64 ((w64 (iv * 2))+2))) fun a14=>some a14
abbrev ad0(iv:Int)(base:Int)(l:Li):b6:=[.one (vec 1 eU8 l)]
def C0(iv:Int)(base:Int)(l:Li):Option Li:=if base=10 then if iv<100 then Option.bind (internal_strconv_small (w64 iv)) fun a16=>Option.bind (app 1 l (strL a16)) fun a17=>some a17 else none else none
abbrev ae8(iv:Int)(base:Int)(l:Li):b6:=[.one (vec 1 eU8 l)]
def C6(iv:Int)(base:Int)(l:Li):Option Li:=Option.bind (if iv<0 then none else some ()) fun _=>Option.bind (C0 ((IntKind.u64).wrap iv) base l) fun a20=>some a20
abbrev aq6(iv:Int)(base:Int)(l:Li):b6:=[.one (vec 1 eU8 l)]
def E0(iv:Int)(base:Int)(l:Li):Option Li:=Option.bind (C6 iv base l) fun a10=>some a10
def am1(a12:Li):Int→Li→Option Li:=fun t5 c4=>Option.bind (ix a12 t5) fun a18=>Option.bind (E0 a18 10 c4) fun a22=>Option.bind (app 1 a22 [44]) fun a24=>some a24
def al6(l:LL):Int→Li→Option Li:=fun t3 c2=>Option.bind (ix l t3) fun a12=>(Option.bind (forR 0 (a12.length:Int) (am1 a12) c2) fun c4=>Option.bind (app 1 c4 [59]) fun a28=>some a28)
def V8(l:LL):Option ByteArray:=(Option.bind (forR 0 (l.length:Int) (al6 l) []) fun c2=>some (strB c2))
def K6(sv:Li)(a12:Int):Int→Option (Int⊕Int):=fun iv5=>Option.bind (if iv5<(sv.length:Int) then Option.bind (ix sv iv5) fun a21=>some (decide (a21<a12)) else some false) fun t7=>if t7=true then some (.inl (w64 (iv5+1))) else some (.inr iv5)
noncomputable def T0(sv:Li)(part:Li):Int→Int→Option (Int⊕Bool):=fun t4 iv3=>Option.bind (ix part t4) fun a12=>Option.bind (Loop (K6 sv a12) iv3) fun iv6=>Option.bind (if iv6=(sv.length:Int) then some true else Option.bind (ix sv iv6) fun a35=>some (!(decide (a35=a12)))) fun t11=>if t11=true then some (.inr false) else some (.inl iv6)
noncomputable def z7(sv:Li)(part:Li):Option Bool:=(Option.bind (rngX 0 (part.length:Int) (T0 sv part) 0) fun| .inl iv3=>some true| .inr x=>some x)
noncomputable def ab2(ov:d4)(sv:Li)(op:Int):Option Bool:=Option.bind (ix ov.operators op) fun a11=>Option.bind (z7 sv a11.pre) fun a14=>some a14
noncomputable def af3(sv:Li)(del:Li):Int→Li→Option Li:=fun t5 c4=>Option.bind (Option.bind (ix sv t5) fun a16=>Option.bind (w6 del a16) fun a21=>if(!a21.2)=true then Option.bind (app 8 c4 [a16]) fun a29=>some a29 else some c4) fun c6=>some c6
noncomputable def M6(sv:Li)(add:Li)(del:Li):Option Li:=(Option.bind (forR 0 (sv.length:Int) (af3 sv del) []) fun c4=>Option.bind (app 8 c4 add) fun a33=>Option.bind (sortL a33) fun a35=>some (ae7 a35))
def cmp_Compare_int(xv:Int)(yv:Int):Option Int:=Option.bind (cmp_isNaN_int xv) fun a8=>Option.bind (cmp_isNaN_int yv) fun a10=>if a8=true then if a10=true then some 0 else some (-1) else if a10=true then some 1 else if xv<yv then some (-1) else if yv<xv then some 1 else some 0
def G3(s11:Li)(s22:Li):Int→Unit→Option (Unit⊕Int):=fun t3 _=>Option.bind (ix s11 t3) fun a14=>if(s22.length:Int)≤t3 then some (.inr 1) else Option.bind (ix s22 t3) fun a22=>Option.bind (cmp_Compare_int a14 a22) fun a26=>if a26=0 then some (.inl ()) else some (.inr a26)
def slices_Compare_int_int(s11:Li)(s22:Li):Option Int:=(Option.bind (rngX 0 (s11.length:Int) (G3 s11 s22) ()) fun| .inl _=>if(s11.length:Int)<(s22.length:Int) then some (-1) else some 0| .inr x=>some x)
def Q8(s11:Li)(s22:Li):Int→Unit→Option (Unit⊕Bool):=fun t4 _=>Option.bind (ix s11 t4) fun a18=>Option.bind (ix s22 t4) fun a22=>if a18=a22 then some (.inl ()) else some (.inr false)
def B4(s11:Li)(s22:Li):Option Bool:=if(s11.length:Int)=(s22.length:Int) then(Option.bind (rngX 0 (s11.length:Int) (Q8 s11 s22) ()) fun| .inl _=>some true| .inr x=>some x) else some false
def J0(xv:LL)(target:Li)(cmp:Li→Li→Option Int):(Int×Int)→Option ((Int×Int)⊕Int):=fun(iv4,j5)=>if iv4<j5 then Option.bind (ix xv (w64 (shrW .u64 ((IntKind.u64).wrap (w64 (iv4+j5))) 1))) fun a27=>Option.bind (cmp a27 target) fun a30=>if a30<0 then some (.inl (w64 ((w64 (shrW .u64 ((IntKind.u64).wrap (w64 (iv4+j5))) 1))+1),j5)) else some (.inl (iv4,w64 (shrW .u64 ((IntKind.u64).wrap (w64 (iv4+j5))) 1))) else some (.inr iv4)
noncomputable def s7(xv:LL)(target:Li)(cmp:Li→Li→Option Int):Option (Int×Bool):=Option.bind (Loop (J0 xv target cmp) (0,(xv.length:Int))) fun iv6=>Option.bind (if iv6<(xv.length:Int) then Option.bind (ix xv iv6) fun a43=>Option.bind (cmp a43 target) fun a46=>some (decide (a46=0)) else some false) fun t9=>some (iv6,t9)
abbrev B8(l:LL):b6:=[.one (vec 1 e9 l)]
def y7(l:LL)(kv54:Int):Int→((LL)×Int)→Option ((LL)×Int):=fun k258 (c56,kv57)=>Option.bind (Option.bind (ixV c56 (0+kv54) ((l.length:Int) - kv54) k258) fun a41=>Option.bind (ixV c56 (0+kv54) ((l.length:Int) - kv54) (k258 - 1)) fun a46=>Option.bind (B4 a41 a46) fun a48=>if(!a48)=true then Option.bind (ixV c56 (0+kv54) ((l.length:Int) - kv54) k258) fun a54=>Option.bind (ix c56 kv57) fun a56=>some (c56.set kv57.toNat a54,w64 (kv57+1)) else some (c56,kv57)) fun⟨c59,kv60⟩=>some (c59,kv60)
def w5(l:LL):Int→Unit→Option (Unit⊕(LL)):=fun kv54 _=>Option.bind (ix l kv54) fun a21=>Option.bind (ix l (kv54 - 1)) fun a26=>Option.bind (B4 a21 a26) fun a28=>if a28=true then Option.bind (cutV (l.length:Int) kv54 (l.length:Int)) fun u31=>(Option.bind (forR 1 ((l.length:Int) - kv54) (y7 l kv54) (l,kv54)) fun⟨c56,kv57⟩=>Option.bind (cutV (c56.length:Int) kv57 (c56.length:Int)) fun u61=>Option.bind (cutV ((clrL c56 (0+kv57) ((c56.length:Int) - kv57) []).length:Int) 0 kv57) fun u64=>some (.inr (r9 (clrL c56 (0+kv57) ((c56.length:Int) - kv57) []) 0 kv57))) else some (.inl ())
def A5(l:LL):Option (LL):=if(l.length:Int)<2 then some l else(Option.bind (rngX 1 (l.length:Int) (w5 l) ()) fun| .inl _=>some l| .inr x=>some x)
abbrev ax3(l:LL):b6:=[.one (vec 1 e9 l)]
noncomputable def H8(l:LL):Option (LL):=Option.bind (ai5 slices_Compare_int_int l) fun a4=>Option.bind (A5 a4) fun a6=>some a6
noncomputable def T3(sv:Li)(a20:i5):Int→(LL)→Option (LL):=fun t5 c4=>Option.bind (ix a20.outcomes t5) fun a26=>Option.bind (M6 sv a26.add a26.del) fun a34=>Option.bind (app 24 c4 [a34]) fun a36=>some a36
noncomputable def L7(c4:LL)(a40:(LL))(a47:i5):Int→Li→Option Li:=fun t7 c6=>Option.bind (ix a47.outcomes t7) fun a54=>Option.bind (ix c4 t7) fun a60=>Option.bind (s7 a40 a60 slices_Compare_int_int) fun a62=>Option.bind (ix c6 a62.1) fun a67=>Option.bind (ix c6 a62.1) fun a72=>some (c6.set a62.1.toNat (w64 (a67+a54.weight)))
noncomputable def F3(ov:d4)(sv:Li)(op:Int):Option ((LL)×Li):=Option.bind (ix ov.operators op) fun a20=>(Option.bind (forR 0 (a20.outcomes.length:Int) (T3 sv a20) []) fun c4=>Option.bind (G2 c4) fun a39=>Option.bind (H8 a39) fun a40=>Option.bind (mkL 8 (a40.length:Int) 0) fun a43=>Option.bind (ix ov.operators op) fun a47=>(Option.bind (forR 0 (a47.outcomes.length:Int) (L7 c4 a40 a47) a43) fun c6=>some (a40,c6)))
def ad6:((LL)×(List (ByteArray×Int)))→Option (((LL)×(List (ByteArray×Int)))⊕((LL)×Bool)):=fun(c10,c11)=>some (.inl (c10,c11))
def Q9:((LL)×(List (ByteArray×Int)))→Option (((LL)×(List (ByteArray×Int)))⊕((LL)×Bool)):=fun(c16,c17)=>some (.inl (c16,c17))
def I3(a48:(LL)×Li):Int→((LL)×(List (ByteArray×Int)))→Option (((LL)×(List (ByteArray×Int)))⊕((LL)×Bool)):=fun t15 (c13,c14)=>Option.bind (ix a48.1 t15) fun a55=>Option.bind (V8 [a55]) fun a59=>if 0<Option.getD (mget c14 a59) 0 then Q9 (c13,c14) else if(c13.length:Int)=2000 then some (.inr ([],false)) else Option.bind (app 24 c13 [a55]) fun a72=>Q9 (a72,mset c14 a59 1)
noncomputable def I2(ov:d4)(atv4:Int):Int→((LL)×(List (ByteArray×Int)))→Option (((LL)×(List (ByteArray×Int)))⊕((LL)×Bool)):=fun t9 (c7,c8)=>Option.bind (ix c7 atv4) fun a36=>Option.bind (ab2 ov a36 t9) fun a39=>if(!a39)=true then ad6 (c7,c8) else Option.bind (ix c7 atv4) fun a45=>Option.bind (F3 ov a45 t9) fun a48=>(Option.bind (rngX 0 (a48.1.length:Int) (I3 a48) (c7,c8)) fun| .inl (c13,c14)=>ad6 (c13,c14)| .inr x=>some (.inr x))
noncomputable def D3(ov:d4):((LL)×(List (ByteArray×Int))×Int)→Option (((LL)×(List (ByteArray×Int))×Int)⊕((LL)⊕((LL)×Bool))):=fun(c2,c3,atv4)=>if atv4<(c2.length:Int) then(Option.bind (rngX 0 (ov.operators.length:Int) (I2 ov atv4) (c2,c3)) fun| .inl (c7,c8)=>some (.inl (c7,c8,w64 (atv4+1)))| .inr x=>some (.inr (.inr x))) else some (.inr (.inl c2))
noncomputable def H2(ov:d4):Option ((LL)×Bool):=Option.bind (q9 ov.init) fun a15=>Option.bind (V8 [a15]) fun a19=>Option.bind (Loop (D3 ov) ([a15],mset ([]:List (ByteArray×Int)) a19 1,0)) fun| .inl c5=>Option.bind (H8 c5) fun a76=>some (a76,true)| .inr x=>some x
noncomputable def P3(ov:d4):Option ((LL)×k6):=Option.bind (D2 ov) fun a8=>if(!((decide (a8.code=0)) && (decide (a8.index=0))))=true then some ([],a8) else Option.bind (H2 ov) fun a15=>if(!a15.2)=true then some ([],(⟨10, -7⟩:k6)) else some (a15.1,(⟨0,0⟩:k6))
noncomputable def R6(all:LL)(sv:Li):Option Int:=Option.bind (s7 all sv slices_Compare_int_int) fun a10=>some a10.1
noncomputable def H5(all:LL)(rank:Li)(a21:(LL)×Li):Int→Int→Option (Int⊕Int):=fun t7 nv6=>Option.bind (ix a21.1 t7) fun a28=>Option.bind (R6 all a28) fun a33=>Option.bind (ix rank a33) fun a34=>if a34<0 then some (.inr (-1)) else some (.inl (max nv6 a34))
noncomputable def F5(ov:d4)(all:LL)(rank:Li)(sv:Li)(op:Int):Option Int:=Option.bind (F3 ov sv op) fun a21=>(Option.bind (rngX 0 (a21.1.length:Int) (H5 all rank a21) 0) fun| .inl nv6=>some nv6| .inr x=>some x)
noncomputable def V5(ov:d4)(all:LL)(rank:Li)(sv:Li):Int→(Int×Int)→Option (Int×Int):=fun t7 (out5,least6)=>Option.bind (Option.bind (ab2 ov sv t7) fun a22=>if(!a22)=true then some (out5,least6) else Option.bind (F5 ov all rank sv t7) fun a29=>if((decide (0≤a29)) && ((decide (out5<0))||(decide (a29<least6))))=true then some (t7,a29) else some (out5,least6)) fun⟨out8,least9⟩=>some (out8,least9)
noncomputable def w7(ov:d4)(all:LL)(rank:Li)(sv:Li):Option Int:=(Option.bind (forR 0 (ov.operators.length:Int) (V5 ov all rank sv) (-1,0)) fun⟨out5,least6⟩=>some out5)
noncomputable def L4(ov:d4)(all:LL):Int→Li→Option Li:=fun t4 c3=>Option.bind (Option.bind (ix all t4) fun a23=>Option.bind (z7 a23 ov.goal) fun a28=>if a28=true then Option.bind (ix c3 t4) fun a31=>some (c3.set t4.toNat 0) else some c3) fun c5=>some c5
noncomputable def S3(ov:d4)(all:LL)(c8:Li):Int→Li→Option Li:=fun t11 c10=>Option.bind (Option.bind (ix all t11) fun a40=>Option.bind (Option.bind (ix c8 t11) fun a44=>if a44<0 then Option.bind (w7 ov all c8 a40) fun a52=>some (decide (0≤a52)) else some false) fun t14=>if t14=true then Option.bind (app 8 c10 [t11]) fun a58=>some a58 else some c10) fun c12=>some c12
def X6(layer9:Int)(c10:Li):Int→Li→Option Li:=fun t20 c19=>Option.bind (ix c10 t20) fun a68=>Option.bind (ix c19 a68) fun a73=>some (c19.set a68.toNat layer9)
noncomputable def E8(ov:d4)(all:LL):(Li×Int)→Option ((Li×Int)⊕Li):=fun(c8,layer9)=>(Option.bind (forR 0 (all.length:Int) (S3 ov all c8) []) fun c10=>if(c10.length:Int)=0 then some (.inr c8) else(Option.bind (forR 0 (c10.length:Int) (X6 layer9 c10) c8) fun c19=>some (.inl (c19,w64 (layer9+1)))))
noncomputable def P4(ov:d4)(all:LL):Option Li:=Option.bind (C4 [-1] (all.length:Int)) fun a17=>(Option.bind (forR 0 (all.length:Int) (L4 ov all) a17) fun c3=>Option.bind (Loop (E8 ov all) (c3,1)) fun x=>some x)
noncomputable def y9(sv:Li)(c2:d4)(c3:LL)(c4:Li):Option Int:=Option.bind (w7 c2 c3 c4 sv) fun a10=>some a10
def B5(xv:List d9)(target:Li)(cmp:d9→Li→Option Int):(Int×Int)→Option ((Int×Int)⊕Int):=fun(iv4,j5)=>if iv4<j5 then Option.bind (ix xv (w64 (shrW .u64 ((IntKind.u64).wrap (w64 (iv4+j5))) 1))) fun a27=>Option.bind (cmp a27 target) fun a30=>if a30<0 then some (.inl (w64 ((w64 (shrW .u64 ((IntKind.u64).wrap (w64 (iv4+j5))) 1))+1),j5)) else some (.inl (iv4,w64 (shrW .u64 ((IntKind.u64).wrap (w64 (iv4+j5))) 1))) else some (.inr iv4)
noncomputable def j7(xv:List d9)(target:Li)(cmp:d9→Li→Option Int):Option (Int×Bool):=Option.bind (Loop (B5 xv target cmp) (0,(xv.length:Int))) fun iv6=>Option.bind (if iv6<(xv.length:Int) then Option.bind (ix xv iv6) fun a43=>Option.bind (cmp a43 target) fun a46=>some (decide (a46=0)) else some false) fun t9=>some (iv6,t9)
def open_Chosen_1(c:d9)(sv:Li):Option Int:=Option.bind (slices_Compare_int_int c.state sv) fun a8=>some a8
noncomputable def J6(policy:List d9)(sv:Li):Option Int:=Option.bind (j7 policy sv open_Chosen_1) fun a10=>if(!a10.2)=true then some (-1) else Option.bind (ix policy a10.1) fun a17=>some a17.operator
def D5(c:d9)(sv:Li):Option Int:=Option.bind (slices_Compare_int_int c.state sv) fun a8=>some a8
def L6(atv5:Int):((LL)×(List d9))→Option (((LL)×(List d9)×Int)⊕((List d9)⊕((List d9)×Bool))):=fun(c8,c9)=>some (.inl (c8,c9,w64 (atv5+1)))
noncomputable def A8(ov:d4)(choose:Li→Option Int):((LL)×(List d9)×Int)→Option (((LL)×(List d9)×Int)⊕((List d9)⊕((List d9)×Bool))):=fun(c3,c4,atv5)=>if atv5<(c3.length:Int) then Option.bind (ix c3 atv5) fun a26=>Option.bind (Option.bind (z7 a26 ov.goal) fun a31=>if a31=true then some true else Option.bind (J6 c4 a26) fun a35=>some (decide (0≤a35))) fun t10=>if t10=true then(L6 atv5) (c3,c4) else if(c4.length:Int)=200 then some (.inr (.inr ([],false))) else Option.bind (choose a26) fun a43=>Option.bind (j7 c4 a26 D5) fun a47=>Option.bind (q9 a26) fun a53=>Option.bind (insL c4 a47.1 (⟨a53,a43⟩:d9)) fun a57=>Option.bind (F3 ov a26 a43) fun a62=>Option.bind (app 24 c3 a62.1) fun a67=>(L6 atv5) (a67,a57) else some (.inr (.inl c4))
noncomputable def P2(ov:d4)(choose:Li→Option Int):Option ((List d9)×Bool):=Option.bind (Loop (A8 ov choose) ([ov.init],[],0)) fun| .inl c6=>some (c6,true)| .inr x=>some x
noncomputable def v7(ov:d4):Option ((List d9)×Bool×k6):=Option.bind (P3 ov) fun a12=>if(!((decide (a12.2.code=0)) && (decide (a12.2.index=0))))=true then some ([],false,a12.2) else Option.bind (P4 ov a12.1) fun a21=>Option.bind (R6 a12.1 ov.init) fun a26=>Option.bind (ix a21 a26) fun a27=>if a27<0 then some ([],false,(⟨0,0⟩:k6)) else Option.bind (P2 ov (fun y1=>y9 y1 ov a12.1 a21)) fun a34=>if(!a34.2)=true then some ([],false,(⟨10, -8⟩:k6)) else some (a34.1,true,(⟨0,0⟩:k6))
noncomputable def F4(ov:d4)(policy:List d9):Int→Unit→Option (Unit⊕k6):=fun t5 _=>Option.bind (ix policy t5) fun a24=>Option.bind (Option.bind (Option.bind (x8 a24.state ov.facts) fun a31=>if(!a31)=true then some true else if 0<t5 then Option.bind (ix policy (t5 - 1)) fun a40=>Option.bind (slices_Compare_int_int a40.state a24.state) fun a45=>some (decide (0≤a45)) else some false) fun t8=>if t8=true then some 5 else if((decide (a24.operator<0))||(decide ((ov.operators.length:Int)≤a24.operator)))=true then some 3 else Option.bind (ab2 ov a24.state a24.operator) fun a67=>if(!a67)=true then some 11 else some 0) fun ev6=>if ev6=0 then some (.inl ()) else some (.inr (⟨ev6,w64 ((-9) - t5)⟩:k6))
noncomputable def I8(ov:d4)(policy:List d9):Option k6:=Option.bind (D2 ov) fun a10=>if(!((decide (a10.code=0)) && (decide (a10.index=0))))=true then some a10 else if 200<(policy.length:Int) then some (⟨2, -8⟩:k6) else(Option.bind (rngX 0 (policy.length:Int) (F4 ov policy) ()) fun| .inl _=>some (⟨0,0⟩:k6)| .inr x=>some x)
def P0(xv:Li)(c2:Li):Option Bool:=Option.bind (B4 xv c2) fun a6=>some a6
def G4(sv:LL)(fv:Li→Option Bool):Int→Unit→Option (Unit⊕Int):=fun t3 _=>Option.bind (ix sv t3) fun a14=>Option.bind (fv a14) fun a16=>if a16=true then some (.inr t3) else some (.inl ())
def J8(sv:LL)(fv:Li→Option Bool):Option Int:=(Option.bind (rngX 0 (sv.length:Int) (G4 sv fv) ()) fun| .inl _=>some (-1)| .inr x=>some x)
def C1(sv:LL)(fv:Li→Option Bool):Option Bool:=Option.bind (J8 sv fv) fun a7=>some (decide (0≤a7))
def R8(a46:(LL)×Li):Int→(LL)→Option (LL):=fun t14 c13=>Option.bind (Option.bind (ix a46.1 t14) fun a53=>Option.bind (C1 c13 (fun y1=>P0 y1 a53)) fun a57=>if(!a57)=true then Option.bind (app 24 c13 [a53]) fun a62=>some a62 else some c13) fun c15=>some c15
noncomputable def Y2(ov:d4)(policy:List d9):((LL)×Int)→Option (((LL)×Int)⊕(LL)):=fun(c3,atv4)=>if atv4<(c3.length:Int) then Option.bind (Option.bind (ix c3 atv4) fun a25=>Option.bind (J6 policy a25) fun a27=>Option.bind (if a27<0 then some true else Option.bind (ix c3 atv4) fun a33=>Option.bind (z7 a33 ov.goal) fun a37=>some a37) fun t9=>if t9=true then some c3 else Option.bind (ix c3 atv4) fun a43=>Option.bind (F3 ov a43 a27) fun a46=>(Option.bind (forR 0 (a46.1.length:Int) (R8 a46) c3) fun c13=>some c13)) fun c7=>some (.inl (c7,w64 (atv4+1))) else some (.inr c3)
noncomputable def aa0(ov:d4)(policy:List d9):Option (LL):=Option.bind (q9 ov.init) fun a14=>Option.bind (Loop (Y2 ov policy) ([a14],0)) fun c5=>Option.bind (H8 c5) fun a65=>some a65
def I6(sv:Li)(v:Int):Int→Unit→Option (Unit⊕Int):=fun t3 _=>Option.bind (ix sv t3) fun a14=>if v=a14 then some (.inr t3) else some (.inl ())
def N8(sv:Li)(v:Int):Option Int:=(Option.bind (rngX 0 (sv.length:Int) (I6 sv v) ()) fun| .inl _=>some (-1)| .inr x=>some x)
def E3(sv:Li)(v:Int):Option Bool:=Option.bind (N8 sv v) fun a7=>some (decide (0≤a7))
noncomputable def S5(ov:d4)(a25:(LL)):Int→Li→Option Li:=fun t5 c4=>Option.bind (Option.bind (ix a25 t5) fun a34=>Option.bind (z7 a34 ov.goal) fun a39=>if(!a39)=true then Option.bind (ix c4 t5) fun a43=>some (c4.set t5.toNat (-1)) else some c4) fun c6=>some c6
noncomputable def S4(ov:d4)(policy:List d9)(a25:(LL)):Int→Li→Option Li:=fun t12 c11=>Option.bind (Option.bind (ix a25 t12) fun a54=>Option.bind (J6 policy a54) fun a58=>Option.bind (ix c11 t12) fun a61=>if((decide (0≤a61))||(decide (a58<0)))=true then some c11 else Option.bind (F5 ov a25 c11 a54 a58) fun a73=>if 0≤a73 then Option.bind (ix c11 t12) fun a80=>some (c11.set t12.toNat (w64 (a73+1))) else some c11) fun c13=>some c13
noncomputable def R9(ov:d4)(policy:List d9)(a25:(LL)):Int→Li→Option Li:=fun t10 c9=>(Option.bind (forR 0 (a25.length:Int) (S4 ov policy a25) c9) fun c11=>some c11)
noncomputable def P5(ov:d4)(policy:List d9):Option (Int×Bool×k6):=Option.bind (I8 ov policy) fun a18=>if(!((decide (a18.code=0)) && (decide (a18.index=0))))=true then some (0,false,a18) else Option.bind (aa0 ov policy) fun a25=>Option.bind (mkL 8 (a25.length:Int) 0) fun a28=>(Option.bind (forR 0 (a25.length:Int) (S5 ov a25) a28) fun c4=>(Option.bind (forR 0 (a25.length:Int) (R9 ov policy a25) c4) fun c9=>Option.bind (E3 c9 (-1)) fun a84=>if a84=true then some (0,false,(⟨0,0⟩:k6)) else Option.bind (R6 a25 ov.init) fun a90=>Option.bind (ix c9 a90) fun a91=>some (a91,true,(⟨0,0⟩:k6))))
def ap7(av:Li)(bv:Li):Int→Unit→Option (Unit⊕Bool):=fun iv4 _=>Option.bind (ix av iv4) fun a19=>Option.bind (ix bv iv4) fun a23=>if a19=a23 then some (.inl ()) else some (.inr false)
def O6(av:Li)(bv:Li):Option Bool:=if(av.length:Int)=(bv.length:Int) then(Option.bind (rngX 0 (av.length:Int) (ap7 av bv) ()) fun| .inl _=>some true| .inr x=>some x) else some false
def ai0(av:List d9)(bv:List d9):Int→Unit→Option (Unit⊕Bool):=fun iv4 _=>Option.bind (Option.bind (ix av iv4) fun a19=>Option.bind (ix bv iv4) fun a24=>if(!(decide (a19.operator=a24.operator)))=true then some true else Option.bind (ix av iv4) fun a31=>Option.bind (ix bv iv4) fun a36=>Option.bind (O6 a31.state a36.state) fun a39=>some (!a39)) fun t5=>if t5=true then some (.inr false) else some (.inl ())
def aa3(av:List d9)(bv:List d9):Option Bool:=if(av.length:Int)=(bv.length:Int) then(Option.bind (rngX 0 (av.length:Int) (ai0 av bv) ()) fun| .inl _=>some true| .inr x=>some x) else some false
noncomputable def U0:Option Bool:=Option.bind (al0) fun a8=>Option.bind (v7 a8) fun a9=>Option.bind (al0) fun a14=>Option.bind (P5 a14 a9.1) fun a16=>Option.bind (if a9.2.2.code=0 then if a16.2.2.code=0 then if a9.2.1=true then if a16.2.1=true then if a16.1=1 then Option.bind (aa3 a9.1 ([(⟨[],0⟩:d9)])) fun a42=>some a42 else some false else some false else some false else some false else some false) fun t1=>some t1
noncomputable def I7(t5:Int)(a34:i5):Int→((List (Int×Int))×(List s9))→Option ((List (Int×Int))×(List s9)):=fun t8 (c6,c7)=>Option.bind (ix a34.outcomes t8) fun a42=>Option.bind (q9 a34.pre) fun a48=>Option.bind (q9 a42.add) fun a51=>Option.bind (q9 a42.del) fun a54=>Option.bind (app 80 c7 [(⟨a48,a51,a54,a34.cost⟩:s9)]) fun a59=>Option.bind (app 16 c6 [(t5,t8)]) fun a66=>some (a66,a59)
noncomputable def F0(ov:d4):Int→((List (Int×Int))×(List s9))→Option ((List (Int×Int))×(List s9)):=fun t5 (c3,c4)=>Option.bind (ix ov.operators t5) fun a34=>(Option.bind (forR 0 (a34.outcomes.length:Int) (I7 t5 a34) (c3,c4)) fun⟨c6,c7⟩=>some (c6,c7))
noncomputable def F7(ov:d4):Option (m6×(List (Int×Int))×k6):=Option.bind (D2 ov) fun a13=>if(!((decide (a13.code=0)) && (decide (a13.index=0))))=true then some ((⟨0,[],[],[]⟩:m6),[],a13) else Option.bind (q9 ov.init) fun a23=>Option.bind (q9 ov.goal) fun a26=>(Option.bind (forR 0 (ov.operators.length:Int) (F0 ov) ([],[])) fun⟨c3,c4⟩=>if 40<(c3.length:Int) then some ((⟨0,[],[],[]⟩:m6),[],(⟨10, -1⟩:k6)) else some ((⟨ov.facts,a23,a26,c4⟩:m6),c3,(⟨0,0⟩:k6)))
noncomputable def R7(ov:s9)(facts:Int):Option Int:=Option.bind (Option.bind (x8 ov.pre facts) fun a9=>if(!a9)=true then some true else Option.bind (x8 ov.add facts) fun a15=>if(!a15)=true then some true else Option.bind (x8 ov.del facts) fun a22=>if(!a22)=true then some true else Option.bind (V2 ov.add ov.del) fun a30=>some a30) fun t3=>if t3=true then some 5 else if((decide (ov.cost<0))||(decide (100<ov.cost)))=true then some 3 else some 0
noncomputable def K7(t:m6):Int→Unit→Option (Unit⊕k6):=fun t6 _=>Option.bind (ix t.operators t6) fun a44=>Option.bind (R7 a44 t.facts) fun a49=>if a49=0 then some (.inl ()) else some (.inr (⟨a49,t6⟩:k6))
noncomputable def H7(t:m6):Option k6:=if((decide (t.facts<0))||(decide (24<t.facts)))=true then some (⟨3, -1⟩:k6) else Option.bind (x8 t.init t.facts) fun a21=>if(!a21)=true then some (⟨5, -2⟩:k6) else Option.bind (x8 t.goal t.facts) fun a29=>if(!a29)=true then some (⟨5, -3⟩:k6) else if 40<(t.operators.length:Int) then some (⟨2, -1⟩:k6) else(Option.bind (rngX 0 (t.operators.length:Int) (K7 t) ()) fun| .inl _=>some (⟨0,0⟩:k6)| .inr x=>some x)
def ae0(sv:Li):Int→Int→Option Int:=fun t3 w2=>Option.bind (ix sv t3) fun a10=>Option.bind (chk0 a10) fun u14=>some (Go.bits .or .u32 w2 (shlW .u32 1 a10))
def N9(sv:Li):Option Int:=(Option.bind (forR 0 (sv.length:Int) (ae0 sv) 0) fun w2=>some w2)
def ab7(w:Int):Int→Li→Option Li:=fun t3 c2=>Option.bind (if Go.bits .and .u32 (shrW .u32 w t3) 1=1 then Option.bind (app 8 c2 [t3]) fun a16=>some a16 else some c2) fun c4=>some c4
def W9(w:Int):Option Li:=(Option.bind (forR 0 32 (ab7 w) []) fun c2=>some c2)
def L3(av:Int)(bv:Int):Option Int:=Option.bind (W9 av) fun a6=>Option.bind (W9 bv) fun a8=>Option.bind (slices_Compare_int_int a6 a8) fun a9=>some a9
abbrev aw0(t:m6):b6:=[]
def ad7(t:m6):Int→(List j8)→Option (List j8):=fun t56 c55=>Option.bind (ix t.operators t56) fun a19=>Option.bind (N9 a19.pre) fun a28=>Option.bind (N9 a19.add) fun a31=>Option.bind (N9 a19.del) fun a34=>Option.bind (app 24 c55 [(⟨a28,a31,a34,a19.cost⟩:j8)]) fun a39=>some a39
def ai1(t:m6):Option (Int×Int×(List j8)):=Option.bind (N9 t.init) fun a8=>Option.bind (N9 t.goal) fun a11=>(Option.bind (forR 0 (t.operators.length:Int) (ad7 t) []) fun c55=>some (a8,a11,c55))
abbrev as9(start:Int)(goal:Int)(l:List j8):b6:=[.one (.cells 3 [[.imm (.val (.int .u32 start)),.imm (.val (.int .u32 goal)),.own 1 0 l.length]]),.one (vec 4 d7 l)]
def B9(start:Int)(goal:Int)(l:List j8):Option Unit:=some ()
abbrev as6(sv:Int)(start:Int)(goal:Int)(l:List j8):b6:=[.one (.cells 3 [[.imm (.val (.int .u32 start)),.imm (.val (.int .u32 goal)),.own 1 0 l.length]]),.one (vec 4 d7 l)]
def F2(sv:Int)(start:Int)(goal:Int)(l:List j8):Option Unit:=some ()
abbrev U5(start:Int)(goal:Int)(l:List j8):b6:=[.one (.cells 3 [[.imm (.val (.int .u32 start)),.imm (.val (.int .u32 goal)),.own 1 0 l.length]]),.one (vec 4 d7 l)]
def L9(l:List j8)(a26:Int)(u32:Unit):Int→((List (Int×Unit))×Li)→Option ((List (Int×Unit))×Li):=fun t66 (c64,c65)=>Option.bind (ix l t66) fun ai14=>if Go.bits .and .u32 a26 ai14.pre=ai14.pre then if(!(Option.isSome (mget c64 (Go.bits .or .u32 (Go.bits .andNot .u32 a26 ai14.del) ai14.add))))=true then Option.bind (app 4 c65 [Go.bits .or .u32 (Go.bits .andNot .u32 a26 ai14.del) ai14.add]) fun ab58=>some (mset c64 (Go.bits .or .u32 (Go.bits .andNot .u32 a26 ai14.del) ai14.add) (),ab58) else some (c64,c65) else some (c64,c65)
def M0(l:List j8)(c56:Li)(c57:List (Int×Unit))(a26:Int)(u32:Unit):Option ((List (Int×Unit))×Li):=(Option.bind (forR 0 (l.length:Int) (L9 l a26 u32) (c57,r9 c56 0 ((c56.length:Int) - 1))) fun⟨c64,c65⟩=>some (c64,c65))
def L8(start:Int)(goal:Int)(l:List j8):(Li×(List (Int×Unit))×Li)→Option ((Li×(List (Int×Unit))×Li)⊕(Li⊕(Li×Bool))):=fun(c56,c57,c58)=>if 0<(c56.length:Int) then Option.bind (ix c56 ((c56.length:Int) - 1)) fun a26=>Option.bind (cutV (c56.length:Int) 0 ((c56.length:Int) - 1)) fun u32=>Option.bind (app 4 c58 [a26]) fun a36=>Option.bind (F2 a26 start goal l) fun a39=>Option.bind (M0 l c56 c57 a26 u32) fun⟨c62,c63⟩=>if 2000<(c62.length:Int) then some (.inr (.inr ([],false))) else some (.inl (c63,c62,a36)) else some (.inr (.inl c58))
noncomputable def K5(start:Int)(goal:Int)(l:List j8):Option (Li×Bool):=Option.bind (B9 start goal l) fun a12=>Option.bind (B9 start goal l) fun a16=>Option.bind (Loop (L8 start goal l) ([start],mset ([]:List (Int×Unit)) start (),[])) fun| .inl c59=>some (c59,true)| .inr x=>some x
abbrev ax9(t:m6):b6:=[]
noncomputable def G9(t:m6):Option ((Int×Int)⊕(Int×Int×(List j8)×Li)):=Option.bind (H7 t) fun a10=>if(!((decide (a10.code=0)) && (decide (a10.index=0))))=true then some (.inl (a10.code,a10.index)) else Option.bind (ai1 t) fun a16=>Option.bind (K5 a16.1 a16.2.1 a16.2.2) fun a20=>if(!a20.2)=true then some (.inl (10, -7)) else Option.bind (sortFU L3 a20.1) fun a27=>some (.inr (a16.1,a16.2.1,a16.2.2,a27))
abbrev ap0:b6:=[]
def K8:Option Unit:=some ()
abbrev as8(sv:Int)(start:Int)(goal:Int)(l:List j8):b6:=[.one (.cells 3 [[.imm (.val (.int .u32 start)),.imm (.val (.int .u32 goal)),.own 1 0 l.length]]),.one (vec 4 d7 l)]
def Q4(sv:Int)(start:Int)(goal:Int)(l:List j8):Option Unit:=some ()
abbrev ah3(l:Li)(l2:List b9):b6:=[.one (prow 1 l),pool 4 b8 l2]
def u3(l:Li)(l2:List b9):Option Unit:=some ()
abbrev ah0(iv:Int)(kv:Int)(l:Li)(l4:List b9):b6:=[.one (prow 1 l),pool 4 b8 l4]
def q7(iv:Int)(kv:Int)(l:Li)(l4:List b9):Option Bool:=Option.bind (ix l iv) fun a9=>Option.bind (ix l4 a9) fun en56=>Option.bind (ix l kv) fun a16=>Option.bind (ix l4 a16) fun en57=>some ((decide (en56.key<en57.key))||((decide (en56.key=en57.key)) && (decide (en56.time<en57.time))))
abbrev ag9(iv:Int)(kv:Int)(l:Li)(l4:List b9):b6:=[.one (prow 1 l),pool 4 b8 l4]
def p8(iv:Int)(kv:Int)(l:Li)(l4:List b9):Option (Li×(List b9)):=Option.bind (ix l kv) fun a12=>Option.bind (ix l iv) fun a16=>Option.bind (ix ((l.set iv.toNat a12).set kv.toNat a16) iv) fun ha57=>Option.bind (ix ((l.set iv.toNat a12).set kv.toNat a16) kv) fun ha58=>Option.bind (ix l4 ha57) fun en59=>Option.bind (ix (l4.set ha57.toNat (⟨en59.item,en59.key,en59.time,iv⟩:b9)) ha58) fun en60=>some ((l.set iv.toNat a12).set kv.toNat a16,(l4.set ha57.toNat (⟨en59.item,en59.key,en59.time,iv⟩:b9)).set ha58.toNat (⟨en60.item,en60.key,en60.time,kv⟩:b9))
abbrev Y5(i01:Int)(nv:Int)(time:Int)(l:Li)(l5:List (Int×Int))(l6:List b9):b6:=[.one (.cells 3 [[.own 1 0 l.length,.map 2,int time]]),.one (prow 3 l),.one (pmap 3 (Value.int .u32) l5),pool 4 b8 l6]
def A4(nv:Int):(Li×(List b9)×Int)→Option ((Li×(List b9)×Int)⊕(Li×(List b9)×Int)):=fun(c60,c61,iv62)=>if((decide (nv≤w64 ((w64 (2 * iv62))+1)))||(decide (w64 ((w64 (2 * iv62))+1)<0)))=true then some (.inr (c60,c61,iv62)) else Option.bind (Option.bind (if w64 ((w64 ((w64 (2 * iv62))+1))+1)<nv then Option.bind (q7 (w64 ((w64 ((w64 (2 * iv62))+1))+1)) (w64 ((w64 (2 * iv62))+1)) c60 c61) fun a32=>some a32 else some false) fun t69=>if t69=true then some (w64 ((w64 ((w64 (2 * iv62))+1))+1)) else some (w64 ((w64 (2 * iv62))+1))) fun j67=>Option.bind (q7 j67 iv62 c60 c61) fun a38=>if(!a38)=true then some (.inr (c60,c61,iv62)) else Option.bind (p8 iv62 j67 c60 c61) fun a43=>Option.bind (ah1 c60 a43.1) fun u74=>some (.inl (a43.1,a43.2,j67))
noncomputable def C5(i01:Int)(nv:Int)(time:Int)(l:Li)(l5:List (Int×Int))(l6:List b9):Option (Li×(List b9)×Bool):=Option.bind (Loop (A4 nv) (l,l6,i01)) fun⟨c63,c64,iv65⟩=>some (c63,c64,decide (i01<iv65))
abbrev ad1(j:Int)(time:Int)(l:Li)(l4:List (Int×Int))(l5:List b9):b6:=[.one (.cells 3 [[.own 1 0 l.length,.map 2,int time]]),.one (prow 3 l),.one (pmap 3 (Value.int .u32) l4),pool 4 b8 l5]
def K3:(Li×(List b9)×Int)→Option ((Li×(List b9)×Int)⊕(Li×(List b9))):=fun(c58,c59,j60)=>Option.bind (chkN 2) fun u7=>Option.bind (if w64 ((w64 (j60 - 1)).tdiv 2)=j60 then some true else Option.bind (q7 j60 (w64 ((w64 (j60 - 1)).tdiv 2)) c58 c59) fun a15=>some (!a15)) fun t63=>if t63=true then some (.inr (c58,c59)) else Option.bind (p8 (w64 ((w64 (j60 - 1)).tdiv 2)) j60 c58 c59) fun a21=>Option.bind (ah1 c58 a21.1) fun u67=>some (.inl (a21.1,a21.2,w64 ((w64 (j60 - 1)).tdiv 2)))
noncomputable def F1(j:Int)(time:Int)(l:Li)(l4:List (Int×Int))(l5:List b9):Option (Li×(List b9)):=Option.bind (Loop K3 (l,l5,j)) fun⟨c61,c62⟩=>some (c61,c62)
abbrev aq8(iv:Int)(time:Int)(l:Li)(l4:List (Int×Int))(l5:List b9):b6:=[.one (.cells 3 [[.own 1 0 l.length,.map 2,int time]]),.one (prow 3 l),.one (pmap 3 (Value.int .u32) l4),pool 4 b8 l5]
noncomputable def D9(iv:Int)(time:Int)(l:Li)(l4:List (Int×Int))(l5:List b9):Option (Li×(List b9)):=Option.bind (u3 l l5) fun a7=>Option.bind (C5 iv (l.length:Int) time l l4 l5) fun a8=>if(!a8.2.2)=true then Option.bind (F1 iv time a8.1 l4 a8.2.1) fun a12=>some (a12.1,a12.2) else some (a8.1,a8.2.1)
abbrev af1(xv:Int)(time:Int)(l:List b9)(l4:Li)(l5:List (Int×Int)):b6:=[.one (.cells 3 [[.own 2 0 l4.length,.map 3,int time]]),pool 4 b8 l,.one (prow 1 l4),.one (pmap 1 (Value.int .u32) l5)]
def C7(xv:Int)(time:Int)(l:List b9)(l4:Li)(l5:List (Int×Int)):Option ((List b9)×Li):=Option.bind (ix l xv) fun en58=>Option.bind (app 8 l4 [xv]) fun a20=>some (l.set xv.toNat (⟨en58.item,en58.key,en58.time,(l4.length:Int)⟩:b9),a20)
abbrev ao9(xv:Int)(time:Int)(l:List b9)(l4:Li)(l5:List (Int×Int)):b6:=[.one (.cells 3 [[.own 2 0 l4.length,.map 3,int time]]),pool 4 b8 l,.one (prow 1 l4),.one (pmap 1 (Value.int .u32) l5)]
noncomputable def C3(xv:Int)(time:Int)(l:List b9)(l4:Li)(l5:List (Int×Int)):Option ((List b9)×Li):=Option.bind (C7 xv time l l4 l5) fun a6=>Option.bind (u3 a6.2 a6.1) fun a9=>Option.bind (F1 (w64 ((a6.2.length:Int) - 1)) time a6.2 l5 a6.1) fun a11=>some (a11.2,a11.1)
abbrev ag5(item:Int)(key:Int)(time:Int)(l:Li)(l5:List (Int×Int))(l6:List b9):b6:=[.one (.cells 3 [[.own 1 0 l.length,.map 2,int time]]),.one (prow 3 l),.one (pmap 3 (Value.int .u32) l5),pool 4 b8 l6]
noncomputable def v6(item:Int)(key:Int)(time:Int)(l:Li)(l5:List (Int×Int))(l6:List b9):Option ((List (Int×Int))×Li×(List b9)):=if(Option.isSome (mget l5 item))=true then Option.bind (mget l5 item) fun ap61=>Option.bind (ix l6 ap61) fun en62=>Option.bind (D9 en62.fat (w64 (time+1)) l l5 ((l6.set ap61.toNat (⟨en62.item,key,en62.time,en62.fat⟩:b9)).set ap61.toNat (⟨en62.item,key,w64 (time+1),en62.fat⟩:b9))) fun a45=>some (l5,a45.1,a45.2) else Option.bind (chkH l6.length (List.map (·.2) l5)) fun u63=>Option.bind (chkH l6.length l) fun u64=>Option.bind (C3 (l6.length:Int) (w64 (time+1)) (l6++[(⟨item,key,w64 (time+1),0⟩:b9)]) l (mset l5 item (l6.length:Int))) fun a66=>some (mset l5 item (l6.length:Int),a66.2,a66.1)
abbrev ai2(time:Int)(l:Li)(l3:List (Int×Int))(l4:List b9):b6:=[.one (.cells 3 [[.own 1 0 l.length,.map 2,int time]]),.one (prow 3 l),.one (pmap 3 (Value.int .u32) l3),pool 4 b8 l4]
def E7(time:Int)(l:Li)(l3:List (Int×Int))(l4:List b9):Option Unit:=some ()
abbrev af2(iv:Int)(kv:Int)(l:Li)(l4:List b9):b6:=[.one (prow 1 l),pool 4 b8 l4]
def A0(iv:Int)(kv:Int)(l:Li)(l4:List b9):Option (Li×(List b9)):=Option.bind (ix l kv) fun a12=>Option.bind (ix l iv) fun a16=>Option.bind (ix ((l.set iv.toNat a12).set kv.toNat a16) iv) fun ha57=>Option.bind (ix ((l.set iv.toNat a12).set kv.toNat a16) kv) fun ha58=>Option.bind (ix l4 ha57) fun en59=>Option.bind (ix (l4.set ha57.toNat (⟨en59.item,en59.key,en59.time,iv⟩:b9)) ha58) fun en60=>some ((l.set iv.toNat a12).set kv.toNat a16,(l4.set ha57.toNat (⟨en59.item,en59.key,en59.time,iv⟩:b9)).set ha58.toNat (⟨en60.item,en60.key,en60.time,kv⟩:b9))
abbrev af0(iv:Int)(kv:Int)(l:Li)(l4:List b9):b6:=[.one (prow 1 l),pool 4 b8 l4]
def I5(iv:Int)(kv:Int)(l:Li)(l4:List b9):Option Bool:=Option.bind (ix l iv) fun a9=>Option.bind (ix l4 a9) fun en56=>Option.bind (ix l kv) fun a16=>Option.bind (ix l4 a16) fun en57=>some ((decide (en56.key<en57.key))||((decide (en56.key=en57.key)) && (decide (en56.time<en57.time))))
abbrev X7(i01:Int)(nv:Int)(time:Int)(l:Li)(l5:List (Int×Int))(l6:List b9):b6:=[.one (.cells 3 [[.own 1 0 l.length,.map 2,int time]]),.one (prow 3 l),.one (pmap 3 (Value.int .u32) l5),pool 4 b8 l6]
def X8(nv:Int):(Li×(List b9)×Int)→Option ((Li×(List b9)×Int)⊕(Li×(List b9)×Int)):=fun(c60,c61,iv62)=>if((decide (nv≤w64 ((w64 (2 * iv62))+1)))||(decide (w64 ((w64 (2 * iv62))+1)<0)))=true then some (.inr (c60,c61,iv62)) else Option.bind (Option.bind (if w64 ((w64 ((w64 (2 * iv62))+1))+1)<nv then Option.bind (q7 (w64 ((w64 ((w64 (2 * iv62))+1))+1)) (w64 ((w64 (2 * iv62))+1)) c60 c61) fun a32=>some a32 else some false) fun t69=>if t69=true then some (w64 ((w64 ((w64 (2 * iv62))+1))+1)) else some (w64 ((w64 (2 * iv62))+1))) fun j67=>Option.bind (I5 j67 iv62 c60 c61) fun a38=>if(!a38)=true then some (.inr (c60,c61,iv62)) else Option.bind (A0 iv62 j67 c60 c61) fun a43=>Option.bind (ah1 c60 a43.1) fun u74=>some (.inl (a43.1,a43.2,j67))
noncomputable def K4(i01:Int)(nv:Int)(time:Int)(l:Li)(l5:List (Int×Int))(l6:List b9):Option (Li×(List b9)×Bool):=Option.bind (Loop (X8 nv) (l,l6,i01)) fun⟨c63,c64,iv65⟩=>some (c63,c64,decide (i01<iv65))
abbrev ag4(time:Int)(l:Li)(l3:List (Int×Int))(l4:List b9):b6:=[.one (.cells 3 [[.own 1 0 l.length,.map 2,int time]]),.one (prow 3 l),.one (pmap 3 (Value.int .u32) l3),pool 4 b8 l4]
def D7(time:Int)(l:Li)(l3:List (Int×Int))(l4:List b9):Option (Li×Int):=Option.bind (ix l ((l.length:Int) - 1)) fun a12=>Option.bind (subL l 0 ((l.length:Int) - 1)) fun a19=>some (a19,a12)
abbrev aq7(time:Int)(l:Li)(l3:List (Int×Int))(l4:List b9):b6:=[.one (.cells 3 [[.own 1 0 l.length,.map 2,int time]]),.one (prow 3 l),.one (pmap 3 (Value.int .u32) l3),pool 4 b8 l4]
noncomputable def H1(time:Int)(l:Li)(l3:List (Int×Int))(l4:List b9):Option ((List b9)×Li×Int):=Option.bind (u3 l l4) fun a5=>Option.bind (A0 0 (w64 ((l.length:Int) - 1)) l l4) fun a9=>Option.bind (ah1 l a9.1) fun u58=>Option.bind (K4 0 (w64 ((l.length:Int) - 1)) time a9.1 l3 a9.2) fun a12=>Option.bind (D7 time a12.1 l3 a12.2.1) fun a14=>some (a12.2.1,a14.1,a14.2)
abbrev ae9(time:Int)(l:Li)(l3:List (Int×Int))(l4:List b9):b6:=[.one (.cells 3 [[.own 1 0 l.length,.map 2,int time]]),.one (prow 3 l),.one (pmap 3 (Value.int .u32) l3),pool 4 b8 l4]
noncomputable def z8(time:Int)(l:Li)(l3:List (Int×Int))(l4:List b9):Option ((List (Int×Int))×(List b9)×Li×Int×Int×Bool):=if(l.length:Int)=0 then some (l3,l4,l,0,0,false) else Option.bind (H1 time l l3 l4) fun a17=>Option.bind (ix a17.1 a17.2.2) fun en62=>some (mdel l3 en62.item,a17.1,a17.2.1,en62.item,en62.key,true)
abbrev ag6(item:Int)(key:Int)(time:Int)(l:Li)(l5:List (Int×Int))(l6:List b9):b6:=[.one (.cells 3 [[.own 1 0 l.length,.map 2,int time]]),.one (prow 3 l),.one (pmap 3 (Value.int .u32) l5),pool 4 b8 l6]
noncomputable def D4(item:Int)(key:Int)(time:Int)(l:Li)(l5:List (Int×Int))(l6:List b9):Option ((List (Int×Int))×Li×(List b9)):=if(Option.isSome (mget l5 item))=true then Option.bind (mget l5 item) fun ap61=>Option.bind (ix l6 ap61) fun en62=>Option.bind (D9 en62.fat (w64 (time+1)) l l5 ((l6.set ap61.toNat (⟨en62.item,key,en62.time,en62.fat⟩:b9)).set ap61.toNat (⟨en62.item,key,w64 (time+1),en62.fat⟩:b9))) fun a45=>some (l5,a45.1,a45.2) else Option.bind (chkH l6.length (List.map (·.2) l5)) fun u63=>Option.bind (chkH l6.length l) fun u64=>Option.bind (C3 (l6.length:Int) (w64 (time+1)) (l6++[(⟨item,key,w64 (time+1),0⟩:b9)]) l (mset l5 item (l6.length:Int))) fun a66=>some (mset l5 item (l6.length:Int),a66.2,a66.1)
abbrev U2(l:Li)(start:Int)(goal:Int)(l4:List j8):b6:=[.one (.cells 3 [[.imm (.val (.int .u32 start)),.imm (.val (.int .u32 goal)),.own 1 0 l4.length]]),.one (vec 4 d7 l4)]
def U4(l4:List j8)(a23:Int):Int→(List (Int×List z6))→Option (List (Int×List z6)):=fun t73 c72=>Option.bind (ix l4 t73) fun ai14=>if Go.bits .and .u32 a23 ai14.pre=ai14.pre then Option.bind (app 16 (rowM c72 (Go.bits .or .u32 (Go.bits .andNot .u32 a23 ai14.del) ai14.add)) [(⟨a23,ai14.cost⟩:z6)]) fun ab51=>some (mset c72 (Go.bits .or .u32 (Go.bits .andNot .u32 a23 ai14.del) ai14.add) ab51) else some c72
def U3(l4:List j8)(c56:List (Int×List z6))(a23:Int):Option (List (Int×List z6)):=(Option.bind (forR 0 (l4.length:Int) (U4 l4 a23) c56) fun c72=>some c72)
noncomputable def N1(l:Li)(start:Int)(goal:Int)(l4:List j8):Int→((List (Int×List z6))×(List (Int×Int))×(List (Int×Int))×(List b9)×Int×Li)→Option ((List (Int×List z6))×(List (Int×Int))×(List (Int×Int))×(List b9)×Int×Li):=fun t62 (c56,c57,c58,c59,c60,c61)=>Option.bind (ix l t62) fun a23=>Option.bind (Option.bind (Q4 a23 start goal l4) fun a29=>if Go.bits .and .u32 a23 goal=goal then Option.bind (v6 a23 0 c60 c61 c58 c59) fun a34=>some (mset (mset c57 a23 1000000000) a23 0,a34.1,w64 (c60+1),a34.2.1,a34.2.2) else some (mset c57 a23 1000000000,c58,c60,c61,c59)) fun⟨c63,c64,c65,c66,c67⟩=>Option.bind (F2 a23 start goal l4) fun a37=>Option.bind (U3 l4 c56 a23) fun c71=>some (c71,c63,c64,c67,c65,c66)
noncomputable def N0(c56:List (Int×List z6))(a58:(List (Int×Int))×(List b9)×Li×Int×Int×Bool):Int→((List (Int×Int))×(List (Int×Int))×(List b9)×Int×Li)→Option ((List (Int×Int))×(List (Int×Int))×(List b9)×Int×Li):=fun t87 (c82,c83,c84,c85,c86)=>Option.bind (Option.bind (ix (rowM c56 a58.2.2.2.1) t87) fun a68=>if w64 (a58.2.2.2.2.1+a68.cost)<Option.getD (mget c82 a68.ffrom) 0 then Option.bind (D4 a68.ffrom (w64 (a58.2.2.2.2.1+a68.cost)) c85 c86 c83 c84) fun a93=>some (mset c82 a68.ffrom (w64 (a58.2.2.2.2.1+a68.cost)),a93.1,w64 (c85+1),a93.2.1,a93.2.2) else some (c82,c83,c85,c86,c84)) fun⟨c88,c89,c90,c91,c92⟩=>some (c88,c89,c92,c90,c91)
noncomputable def N5(c56:List (Int×List z6)):((List (Int×Int))×(List (Int×Int))×(List b9)×Int×Li)→Option (((List (Int×Int))×(List (Int×Int))×(List b9)×Int×Li)⊕(List (Int×Int))):=fun(c75,c76,c77,c78,c79)=>Option.bind (E7 c78 c79 c76 c77) fun a54=>if 0<(c79.length:Int) then Option.bind (z8 c78 c79 c76 c77) fun a58=>(Option.bind (forR 0 ((rowM c56 a58.2.2.2.1).length:Int) (N0 c56 a58) (c75,a58.1,a58.2.1,c78,a58.2.2.1)) fun⟨c82,c83,c84,c85,c86⟩=>some (.inl (c82,c83,c84,c85,c86))) else some (.inr c75)
noncomputable def V1(l:Li)(start:Int)(goal:Int)(l4:List j8):Option (List (Int×Int)):=Option.bind (K8) fun a18=>(Option.bind (forR 0 (l.length:Int) (N1 l start goal l4) (([]:List (Int×List z6)),([]:List (Int×Int)),([]:List (Int×Int)),([]:List b9),0,([]:Li))) fun⟨c56,c57,c58,c59,c60,c61⟩=>Option.bind (Loop (N5 c56) (c57,c58,c59,c60,c61)) fun c80=>some c80)
noncomputable def W5(t:m6):Option (Int×k6):=Option.bind (G9 t) fun| .inl fk2=>if(!((decide (fk2.1=0)) && (decide (fk2.2=0))))=true then some (0,(⟨fk2.1,fk2.2⟩:k6)) else none| .inr fk2=>if(!((decide (0=0)) && (decide (0=0))))=true then some (0,(⟨0,0⟩:k6)) else Option.bind (V1 fk2.2.2.2 fk2.1 fk2.2.1 fk2.2.2.1) fun a19=>Option.bind (B9 fk2.1 fk2.2.1 fk2.2.2.1) fun a21=>some (Option.getD (mget a19 fk2.1) 0,(⟨0,0⟩:k6))
noncomputable def E5(ov:d4):Int→Unit→Option (Unit⊕Bool):=fun iv2 _=>Option.bind (ix ov.operators iv2) fun a22=>if(a22.outcomes.length:Int)=1 then some (.inl ()) else Option.bind (U0) fun a27=>some (.inr a27)
noncomputable def H6(ov:d4):Option Bool:=(Option.bind (rngX 0 (ov.operators.length:Int) (E5 ov) ()) fun| .inl _=>Option.bind (v7 ov) fun a30=>Option.bind (F7 ov) fun a36=>Option.bind (W5 a36.1) fun a42=>if(((!(decide (a30.2.2.code=0)))||(!(decide (a36.2.2.code=0))))||(!(decide (a42.2.code=0))))=true then Option.bind (U0) fun a58=>some a58 else Option.bind (if a30.2.1=(decide (a42.1<1000000000)) then Option.bind (U0) fun a64=>some a64 else some false) fun t5=>some t5| .inr x=>some x)
def aj1(p:List d9)(sv:Li):Int→Unit→Option (Unit⊕Int):=fun iv3 _=>Option.bind (ix p iv3) fun a14=>Option.bind (O6 a14.state sv) fun a18=>if a18=true then Option.bind (ix p iv3) fun a21=>some (.inr a21.operator) else some (.inl ())
def ak3(p:List d9)(sv:Li):Option Int:=(Option.bind (rngX 0 (p.length:Int) (aj1 p sv) ()) fun| .inl _=>some (-1)| .inr x=>some x)
def X1(nv:Int)(low:Int)(high:Int):Option Bool:=some ((decide (low≤nv)) && (decide (nv≤high)))
def ref1_Has_l1(l:Li)(nv:Int):Int→Unit→Option (Unit⊕Bool):=fun iv3 _=>Option.bind (ix l iv3) fun a14=>if a14=nv then some (.inr true) else some (.inl ())
def ab3(l:Li)(nv:Int):Option Bool:=(Option.bind (rngX 0 (l.length:Int) (ref1_Has_l1 l nv) ()) fun| .inl _=>some false| .inr x=>some x)
def I0(code:Int)(index:Int):Option k6:=some (⟨code,index⟩:k6)
def al5(l:Li)(nv:Int):Int→Unit→Option (Unit⊕Bool):=fun iv3 _=>Option.bind (Option.bind (ix l iv3) fun a14=>Option.bind (X1 a14 0 (w64 (nv - 1))) fun a18=>if(!a18)=true then some true else if 0<iv3 then Option.bind (ix l iv3) fun a26=>Option.bind (ix l (iv3 - 1)) fun a31=>some (decide (a26≤a31)) else some false) fun t4=>if t4=true then some (.inr false) else some (.inl ())
def D6(l:Li)(nv:Int):Option Bool:=(Option.bind (rngX 0 (l.length:Int) (al5 l nv) ()) fun| .inl _=>some true| .inr x=>some x)
def ao5(av:Li)(bv:Li):Int→Unit→Option (Unit⊕Bool):=fun iv3 _=>Option.bind (ix av iv3) fun a15=>Option.bind (ab3 bv a15) fun a17=>if a17=true then some (.inr false) else some (.inl ())
def ad8(av:Li)(bv:Li):Option Bool:=(Option.bind (rngX 0 (av.length:Int) (ao5 av bv) ()) fun| .inl _=>some true| .inr x=>some x)
def M8(t:m6):Int→Unit→Option (Unit⊕k6):=fun iv6 _=>Option.bind (ix t.operators iv6) fun a39=>Option.bind (Option.bind (D6 a39.pre t.facts) fun a45=>if(!a45)=true then some true else Option.bind (D6 a39.add t.facts) fun a52=>if(!a52)=true then some true else Option.bind (D6 a39.del t.facts) fun a60=>if(!a60)=true then some true else Option.bind (ad8 a39.add a39.del) fun a68=>some (!a68)) fun t7=>if t7=true then Option.bind (I0 5 iv6) fun a72=>some (.inr a72) else Option.bind (X1 a39.cost 0 100) fun a75=>if(!a75)=true then Option.bind (I0 3 iv6) fun a78=>some (.inr a78) else some (.inl ())
def at9(t:m6):Option k6:=Option.bind (X1 t.facts 0 24) fun a7=>if(!a7)=true then Option.bind (I0 3 (-1)) fun a9=>some a9 else Option.bind (D6 t.init t.facts) fun a14=>if(!a14)=true then Option.bind (I0 5 (-2)) fun a16=>some a16 else Option.bind (D6 t.goal t.facts) fun a21=>if(!a21)=true then Option.bind (I0 5 (-3)) fun a23=>some a23 else if 40<(t.operators.length:Int) then Option.bind (I0 2 (-1)) fun a28=>some a28 else(Option.bind (rngX 0 (t.operators.length:Int) (M8 t) ()) fun| .inl _=>some (⟨0,0⟩:k6)| .inr x=>some x)
def at7(part:Li)(l:Li):Int→Unit→Option (Unit⊕Bool):=fun iv3 _=>Option.bind (ix part iv3) fun a15=>Option.bind (ab3 l a15) fun a17=>if(!a17)=true then some (.inr false) else some (.inl ())
def as7(part:Li)(l:Li):Option Bool:=(Option.bind (rngX 0 (part.length:Int) (at7 part l) ()) fun| .inl _=>some true| .inr x=>some x)
def al4(l:LL)(sv:Li):Int→Unit→Option (Unit⊕Int):=fun iv3 _=>Option.bind (ix l iv3) fun a14=>Option.bind (O6 a14 sv) fun a17=>if a17=true then some (.inr iv3) else some (.inl ())
def av5(l:LL)(sv:Li):Option Int:=(Option.bind (rngX 0 (l.length:Int) (al4 l sv) ()) fun| .inl _=>some (-1)| .inr x=>some x)
def E4(ov:d4)(a42:i5):(Int×Int)→Option ((Int×Int)⊕Int):=fun(ev12,kv13)=>if((decide (kv13<(a42.outcomes.length:Int))) && (decide (ev12=0)))=true then Option.bind (Option.bind (ix a42.outcomes kv13) fun a73=>Option.bind (Option.bind (D6 a73.add ov.facts) fun a79=>if(!a79)=true then some true else Option.bind (D6 a73.del ov.facts) fun a86=>if(!a86)=true then some true else Option.bind (ad8 a73.add a73.del) fun a94=>some (!a94)) fun t18=>if t18=true then some 5 else Option.bind (X1 a73.weight 1 6) fun a99=>if(!a99)=true then some 3 else some ev12) fun ev16=>some (.inl (ev16,w64 (kv13+1))) else some (.inr ev12)
noncomputable def N7(ov:d4):Int→Unit→Option (Unit⊕k6):=fun iv6 _=>Option.bind (ix ov.operators iv6) fun a42=>Option.bind (Option.bind (D6 a42.pre ov.facts) fun a48=>if(!a48)=true then some 5 else Option.bind (X1 a42.cost 0 100) fun a52=>if(!a52)=true then some 3 else Option.bind (X1 (a42.outcomes.length:Int) 1 4) fun a57=>if(!a57)=true then some 9 else some 0) fun ev7=>Option.bind (Loop (E4 ov a42) (ev7,0)) fun ev14=>if ev14=0 then some (.inl ()) else Option.bind (I0 ev14 iv6) fun a105=>some (.inr a105)
noncomputable def ai9(ov:d4):Option k6:=Option.bind (X1 ov.facts 0 24) fun a10=>if(!a10)=true then Option.bind (I0 3 (-1)) fun a12=>some a12 else Option.bind (D6 ov.init ov.facts) fun a17=>if(!a17)=true then Option.bind (I0 5 (-2)) fun a19=>some a19 else Option.bind (D6 ov.goal ov.facts) fun a24=>if(!a24)=true then Option.bind (I0 5 (-3)) fun a26=>some a26 else if 40<(ov.operators.length:Int) then Option.bind (I0 2 (-1)) fun a31=>some a31 else(Option.bind (rngX 0 (ov.operators.length:Int) (N7 ov) ()) fun| .inl _=>some (⟨0,0⟩:k6)| .inr x=>some x)
def ap4(sv:Li):Int→Int→Option Int:=fun iv3 w2=>Option.bind (ix sv iv3) fun a14=>Option.bind (chk0 ((IntKind.u64).wrap a14)) fun u17=>some (w64 (w2+(shlW .i64 1 ((IntKind.u64).wrap a14))))
def al1(sv:Li):Option Int:=(Option.bind (forR 0 (sv.length:Int) (ap4 sv) 0) fun w2=>some w2)
def ai3(ov:d4)(sv:Li)(op:Int):Option Bool:=Option.bind (ix ov.operators op) fun a10=>Option.bind (as7 a10.pre sv) fun a14=>some a14
def at8(sv:Li)(xv:n5):Int→Li→Option Li:=fun p5 c4=>Option.bind (Option.bind (Option.bind (ab3 xv.add p5) fun a18=>if a18=true then some true else Option.bind (ab3 sv p5) fun a22=>if a22=true then Option.bind (ab3 xv.del p5) fun a27=>some (!a27) else some false) fun t8=>if t8=true then Option.bind (app 8 c4 [p5]) fun a34=>some a34 else some c4) fun c6=>some c6
def ak4(ov:d4)(sv:Li)(xv:n5):Option Li:=if ov.facts≤9223372036854775807 then(Option.bind (forR 0 ov.facts (at8 sv xv) []) fun c4=>some c4) else none
def aj9(av:Li)(bv:Li):Int→Option (Int⊕(Unit⊕Bool)):=fun iv3=>if((decide (iv3<(av.length:Int))) && (decide (iv3<(bv.length:Int))))=true then Option.bind (ix av iv3) fun a20=>Option.bind (ix bv iv3) fun a24=>if a20=a24 then some (.inl (w64 (iv3+1))) else Option.bind (ix av iv3) fun a29=>Option.bind (ix bv iv3) fun a33=>some (.inr (.inr (decide (a29<a33)))) else some (.inr (.inl ()))
noncomputable def ac5(av:Li)(bv:Li):Option Bool:=Option.bind (Loop (aj9 av bv) 0) fun| .inl _=>some (decide ((av.length:Int)<(bv.length:Int)))| .inr x=>some x
noncomputable def aj2(l:LL)(sv:Li):Int→Option (Int⊕Int):=fun kv3=>Option.bind (if kv3<(l.length:Int) then Option.bind (ix l kv3) fun a13=>Option.bind (ac5 a13 sv) fun a16=>some a16 else some false) fun t5=>if t5=true then some (.inl (w64 (kv3+1))) else some (.inr kv3)
noncomputable def ak2(l:LL)(sv:Li):Option (LL):=Option.bind (Loop (aj2 l sv) 0) fun kv4=>Option.bind (if kv4<(l.length:Int) then Option.bind (ix l kv4) fun a27=>Option.bind (O6 a27 sv) fun a30=>some a30 else some false) fun t9=>if t9=true then some l else Option.bind (subL l 0 kv4) fun a36=>Option.bind (app 24 ([]:LL) a36) fun a37=>Option.bind (app 24 a37 [sv]) fun a40=>Option.bind (subL l kv4 (l.length:Int)) fun a43=>Option.bind (app 24 a40 a43) fun a44=>some a44
noncomputable def am0(ov:d4)(sv:Li)(a17:i5):Int→(LL)→Option (LL):=fun kv5 states4=>Option.bind (ix a17.outcomes kv5) fun a31=>Option.bind (ak4 ov sv a31) fun a33=>Option.bind (ak2 states4 a33) fun a34=>some a34
def al8(ov:d4)(sv:Li)(a17:i5)(states4:LL):Int→Li→Option Li:=fun kv7 c6=>Option.bind (ix a17.outcomes kv7) fun a49=>Option.bind (ak4 ov sv a49) fun a51=>Option.bind (av5 states4 a51) fun a52=>Option.bind (ix c6 a52) fun a57=>Option.bind (ix a17.outcomes kv7) fun a61=>Option.bind (ix c6 a52) fun a65=>some (c6.set a52.toNat (w64 (a57+a61.weight)))
noncomputable def au7(ov:d4)(sv:Li)(op:Int):Option ((LL)×Li):=Option.bind (ix ov.operators op) fun a17=>(Option.bind (forR 0 (a17.outcomes.length:Int) (am0 ov sv a17) []) fun states4=>Option.bind (mkL 8 (states4.length:Int) 0) fun a37=>(Option.bind (forR 0 (a17.outcomes.length:Int) (al8 ov sv a17 states4) a37) fun c6=>some (states4,c6)))
def ar0:((LL)×Li)→Option (((LL)×Li)⊕((LL)×Bool)):=fun(c11,c12)=>some (.inl (c11,c12))
def ar6:((LL)×Li)→Option (((LL)×Li)⊕((LL)×Bool)):=fun(c17,c18)=>some (.inl (c17,c18))
def T5(most:Int)(a52:(LL)×Li):Int→((LL)×Li)→Option (((LL)×Li)⊕((LL)×Bool)):=fun kv16 (c14,c15)=>Option.bind (ix a52.1 kv16) fun a64=>Option.bind (al1 a64) fun a66=>Option.bind (ab3 c15 a66) fun a67=>if a67=true then ar6 (c14,c15) else if most≤(c14.length:Int) then some (.inr ([],false)) else Option.bind (ix a52.1 kv16) fun a75=>Option.bind (app 24 c14 [a75]) fun a78=>Option.bind (ix a52.1 kv16) fun a82=>Option.bind (al1 a82) fun a84=>Option.bind (app 8 c15 [a84]) fun a86=>ar6 (a78,a86)
noncomputable def R1(ov:d4)(most:Int)(iv5:Int):Int→((LL)×Li)→Option (((LL)×Li)⊕((LL)×Bool)):=fun op10 (c8,c9)=>Option.bind (ix c8 iv5) fun a40=>Option.bind (ai3 ov a40 op10) fun a43=>if(!a43)=true then ar0 (c8,c9) else Option.bind (ix c8 iv5) fun a49=>Option.bind (au7 ov a49 op10) fun a52=>(Option.bind (rngX 0 (a52.1.length:Int) (T5 most a52) (c8,c9)) fun| .inl (c14,c15)=>ar0 (c14,c15)| .inr x=>some (.inr x))
noncomputable def X9(ov:d4)(most:Int):((LL)×Li×Int)→Option (((LL)×Li×Int)⊕((LL)⊕((LL)×Bool))):=fun(c3,c4,iv5)=>if iv5<(c3.length:Int) then(Option.bind (rngX 0 (ov.operators.length:Int) (R1 ov most iv5) (c3,c4)) fun| .inl (c8,c9)=>some (.inl (c8,c9,w64 (iv5+1)))| .inr x=>some (.inr (.inr x))) else some (.inr (.inl c3))
noncomputable def ah5(c6:LL):Int→(LL)→Option (LL):=fun iv22 out21=>Option.bind (ix c6 iv22) fun a96=>Option.bind (ak2 out21 a96) fun a98=>some a98
noncomputable def aa5(ov:d4)(most:Int):Option ((LL)×Bool):=Option.bind (al1 ov.init) fun a21=>Option.bind (app 8 [] [a21]) fun a23=>Option.bind (Loop (X9 ov most) ([ov.init],a23,0)) fun| .inl c6=>(Option.bind (forR 0 (c6.length:Int) (ah5 c6) []) fun out21=>some (out21,true))| .inr x=>some x
noncomputable def J2(ov:d4)(p:List d9):Int→Unit→Option (Unit⊕k6):=fun iv5 _=>Option.bind (Option.bind (ix p iv5) fun a25=>Option.bind (D6 a25.state ov.facts) fun a30=>if(!a30)=true then some true else if 0<iv5 then Option.bind (ix p (iv5 - 1)) fun a39=>Option.bind (ix p iv5) fun a44=>Option.bind (ac5 a39.state a44.state) fun a47=>some (!a47) else some false) fun t6=>if t6=true then Option.bind (I0 5 (w64 ((-9) - iv5))) fun a53=>some (.inr a53) else Option.bind (ix p iv5) fun a56=>Option.bind (X1 a56.operator 0 (w64 ((ov.operators.length:Int) - 1))) fun a63=>if(!a63)=true then Option.bind (I0 3 (w64 ((-9) - iv5))) fun a67=>some (.inr a67) else Option.bind (ix p iv5) fun a71=>Option.bind (ix p iv5) fun a76=>Option.bind (ai3 ov a71.state a76.operator) fun a79=>if(!a79)=true then Option.bind (I0 11 (w64 ((-9) - iv5))) fun a83=>some (.inr a83) else some (.inl ())
noncomputable def ao0(ov:d4)(p:List d9):Option k6:=Option.bind (ai9 ov) fun a8=>if a8.code=0 then if 200<(p.length:Int) then Option.bind (I0 2 (-8)) fun a16=>some a16 else(Option.bind (rngX 0 (p.length:Int) (J2 ov p) ()) fun| .inl _=>some (⟨0,0⟩:k6)| .inr x=>some x) else some a8
end Ab
end
section
namespace Ab
open Go
mutual
theorem C.no_ok0{id:Id}:∀c:C,c.ok 0=true→c.no id=true
 | .imm _,_=>rfl
 | .own _ _ _,h=>by simp[C.ok] at h
 | .ptr _ _ _,h=>by simp[C.ok] at h
 | .fn _ caps,h=>C.noL_ok0 caps h
 | .ifc _ cs _,h=>C.noL_ok0 cs h
 | .map _,h=>by simp[C.ok] at h
theorem C.noL_ok0{id:Id}:∀l:List C,C.okL 0 l=true→C.noL id l=true
 |[],_=>rfl
 |c::r,h=>by
  simp only[C.okL,Bool.and_eq_true] at h
  simp only[C.noL,Bool.and_eq_true]
  exact⟨C.no_ok0 c h.1,C.noL_ok0 r h.2⟩
end
theorem fnNo{id:Id}{f:FuncId}{cv:List C}(h:C.okL 0 cv=true):(C.fn f cv).no id=true:=C.noL_ok0 cv h
theorem fnOk{n:Nat}{f:FuncId}{cv:List C}(h:C.okL 0 cv=true):(C.fn f cv).ok n=true:=C.okL_mono (Nat.zero_le n) cv h
theorem fnMv{π:Id→Id}{o:Option T}{f:FuncId}{cv:List C}(h:C.okL 0 cv=true)(e:o=some (.c (.fn f cv))):o=some ((T.c (.fn f cv)).ren π):=by
 rw[e]
 simp only[T.ren,C.ren]
 rw[C.renL_ok (m:=0) (fun i hi=>absurd hi (Nat.not_lt_zero _)) cv h]
theorem eOk1{n t:Nat}{v:T}{r:Env}(h:v.ok n=true)(hr:envOk n r=true):envOk n ((t,v)::r)=true:=by
 simp only[envOk,h,hr,Bool.and_self]
section
open Go.Proofs
variable {P:Program} {σ0:b6} {sz:Nat} {Q:Post} {env:Env} {σv:b6} {ops:Array Oper} {rest:List Oper}
def XAny(id:Id)(k:Nat)(es:List (List I)):C→C→Prop:=fun c c'=>c.frz id k es=c'
theorem AOps.frzB{e:List I}{id:Id}{k:Nat}{env2:Env}{σ1 σ2:b6}(hid:Nat.ble σ0.length id.1=true)(hσ:σv[id]? =some (some (Blk.im k [e])))(henv:ac7 id (XAny id k [e]) env env2)(h1:putF σv id none=some σ1)(hst:FrzS id (XAny id k [e]) σ1 σ2)
  (h:AOps P σ0 sz ops Q rest (St.mk env2 σ2)):AOps P σ0 sz ops Q rest (St.mk env σv):=AOps.sub (Sub.frzX (fun _ _ h=>h) hid hσ henv h1 hst) h
end
end Ab
end
section
namespace Go.Proofs
open Go.Shelf
open Tryz
def Tryz.lays215_ren:Go.Shelf.Ren:=⟨fun|215=>124|n=>n,fun|3=>3|4=>4|n=>n,fun|n=>n⟩
theorem Tryz.lays215:Go.Proofs.Lays.n215 prog Tryz.lays215_ren:={
 mixed:=by kernel_rfl
 f215:=func124.trans (congrArg some (by kernel_rfl))
 t3:=underlying3
 a3:=isAgg3
 z3:=sizeOf3
 v3:=zeroValue3
 t4:=underlying4
 a4:=isAgg4
 z4:=sizeOf4
 v4:=zeroValue4}
open Go.RowKit in
theorem Tryz.cmp_isNaN_int(x:Int)(w:World):
  Calls prog 124 #[.int .i64 x] w fun e w'=>e=.returned (.bool false)∧w'=w:=Any.cmp_isNaN_int Tryz.lays215 x w
def Tryz.lays122_ren:Go.Shelf.Ren:=⟨fun|122=>95|215=>124|n=>n,fun|3=>3|4=>4|n=>n,fun|n=>n⟩
theorem Tryz.lays122:Go.Proofs.Lays.n122 prog Tryz.lays122_ren:={
 mixed:=by kernel_rfl
 f122:=func95.trans (congrArg some (by kernel_rfl))
 f215:=func124.trans (congrArg some (by kernel_rfl))
 t3:=underlying3
 a3:=isAgg3
 z3:=sizeOf3
 v3:=zeroValue3
 t4:=underlying4
 a4:=isAgg4
 z4:=sizeOf4
 v4:=zeroValue4}
open Go.RowKit in
theorem Tryz.cmp_Compare_int(x y:Int)(w:World):
  Calls prog 95 #[.int .i64 x,.int .i64 y] w fun e w'=>e=.returned (.int .i64 (Lib.compareInt x y))∧w'=w:=Any.cmp_Compare_int Tryz.lays122 x y w
def Tryz.lays283_ren:Go.Shelf.Ren:=⟨fun|283=>172|n=>n,fun|3=>3|9=>9|4=>4|n=>n,fun|n=>n⟩
theorem Tryz.lays283:Go.Proofs.Lays.n283 prog Tryz.lays283_ren:={
 mixed:=by kernel_rfl
 f283:=func172.trans (congrArg some (by kernel_rfl))
 t3:=underlying3
 a3:=isAgg3
 z3:=sizeOf3
 v3:=zeroValue3
 t4:=underlying4
 a4:=isAgg4
 z4:=sizeOf4
 v4:=zeroValue4
 t9:=underlying9
 a9:=isAgg9
 z9:=sizeOf9
 v9:=zeroValue9}
open Go.Lib in
theorem Tryz.internal_strconv_small(i:Nat)(h:i<100)(w:World):
  Calls prog 172 #[.int .i64 i] w fun e w'=>e=.returned (.string ⟨(Lib.decDigits i).toArray⟩)∧w'=w:=Any.internal_strconv_small Tryz.lays283 i h w
def Tryz.lays189_ren:Go.Shelf.Ren:=⟨fun|189=>87|125=>103|257=>121|128=>136|129=>137|294=>144|295=>145|296=>146|297=>147|298=>148|299=>149|216=>119|300=>150|301=>151|328=>168|329=>155|330=>156|331=>169|332=>170|215=>124|343=>179|n=>n,fun|28=>22|3=>3|46=>163|0=>0|51=>81|53=>210|4=>4|183=>216|182=>215|131=>104|5=>5|9=>9|218=>239|222=>243|228=>253|229=>254|n=>n,fun|n=>n⟩
theorem Tryz.lays189:Go.Proofs.Lays.n189 prog Tryz.lays189_ren:={
 mixed:=by kernel_rfl
 f125:=func103.trans (congrArg some (by kernel_rfl))
 f128:=func136.trans (congrArg some (by kernel_rfl))
 f129:=func137.trans (congrArg some (by kernel_rfl))
 f189:=func87.trans (congrArg some (by kernel_rfl))
 f215:=func124.trans (congrArg some (by kernel_rfl))
 f216:=func119.trans (congrArg some (by kernel_rfl))
 f257:=func121.trans (congrArg some (by kernel_rfl))
 f294:=func144.trans (congrArg some (by kernel_rfl))
 f295:=func145.trans (congrArg some (by kernel_rfl))
 f296:=func146.trans (congrArg some (by kernel_rfl))
 f297:=func147.trans (congrArg some (by kernel_rfl))
 f298:=func148.trans (congrArg some (by kernel_rfl))
 f299:=func149.trans (congrArg some (by kernel_rfl))
 f300:=func150.trans (congrArg some (by kernel_rfl))
 f301:=func151.trans (congrArg some (by kernel_rfl))
 f328:=func168.trans (congrArg some (by kernel_rfl))
 f329:=func155.trans (congrArg some (by kernel_rfl))
 f330:=func156.trans (congrArg some (by kernel_rfl))
 f331:=func169.trans (congrArg some (by kernel_rfl))
 f332:=func170.trans (congrArg some (by kernel_rfl))
 f343:=func179.trans (congrArg some (by kernel_rfl))
 t0:=underlying0
 a0:=isAgg0
 z0:=sizeOf0
 v0:=zeroValue0
 t3:=underlying3
 a3:=isAgg3
 z3:=sizeOf3
 v3:=zeroValue3
 t4:=underlying4
 a4:=isAgg4
 z4:=sizeOf4
 v4:=zeroValue4
 t5:=underlying5
 a5:=isAgg5
 z5:=sizeOf5
 v5:=zeroValue5
 t9:=underlying9
 a9:=isAgg9
 z9:=sizeOf9
 v9:=zeroValue9
 t28:=underlying22
 a28:=isAgg22
 z28:=sizeOf22
 v28:=zeroValue22
 t46:=underlying163
 a46:=isAgg163
 z46:=sizeOf163
 v46:=zeroValue163
 t51:=underlying81
 a51:=isAgg81
 z51:=sizeOf81
 v51:=zeroValue81
 t53:=underlying210
 a53:=isAgg210
 z53:=sizeOf210
 v53:=zeroValue210
 t131:=underlying104
 a131:=isAgg104
 z131:=sizeOf104
 v131:=zeroValue104
 t182:=underlying215
 a182:=isAgg215
 z182:=sizeOf215
 v182:=zeroValue215
 t183:=underlying216
 a183:=isAgg216
 z183:=sizeOf216
 v183:=zeroValue216
 t218:=underlying239
 a218:=isAgg239
 z218:=sizeOf239
 v218:=zeroValue239
 t222:=underlying243
 a222:=isAgg243
 z222:=sizeOf243
 v222:=zeroValue243
 t228:=underlying253
 a228:=isAgg253
 z228:=sizeOf253
 v228:=zeroValue253
 t229:=underlying254
 a229:=isAgg254
 z229:=sizeOf254
 v229:=zeroValue254}
open Go.Sort Go.RowKit in
theorem Tryz.slices_Sort_int(blk off cap:Nat)(zs:List Int)(w:World)(hH:Holds (Value.int .i64) w blk off zs.toArray)(hblk:blk<w.heap.size)(hsz:zs.length<4611686018427387904):
  Calls prog 87 #[.slice (some ⟨blk,off,none⟩) zs.length cap] w fun e w'=>
   e=.returned (.tuple #[])∧∃n os,w'=grow (putRow (Value.int .i64) (Sort.ahead w n) blk off (zs.mergeSort fun x y=>decide (x≤y)).toArray) os:=Any.slices_Sort_int Tryz.lays189 blk off cap zs w hH hblk hsz
def Tryz.laysNm220_ren:Go.Shelf.Ren:=⟨fun|20=>88|n=>n,fun|22=>22|3=>3|4=>4|0=>0|n=>n,fun|n=>n⟩
theorem Tryz.laysNm220:Go.Proofs.Lays2.n20 prog Tryz.laysNm220_ren:={
 mixed:=by kernel_rfl
 f20:=func88.trans (congrArg some (by kernel_rfl))
 t0:=underlying0
 a0:=isAgg0
 z0:=sizeOf0
 v0:=zeroValue0
 t3:=underlying3
 a3:=isAgg3
 z3:=sizeOf3
 v3:=zeroValue3
 t4:=underlying4
 a4:=isAgg4
 z4:=sizeOf4
 v4:=zeroValue4
 t22:=underlying22
 a22:=isAgg22
 z22:=sizeOf22
 v22:=zeroValue22
 i3:=by kernel_rfl}
open Go.RowKit Go.Lib Go.Sort in
theorem Tryz.slices_Compact_int(blk off cap:Nat)(zs:List Int)(w:World)(hH:Holds (Value.int .i64) w blk off zs.toArray)(hsz:zs.length≤9223372036854775807)(hcap:zs.length≤cap):
  Calls prog 88 #[.slice (some ⟨blk,off,none⟩) zs.length cap] w fun e w'=>e=.returned (.slice (some ⟨blk,off,none⟩) (Lib.compact zs).length cap)∧∃q,w'=putRow (Value.int .i64) (Sort.ahead w q) blk off (Lib.compact zs++List.replicate (zs.length - (Lib.compact zs).length) 0).toArray:=Any.slices_Compact_int Tryz.laysNm220 blk off cap zs w hH hsz hcap
open Go.RowKit Go.Lib Go.Sort in
theorem Tryz.slices_Compact_int_empty(a:Option Addr)(cap:Nat)(w:World):
  Calls prog 88 #[.slice a 0 cap] w fun e w'=>e=.returned (.slice a 0 cap)∧w'=w:=Any.slices_Compact_int_empty Tryz.laysNm220 a cap w
open Go.RowKit Go.Sort in
theorem Tryz.slices_Sort_int_none(p:Option Addr)(cap:Nat)(w:World):
  Calls prog 87 #[.slice p 0 cap] w fun e w'=>e=.returned (.tuple #[])∧w'=w:=Any.slices_Sort_int_none Tryz.lays189 p cap w
def Tryz.laysSlF6_f61_ren:Go.Shelf.Ren:=⟨fun|6=>61|15=>103|14=>102|28=>136|29=>137|20=>128|21=>129|22=>130|23=>131|24=>132|25=>133|26=>134|27=>135|46=>154|47=>155|48=>156|49=>157|50=>158|57=>171|n=>n,fun|22=>76|24=>81|25=>120|3=>3|39=>163|0=>0|53=>81|55=>210|4=>4|46=>216|45=>215|50=>104|5=>5|9=>9|66=>239|70=>243|76=>253|77=>254|n=>n,fun|n=>n⟩
theorem Tryz.laysSlF6_f61:Go.Proofs.SlLaysF.n6 prog Tryz.laysSlF6_f61_ren:={
 mixed:=by kernel_rfl
 f6:=⟨Tryz.f61.name,by decide,func61.trans (congrArg some (by kernel_rfl))⟩
 f14:=⟨Tryz.f102.name,by decide,func102.trans (congrArg some (by kernel_rfl))⟩
 f15:=func103.trans (congrArg some (by kernel_rfl))
 f20:=⟨Tryz.f128.name,by decide,func128.trans (congrArg some (by kernel_rfl))⟩
 f21:=⟨Tryz.f129.name,by decide,func129.trans (congrArg some (by kernel_rfl))⟩
 f22:=⟨Tryz.f130.name,by decide,func130.trans (congrArg some (by kernel_rfl))⟩
 f23:=⟨Tryz.f131.name,by decide,func131.trans (congrArg some (by kernel_rfl))⟩
 f24:=⟨Tryz.f132.name,by decide,func132.trans (congrArg some (by kernel_rfl))⟩
 f25:=⟨Tryz.f133.name,by decide,func133.trans (congrArg some (by kernel_rfl))⟩
 f26:=⟨Tryz.f134.name,by decide,func134.trans (congrArg some (by kernel_rfl))⟩
 f27:=⟨Tryz.f135.name,by decide,func135.trans (congrArg some (by kernel_rfl))⟩
 f28:=func136.trans (congrArg some (by kernel_rfl))
 f29:=func137.trans (congrArg some (by kernel_rfl))
 f46:=⟨Tryz.f154.name,by decide,func154.trans (congrArg some (by kernel_rfl))⟩
 f47:=func155.trans (congrArg some (by kernel_rfl))
 f48:=func156.trans (congrArg some (by kernel_rfl))
 f49:=⟨Tryz.f157.name,by decide,func157.trans (congrArg some (by kernel_rfl))⟩
 f50:=⟨Tryz.f158.name,by decide,func158.trans (congrArg some (by kernel_rfl))⟩
 f57:=⟨Tryz.f171.name,by decide,func171.trans (congrArg some (by kernel_rfl))⟩
 t0:=underlying0
 a0:=isAgg0
 z0:=sizeOf0
 v0:=zeroValue0
 t3:=underlying3
 a3:=isAgg3
 z3:=sizeOf3
 v3:=zeroValue3
 t4:=underlying4
 a4:=isAgg4
 z4:=sizeOf4
 v4:=zeroValue4
 t5:=underlying5
 a5:=isAgg5
 z5:=sizeOf5
 v5:=zeroValue5
 t9:=underlying9
 a9:=isAgg9
 z9:=sizeOf9
 v9:=zeroValue9
 t22:=underlying76
 a22:=isAgg76
 z22:=sizeOf76
 v22:=zeroValue76
 a24:=isAgg81
 z24:=sizeOf81
 t25:=underlying120
 a25:=isAgg120
 z25:=sizeOf120
 v25:=zeroValue120
 t39:=underlying163
 a39:=isAgg163
 z39:=sizeOf163
 v39:=zeroValue163
 t45:=underlying215
 a45:=isAgg215
 z45:=sizeOf215
 v45:=zeroValue215
 t46:=underlying216
 a46:=isAgg216
 z46:=sizeOf216
 v46:=zeroValue216
 t50:=underlying104
 a50:=isAgg104
 z50:=sizeOf104
 v50:=zeroValue104
 t53:=underlying81
 a53:=isAgg81
 z53:=sizeOf81
 v53:=zeroValue81
 t55:=underlying210
 a55:=isAgg210
 z55:=sizeOf210
 v55:=zeroValue210
 t66:=underlying239
 a66:=isAgg239
 z66:=sizeOf239
 v66:=zeroValue239
 t70:=underlying243
 a70:=isAgg243
 z70:=sizeOf243
 v70:=zeroValue243
 t76:=underlying253
 a76:=isAgg253
 z76:=sizeOf253
 v76:=zeroValue253
 t77:=underlying254
 a77:=isAgg254
 z77:=sizeOf254
 v77:=zeroValue254}
def Tryz.laysSlF6_f117_ren:Go.Shelf.Ren:=⟨fun|6=>117|15=>103|14=>143|28=>136|29=>137|20=>160|21=>161|22=>162|23=>163|24=>164|25=>165|26=>166|27=>167|46=>176|47=>155|48=>156|49=>177|50=>178|57=>184|n=>n,fun|22=>46|24=>22|25=>106|3=>3|39=>163|0=>0|53=>81|55=>210|4=>4|46=>216|45=>215|50=>104|5=>5|9=>9|66=>239|70=>243|76=>253|77=>254|n=>n,fun|n=>n⟩
theorem Tryz.laysSlF6_f117:Go.Proofs.SlLaysF.n6 prog Tryz.laysSlF6_f117_ren:={
 mixed:=by kernel_rfl
 f6:=⟨Tryz.f117.name,by decide,func117.trans (congrArg some (by kernel_rfl))⟩
 f14:=⟨Tryz.f143.name,by decide,func143.trans (congrArg some (by kernel_rfl))⟩
 f15:=func103.trans (congrArg some (by kernel_rfl))
 f20:=⟨Tryz.f160.name,by decide,func160.trans (congrArg some (by kernel_rfl))⟩
 f21:=⟨Tryz.f161.name,by decide,func161.trans (congrArg some (by kernel_rfl))⟩
 f22:=⟨Tryz.f162.name,by decide,func162.trans (congrArg some (by kernel_rfl))⟩
 f23:=⟨Tryz.f163.name,by decide,func163.trans (congrArg some (by kernel_rfl))⟩
 f24:=⟨Tryz.f164.name,by decide,func164.trans (congrArg some (by kernel_rfl))⟩
 f25:=⟨Tryz.f165.name,by decide,func165.trans (congrArg some (by kernel_rfl))⟩
 f26:=⟨Tryz.f166.name,by decide,func166.trans (congrArg some (by kernel_rfl))⟩
 f27:=⟨Tryz.f167.name,by decide,func167.trans (congrArg some (by kernel_rfl))⟩
 f28:=func136.trans (congrArg some (by kernel_rfl))
 f29:=func137.trans (congrArg some (by kernel_rfl))
 f46:=⟨Tryz.f176.name,by decide,func176.trans (congrArg some (by kernel_rfl))⟩
 f47:=func155.trans (congrArg some (by kernel_rfl))
 f48:=func156.trans (congrArg some (by kernel_rfl))
 f49:=⟨Tryz.f177.name,by decide,func177.trans (congrArg some (by kernel_rfl))⟩
 f50:=⟨Tryz.f178.name,by decide,func178.trans (congrArg some (by kernel_rfl))⟩
 f57:=⟨Tryz.f184.name,by decide,func184.trans (congrArg some (by kernel_rfl))⟩
 t0:=underlying0
 a0:=isAgg0
 z0:=sizeOf0
 v0:=zeroValue0
 t3:=underlying3
 a3:=isAgg3
 z3:=sizeOf3
 v3:=zeroValue3
 t4:=underlying4
 a4:=isAgg4
 z4:=sizeOf4
 v4:=zeroValue4
 t5:=underlying5
 a5:=isAgg5
 z5:=sizeOf5
 v5:=zeroValue5
 t9:=underlying9
 a9:=isAgg9
 z9:=sizeOf9
 v9:=zeroValue9
 t22:=underlying46
 a22:=isAgg46
 z22:=sizeOf46
 v22:=zeroValue46
 a24:=isAgg22
 z24:=sizeOf22
 t25:=underlying106
 a25:=isAgg106
 z25:=sizeOf106
 v25:=zeroValue106
 t39:=underlying163
 a39:=isAgg163
 z39:=sizeOf163
 v39:=zeroValue163
 t45:=underlying215
 a45:=isAgg215
 z45:=sizeOf215
 v45:=zeroValue215
 t46:=underlying216
 a46:=isAgg216
 z46:=sizeOf216
 v46:=zeroValue216
 t50:=underlying104
 a50:=isAgg104
 z50:=sizeOf104
 v50:=zeroValue104
 t53:=underlying81
 a53:=isAgg81
 z53:=sizeOf81
 v53:=zeroValue81
 t55:=underlying210
 a55:=isAgg210
 z55:=sizeOf210
 v55:=zeroValue210
 t66:=underlying239
 a66:=isAgg239
 z66:=sizeOf239
 v66:=zeroValue239
 t70:=underlying243
 a70:=isAgg243
 z70:=sizeOf243
 v70:=zeroValue243
 t76:=underlying253
 a76:=isAgg253
 z76:=sizeOf253
 v76:=zeroValue253
 t77:=underlying254
 a77:=isAgg254
 z77:=sizeOf254
 v77:=zeroValue254}
open Go.RowKit Go.Lib Go.Sort in
theorem Tryz.slices_SortFunc_f61{α:Type}[Inhabited α](enc:α→Value)(h1:OneCell enc)(cf:α→α→Int)(hO:SWO (ltOf cf))(g:Nat)(cb:Array Value)(blk off cap:Nat)(d:Array α)(w:World)(eg:∀args w,(callFunc g args).run prog w=.ok (.enter g args) w)(hcmp:CmpLays1 prog g cb enc cf blk off d.size w)(hH:Holds enc w blk off d)(hblk:blk<w.heap.size)(hsz:d.size<4611686018427387904):
  Calls prog 61 #[.slice (some ⟨blk,off,none⟩) d.size cap,.func (.func g) #[] cb] w fun e w'=>
   e=.returned (.tuple #[])∧∃d' n os,PermIn 0 d.size d d'∧SortedIn (ltOf cf) 0 d.size d'∧w'=sortWorld enc w blk off n d' os:=Any.slices_SortFunc Tryz.laysSlF6_f61 enc h1 cf hO g cb blk off cap d w eg hcmp hH hblk hsz
open Go.RowKit Go.Lib Go.Sort in
theorem Tryz.slices_SortFunc_f117{α:Type}[Inhabited α](enc:α→Value)(h1:OneCell enc)(cf:α→α→Int)(hO:SWO (ltOf cf))(g:Nat)(cb:Array Value)(blk off cap:Nat)(d:Array α)(w:World)(eg:∀args w,(callFunc g args).run prog w=.ok (.enter g args) w)(hcmp:CmpLays1 prog g cb enc cf blk off d.size w)(hH:Holds enc w blk off d)(hblk:blk<w.heap.size)(hsz:d.size<4611686018427387904):
  Calls prog 117 #[.slice (some ⟨blk,off,none⟩) d.size cap,.func (.func g) #[] cb] w fun e w'=>
   e=.returned (.tuple #[])∧∃d' n os,PermIn 0 d.size d d'∧SortedIn (ltOf cf) 0 d.size d'∧w'=sortWorld enc w blk off n d' os:=Any.slices_SortFunc Tryz.laysSlF6_f117 enc h1 cf hO g cb blk off cap d w eg hcmp hH hblk hsz
def Tryz.laysSlF06_f61_ren:Go.Shelf.Ren:=⟨fun|6=>61|15=>103|14=>102|28=>136|29=>137|20=>128|21=>129|22=>130|23=>131|24=>132|25=>133|26=>134|27=>135|46=>154|47=>155|48=>156|49=>157|50=>158|57=>171|n=>n,fun|22=>76|24=>81|25=>120|3=>3|39=>163|0=>0|53=>81|55=>210|4=>4|46=>216|45=>215|50=>104|5=>5|9=>9|66=>239|70=>243|76=>253|77=>254|n=>n,fun|n=>n⟩
theorem Tryz.laysSlF06_f61:Go.Proofs.SlLaysF0.n6 prog Tryz.laysSlF06_f61_ren:={
 mixed:=by kernel_rfl
 f6:=⟨Tryz.f61.name,by decide,func61.trans (congrArg some (by kernel_rfl))⟩
 f14:=⟨Tryz.f102.name,by decide,func102.trans (congrArg some (by kernel_rfl))⟩
 f15:=func103.trans (congrArg some (by kernel_rfl))
 f20:=⟨Tryz.f128.name,by decide,func128.trans (congrArg some (by kernel_rfl))⟩
 f21:=⟨Tryz.f129.name,by decide,func129.trans (congrArg some (by kernel_rfl))⟩
 f22:=⟨Tryz.f130.name,by decide,func130.trans (congrArg some (by kernel_rfl))⟩
 f23:=⟨Tryz.f131.name,by decide,func131.trans (congrArg some (by kernel_rfl))⟩
 f24:=⟨Tryz.f132.name,by decide,func132.trans (congrArg some (by kernel_rfl))⟩
 f25:=⟨Tryz.f133.name,by decide,func133.trans (congrArg some (by kernel_rfl))⟩
 f26:=⟨Tryz.f134.name,by decide,func134.trans (congrArg some (by kernel_rfl))⟩
 f27:=⟨Tryz.f135.name,by decide,func135.trans (congrArg some (by kernel_rfl))⟩
 f28:=func136.trans (congrArg some (by kernel_rfl))
 f29:=func137.trans (congrArg some (by kernel_rfl))
 f46:=⟨Tryz.f154.name,by decide,func154.trans (congrArg some (by kernel_rfl))⟩
 f47:=func155.trans (congrArg some (by kernel_rfl))
 f48:=func156.trans (congrArg some (by kernel_rfl))
 f49:=⟨Tryz.f157.name,by decide,func157.trans (congrArg some (by kernel_rfl))⟩
 f50:=⟨Tryz.f158.name,by decide,func158.trans (congrArg some (by kernel_rfl))⟩
 f57:=⟨Tryz.f171.name,by decide,func171.trans (congrArg some (by kernel_rfl))⟩
 t0:=underlying0
 a0:=isAgg0
 z0:=sizeOf0
 v0:=zeroValue0
 t3:=underlying3
 a3:=isAgg3
 z3:=sizeOf3
 v3:=zeroValue3
 t4:=underlying4
 a4:=isAgg4
 z4:=sizeOf4
 v4:=zeroValue4
 t5:=underlying5
 a5:=isAgg5
 z5:=sizeOf5
 v5:=zeroValue5
 t9:=underlying9
 a9:=isAgg9
 z9:=sizeOf9
 v9:=zeroValue9
 t22:=underlying76
 a22:=isAgg76
 z22:=sizeOf76
 v22:=zeroValue76
 t25:=underlying120
 a25:=isAgg120
 z25:=sizeOf120
 v25:=zeroValue120
 t39:=underlying163
 a39:=isAgg163
 z39:=sizeOf163
 v39:=zeroValue163
 t45:=underlying215
 a45:=isAgg215
 z45:=sizeOf215
 v45:=zeroValue215
 t46:=underlying216
 a46:=isAgg216
 z46:=sizeOf216
 v46:=zeroValue216
 t50:=underlying104
 a50:=isAgg104
 z50:=sizeOf104
 v50:=zeroValue104
 t53:=underlying81
 a53:=isAgg81
 z53:=sizeOf81
 v53:=zeroValue81
 t55:=underlying210
 a55:=isAgg210
 z55:=sizeOf210
 v55:=zeroValue210
 t66:=underlying239
 a66:=isAgg239
 z66:=sizeOf239
 v66:=zeroValue239
 t70:=underlying243
 a70:=isAgg243
 z70:=sizeOf243
 v70:=zeroValue243
 t76:=underlying253
 a76:=isAgg253
 z76:=sizeOf253
 v76:=zeroValue253
 t77:=underlying254
 a77:=isAgg254
 z77:=sizeOf254
 v77:=zeroValue254}
open Go.RowKit Go.Lib Go.Sort in
theorem Tryz.slices_SortFunc_none_f61{α:Type}[Inhabited α](p:Option Addr)(cap:Nat)(fv:Value)(w:World):
  Calls prog 61 #[.slice p 0 cap,fv] w fun e w'=>e=.returned (.tuple #[])∧w'=w:=AnyF.slices_SortFunc_none Tryz.laysSlF06_f61 p cap fv w
def Tryz.laysSlF06_f117_ren:Go.Shelf.Ren:=⟨fun|6=>117|15=>103|14=>143|28=>136|29=>137|20=>160|21=>161|22=>162|23=>163|24=>164|25=>165|26=>166|27=>167|46=>176|47=>155|48=>156|49=>177|50=>178|57=>184|n=>n,fun|22=>46|24=>22|25=>106|3=>3|39=>163|0=>0|53=>81|55=>210|4=>4|46=>216|45=>215|50=>104|5=>5|9=>9|66=>239|70=>243|76=>253|77=>254|n=>n,fun|n=>n⟩
theorem Tryz.laysSlF06_f117:Go.Proofs.SlLaysF0.n6 prog Tryz.laysSlF06_f117_ren:={
 mixed:=by kernel_rfl
 f6:=⟨Tryz.f117.name,by decide,func117.trans (congrArg some (by kernel_rfl))⟩
 f14:=⟨Tryz.f143.name,by decide,func143.trans (congrArg some (by kernel_rfl))⟩
 f15:=func103.trans (congrArg some (by kernel_rfl))
 f20:=⟨Tryz.f160.name,by decide,func160.trans (congrArg some (by kernel_rfl))⟩
 f21:=⟨Tryz.f161.name,by decide,func161.trans (congrArg some (by kernel_rfl))⟩
 f22:=⟨Tryz.f162.name,by decide,func162.trans (congrArg some (by kernel_rfl))⟩
 f23:=⟨Tryz.f163.name,by decide,func163.trans (congrArg some (by kernel_rfl))⟩
 f24:=⟨Tryz.f164.name,by decide,func164.trans (congrArg some (by kernel_rfl))⟩
 f25:=⟨Tryz.f165.name,by decide,func165.trans (congrArg some (by kernel_rfl))⟩
 f26:=⟨Tryz.f166.name,by decide,func166.trans (congrArg some (by kernel_rfl))⟩
 f27:=⟨Tryz.f167.name,by decide,func167.trans (congrArg some (by kernel_rfl))⟩
 f28:=func136.trans (congrArg some (by kernel_rfl))
 f29:=func137.trans (congrArg some (by kernel_rfl))
 f46:=⟨Tryz.f176.name,by decide,func176.trans (congrArg some (by kernel_rfl))⟩
 f47:=func155.trans (congrArg some (by kernel_rfl))
 f48:=func156.trans (congrArg some (by kernel_rfl))
 f49:=⟨Tryz.f177.name,by decide,func177.trans (congrArg some (by kernel_rfl))⟩
 f50:=⟨Tryz.f178.name,by decide,func178.trans (congrArg some (by kernel_rfl))⟩
 f57:=⟨Tryz.f184.name,by decide,func184.trans (congrArg some (by kernel_rfl))⟩
 t0:=underlying0
 a0:=isAgg0
 z0:=sizeOf0
 v0:=zeroValue0
 t3:=underlying3
 a3:=isAgg3
 z3:=sizeOf3
 v3:=zeroValue3
 t4:=underlying4
 a4:=isAgg4
 z4:=sizeOf4
 v4:=zeroValue4
 t5:=underlying5
 a5:=isAgg5
 z5:=sizeOf5
 v5:=zeroValue5
 t9:=underlying9
 a9:=isAgg9
 z9:=sizeOf9
 v9:=zeroValue9
 t22:=underlying46
 a22:=isAgg46
 z22:=sizeOf46
 v22:=zeroValue46
 t25:=underlying106
 a25:=isAgg106
 z25:=sizeOf106
 v25:=zeroValue106
 t39:=underlying163
 a39:=isAgg163
 z39:=sizeOf163
 v39:=zeroValue163
 t45:=underlying215
 a45:=isAgg215
 z45:=sizeOf215
 v45:=zeroValue215
 t46:=underlying216
 a46:=isAgg216
 z46:=sizeOf216
 v46:=zeroValue216
 t50:=underlying104
 a50:=isAgg104
 z50:=sizeOf104
 v50:=zeroValue104
 t53:=underlying81
 a53:=isAgg81
 z53:=sizeOf81
 v53:=zeroValue81
 t55:=underlying210
 a55:=isAgg210
 z55:=sizeOf210
 v55:=zeroValue210
 t66:=underlying239
 a66:=isAgg239
 z66:=sizeOf239
 v66:=zeroValue239
 t70:=underlying243
 a70:=isAgg243
 z70:=sizeOf243
 v70:=zeroValue243
 t76:=underlying253
 a76:=isAgg253
 z76:=sizeOf253
 v76:=zeroValue253
 t77:=underlying254
 a77:=isAgg254
 z77:=sizeOf254
 v77:=zeroValue254}
open Go.RowKit Go.Lib Go.Sort in
theorem Tryz.slices_SortFunc_none_f117{α:Type}[Inhabited α](p:Option Addr)(cap:Nat)(fv:Value)(w:World):
  Calls prog 117 #[.slice p 0 cap,fv] w fun e w'=>e=.returned (.tuple #[])∧w'=w:=AnyF.slices_SortFunc_none Tryz.laysSlF06_f117 p cap fv w
end Go.Proofs
end
section
namespace Ab
open Go Go.Proofs
open Tryz
theorem sort_facts:U6 prog 87:=⟨_,func87,rfl,rfl⟩
theorem compact_facts:U6 prog 88:=⟨_,func88,rfl,rfl⟩
theorem sortL_ok:SortOk prog 87:=fun hσ hl=>sort_fn sort_facts (fun blk off cap zs w hH hb hs=>Tryz.slices_Sort_int blk off cap zs w hH hb hs) (fun p cap w=>Tryz.slices_Sort_int_none p cap w) hσ hl
theorem compactL_ok:CompactOk prog 88:=fun hσ=>compact_fn compact_facts (fun blk off cap zs w hH hs hc=>Tryz.slices_Compact_int blk off cap zs w hH hs hc) (fun a cap w=>Tryz.slices_Compact_int_empty a cap w) hσ
end Ab
end
section
namespace Ab
open Go Go.Proofs
open Tryz
theorem sortF_facts:U6 prog 117:=⟨_,func117,rfl,rfl⟩
theorem sortF_LLi64_ok:SortFOk prog 117:=fun hgn hO hT hg _ _ _ hσ hl=>sortF_fn sortF_facts hgn hO hT hg (fun β _ enc h1 cf hO g cb blk off cap d w eg hcmp hH hblk hsz=>Tryz.slices_SortFunc_f117 enc h1 cf hO g cb blk off cap d w eg hcmp hH hblk hsz) (fun p cap fv w=>Tryz.slices_SortFunc_none_f117 (α:=Unit) p cap fv w) hσ hl
end Ab
end
section
namespace Ab
open Go Go.Proofs
open Tryz
theorem sortU_facts:U6 prog 61:=⟨_,func61,rfl,rfl⟩
theorem sortF_Lu32_ok:SortFOk prog 61:=fun hgn hO hT hg _ _ _ hσ hl=>sortF_fn sortU_facts hgn hO hT hg (fun β _ enc h1 cf hO g cb blk off cap d w eg hcmp hH hblk hsz=>Tryz.slices_SortFunc_f61 enc h1 cf hO g cb blk off cap d w eg hcmp hH hblk hsz) (fun p cap fv w=>Tryz.slices_SortFunc_none_f61 (α:=Unit) p cap fv w) hσ hl
end Ab
end
section
namespace Ab
open Go Go.Proofs
end Ab
end
